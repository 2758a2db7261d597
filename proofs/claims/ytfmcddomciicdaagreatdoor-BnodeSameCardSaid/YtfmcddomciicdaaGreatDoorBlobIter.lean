/- Package blob, walked: words, an iterator over a record's words: its contract. Conditions: the store's records are as said; the handle names one. -/
import Derived.Test.YtfmcddomciicdaaGreatDoorCollect
import Derived.Test.YtfmcddomciicdaaGreatDoorNodeWalk
set_option linter.unusedVariables false
set_option linter.unusedSimpArgs false
set_option maxRecDepth 100000
namespace Go.Proofs.YtfmcddomciicdaaGreatDoor
open Go Go.RowKit Go.Shelf

attribute [local go_sem] Oper.semAt_some

variable {F0 : Nat → Prop} {w0 w : World} {Ps : List Res}

theorem bwords_call (b : Nat) (hh : Int) (w : World) : Calls Tryz.prog 107 #[.pointer (some ⟨b, 0, none⟩), .int .u64 hh] w fun e w' => e = .returned (.func (.func 145) #[] #[.pointer (some ⟨w.heap.size, 0, none⟩), .pointer (some ⟨w.heap.size + 1, 0, none⟩)]) ∧ (w.alloc (.cells #[.pointer (some ⟨b, 0, none⟩)] 25)).alloc (.cells #[.int .u64 hh] 45) = w' := by
  go_enter Tryz.func107, Tryz.ntmps107
  go_wp2
  go_ret
  exact ⟨rfl, rfl⟩

section
variable {b : Nat} {m la : Int} {S S' : Slb} {T T' : HTbl} {H H' : List Ent} {R R' : List Rc}
set_option maxRecDepth 100000 in
set_option maxHeartbeats 2000000 in
theorem bwords_stops {wB : World} (hS : Sep F0 w0 wB Ps) (i : Nat) (hi : Ps[i]? = some (stR b m la S T)) (I : StInv S T H R) {hh : Int} (h0 : 0 ≤ hh ∧ hh < 18446744073709551616) {j : Nat} {r : Rc} (L : Rec R hh j r) (hrl : r.w.length ≤ 1000000) (B1 B2 : Nat) (w : World) (hBw : Below wB.heap.size wB w)
    (hb1 : w.cell? ⟨B1, 0, none⟩ = some (.pointer (some ⟨b, 0, none⟩))) (hb2 : w.cell? ⟨B2, 0, none⟩ = some (.int .u64 hh)) (n : Nat) (hn : 1 ≤ n) :
    SeqStopsK Fence.wide n Tryz.prog 145 #[.pointer (some ⟨B1, 0, none⟩), .pointer (some ⟨B2, 0, none⟩)] encU (Below w.heap.size) (fun xs => xs = r.w) (fun pre => ∃ k, pre = r.w.take k) r.w.length w := fun l J Jx W hW hJ hJx hY hJ0 => by
  have hB1 : B1 < w.heap.size := World.block_lt_of_cell? w ⟨B1, 0, none⟩ hb1
  have hB2 : B2 < w.heap.size := World.block_lt_of_cell? w ⟨B2, 0, none⟩ hb2
  have HST : Hid (∀ wr, Below w.heap.size w wr → Sep F0 w0 wr Ps ∧ wr.cell? ⟨B1, 0, none⟩ = some (.pointer (some ⟨b, 0, none⟩)) ∧ wr.cell? ⟨B2, 0, none⟩ = some (.int .u64 hh)) := fun wr hr =>
    ⟨hS.more (Mod.of_below (hBw.trans (hr.mono hBw.size)) No), (hr.cell (p := ⟨B1, 0, none⟩) hB1).trans hb1, (hr.cell (p := ⟨B2, 0, none⟩) hB2).trans hb2⟩
  obtain ⟨hSW, c1, c2⟩ := HST.out W hW
  have hl := stlen_call hSW i hi I h0 (.ok j r L)
  have HI := Lib.hid (And.intro hi (And.intro I (And.intro h0 L)))
  have HJ := Lib.hid hJ
  have HY := Lib.hid hY
  have HJ0 := Lib.hid (And.intro hW hJ0)
  clear hS hBw hb1 hb2 hJ hJx hY hJ0 hSW hi I L h0 hW hB1 hB2
  obtain ⟨M, hM⟩ : ∃ x, r.w.length = x := ⟨_, rfl⟩
  have HM := Lib.hid hM
  have hM2 : M ≤ 1000000 := by omega
  rw [hM] at hl
  clear hrl
  clear hM
  refine callsIn_of_wp Tryz.func145 rfl trivial ?_ rfl
  simp only [Tryz.ntmps145, List.size_toArray, List.length_cons, List.length_nil, Nat.reduceAdd, Nat.reduceSub, Array.replicate_succ, Array.replicate_zero, List.push_toArray, List.append_toArray, List.nil_append, List.cons_append]
  gi_wp2_with fail
  refine ⟨trivial, ?_⟩
  refine (callsIn_wide.2 hl).mono ?_
  rintro e W1 ⟨rfl, rfl⟩
  clear hl c1 c2
  gi_wp2_with fail
  gi_loopw [16] (fun iv wr => ∃ k : Nat, k ≤ M ∧ iv = .int .i64 k ∧ J (r.w.take k) wr ∧ Below w.heap.size w wr) (fun iv _ => M - (RowKit.intOf iv).toNat)
  case atStart => exact ⟨0, Nat.zero_le _, rfl, HJ0.out.2, HJ0.out.1⟩
  case round =>
    obtain ⟨k, hk, rfl, hJr, hB⟩ := hrel
    clear HJ0
    by_cases hlt : k < M
    · obtain ⟨hSr, c1, c2⟩ := HST.out wr hB
      obtain ⟨x, hx⟩ : ∃ x, r.w[k]? = some x := ⟨_, List.getElem?_eq_getElem (by rw [HM.out]; exact hlt)⟩
      have hg := stget_call hSr i HI.out.1 HI.out.2.1 HI.out.2.2.1 (.ok j r HI.out.2.2.2 k rfl x hx)
      obtain ⟨fn, tmps, assign, body, hy, hR⟩ := HY.out _ x wr hJr (by rw [List.length_take, HM.out]; omega)
      dsimp only [encU] at hy
      have HB := Lib.hid hB
      have HT : Hid (r.w.take k ++ [x] = r.w.take (k + 1)) := by
        show _ = _
        rw [List.take_add_one, hx]
        rfl
      clear hSr hJr hB hx
      gi_wp2_with fail
      refine ⟨trivial, ?_⟩
      refine (callsIn_wide.2 hg).mono ?_
      rintro e w3 ⟨rfl, rfl⟩
      clear hg
      gi_wp2
      refine hR.mono ?_
      rintro e W5 (⟨rfl, hJ5, hK5⟩ | ⟨rfl, hx5⟩)
      · have H5 := Lib.hid (And.intro hJ5 (HB.out.trans hK5))
        clear hJ5 hK5
        gi_wp2
        go_roundw
        case rel => exact ⟨k + 1, by omega, by go_num, by rw [← HT.out]; exact H5.out.1, H5.out.2⟩
        case measure => simp [RowKit.intOf]; omega
      · have H5 := Lib.hid hx5
        clear hx5
        gi_wp2
        refine bodyPost_ret (results_none rfl _ _ _) rfl ?_
        exact ⟨⟨_, rfl⟩, .inr ⟨_, ⟨k + 1, HT.out⟩, H5.out⟩⟩
    · obtain rfl : k = M := by omega
      have HQ := Lib.hid hJr
      clear hJr hB hlt
      gi_wp2
      go_end0
      exact ⟨⟨_, rfl⟩, .inl ⟨_, by rw [← HM.out, List.take_length], HQ.out⟩⟩

/-- Collect of a record's words. -/
theorem bcollect_call (h : Sep F0 w0 w Ps) (i : Nat) (hi : Ps[i]? = some (stR b m la S T)) (I : StInv S T H R) {hh : Int} (h0 : 0 ≤ hh ∧ hh < 18446744073709551616) {j : Nat} {r : Rc} (L : Rec R hh j r) (hl : r.w.length ≤ 1000000) {W : World} {B1 B2 : Nat} (e1 : w.heap.size = B1) (e2 : w.heap.size + 1 = B2)
    (hW : (w.alloc (.cells #[.pointer (some ⟨b, 0, none⟩)] 25)).alloc (.cells #[.int .u64 hh] 45) = W) :
    Calls Tryz.prog 106 #[.func (.func 145) #[] #[.pointer (some ⟨B1, 0, none⟩), .pointer (some ⟨B2, 0, none⟩)]] W fun e w' => ∃ v, e = .returned v ∧ Sep No W w' [u64Row v r.w.length r.w] := by
  have hB : Below w.heap.size w W := by rw [← hW]; exact ((Below.refl _ w).alloc (Nat.le_refl _) _).alloc (by simp) _
  subst e1 e2
  refine collect_in (enters_of Tryz.func145 (by kernel_rfl) rfl) hl (bwords_stops h i hi I h0 L hl _ _ W hB ?_ ?_ 3 (by omega))
  · rw [← hW]
    have h1 := cell_at (heap_alloc_new w (.cells #[.pointer (some ⟨b, 0, none⟩)] 25)) 0
    exact (((Mod.refl No _).alloc (.cells #[.int .u64 hh] 45)).cell h1 (fun x => x))
  · rw [← hW]
    have h1 := cell_at (heap_alloc_new (w.alloc (.cells #[.pointer (some ⟨b, 0, none⟩)] 25)) (.cells #[.int .u64 hh] 45)) 0
    simp only [World.size_alloc] at h1
    exact h1
end
end Go.Proofs.YtfmcddomciicdaaGreatDoor
