/- words of package loftlaw07, walked: what it tells of a record. Conditions: the store's records are as said. -/
import Derived.Test.YtmdnofojecncgaaGreatDoorAmidSpec
import Derived.Test.YtmdnofojecncgaaGreatDoorFill
set_option linter.unusedVariables false
set_option linter.unusedSimpArgs false
set_option maxRecDepth 100000
namespace Go.Proofs.YtmdnofojecncgaaGreatDoor
open Go Go.RowKit

variable {F0 : Nat → Prop} {w0 w : World} {Ps : List Res}

theorem infoU7 : (Tryz.prog.info? 45).map (fun i => (i.zero, i.size, i.bytes)) = some (some (.int .u64 0), 1, 8) := by kernel_rfl
abbrev wRow (v : Value) (n : Nat) (ls : List Int) : Res := rowAt 45 1 v n (ls.map (Value.int .u64))

/-- A slice that is laid whole. -/
theorem Sep.pushLit (h : Sep F0 w0 w Ps) (e : TypeId) (xs : List Value) (n : Nat) (hn : xs.length = n) (hm : n ≤ maxLen) : Sep F0 w0 (w.alloc (.cells xs.toArray e)) (Ps ++ [rowAt e 1 (.slice (some ⟨w.heap.size, 0, none⟩) n n) n xs]) :=
  h.push _ (fun k => (Value.slice (some ⟨w.heap.size, 0, none⟩) n n).ownBlock = some k) ⟨by
    have := World.ownsRow_lit (base := 0) (size := 1) (e := e) w xs.toArray n (Nat.zero_le _) hm (by simp [hn])
    simpa using this, rfl⟩ ((Mod.refl _ w).alloc _) (fun k hk => by
    simp only [Value.ownBlock, Option.some.injEq] at hk
    omega)

section
variable {b : Nat} {m la : Int} {S : Slb} {T : HTbl} {H : List Ent} {R : List Rc}
theorem getP (i : Nat) {x y : Res} (hi : Ps[i]? = some x) : (Ps ++ [y])[i]? = some x := by rw [List.getElem?_append_left (List.getElem?_eq_some_iff.1 hi).1]; exact hi
theorem endP (y : Res) : (Ps ++ [y])[Ps.length]? = some y := by rw [List.getElem?_append_right (Nat.le_refl _), Nat.sub_self]; rfl
theorem setP (x y : Res) : (Ps ++ [x]).set Ps.length y = Ps ++ [y] := by rw [List.set_append_right _ _ (Nat.le_refl _), Nat.sub_self]; rfl

set_option maxHeartbeats 1000000 in
theorem words07_call (h : Sep F0 w0 w Ps) (i : Nat) (hi : Ps[i]? = some (stR b m la S T)) (I : StInv S T H R) {hh : Int} (h0 : 0 ≤ hh ∧ hh < 18446744073709551616) {l : List Int} (L : Told T R hh l) :
    Calls Tryz.prog 30 #[.pointer (some ⟨b, 0, none⟩), .int .u64 hh] w fun e w' => ∃ sl cl, e = .returned (.slice sl l.length cl) ∧ Sep F0 w0 w' (Ps ++ [wRow (.slice sl l.length cl) l.length l]) := by
  cases L with
  | stale e =>
    have hl := stlen_call h i hi I h0 (.stale e)
    have h2 := h.pushLit 45 [.int .u64 0, .int .u64 7] 2 rfl (by unfold maxLen; omega)
    have H2 := Lib.hid h2
    clear h hi I e h2
    go_enter Tryz.func30, Tryz.ntmps30
    go_wp2_with fail
    refine hl.mono ?_
    rintro e w' ⟨rfl, rfl⟩
    clear hl
    go_wp2_with fail
    go_loopw [7, 8] (fun lv iv wr => (lv = .slice (some ⟨w.heap.size, 0, none⟩) 2 2 ∧ iv = .int .i64 0) ∧ Sep F0 w0 wr (Ps ++ [rowAt 45 1 (.slice (some ⟨w.heap.size, 0, none⟩) 2 2) 2 [.int .u64 0, .int .u64 7]])) (fun _ _ _ => 0)
    case atStart => exact ⟨⟨rfl, rfl⟩, H2.out⟩
    case round =>
      obtain ⟨⟨rfl, rfl⟩, h3⟩ := hrel
      have H3 := Lib.hid h3
      clear h3
      go_wp2
      go_ret
      exact ⟨_, _, rfl, H3.out⟩
  | ok j r L =>
    have hlen := (I.words r (List.mem_of_getElem? L.hj) L.h0).1
    have hl := stlen_call h i hi I h0 (.ok j r L)
    obtain ⟨n, hn⟩ : ∃ n, r.w.length = n := ⟨_, rfl⟩
    have h2 := h.pushLit 45 [.int .u64 (n : Int), .int .u64 0] 2 rfl (by unfold maxLen; omega)
    have e2 : ((r.w.length : Int) :: 0 :: r.w).length = n + 2 := by rw [← hn]; rfl
    rw [e2]
    rw [hn] at hlen hl
    have HG : Hid (∀ wr Qs, Sep F0 w0 wr (Ps ++ Qs) → ∀ k, k < n → ∃ x, r.w[k]? = some x ∧ Calls Tryz.prog 37 #[.pointer (some ⟨b, 0, none⟩), .int .u64 hh, .int .i64 (k : Nat)] wr fun e w' => e = .returned (.tuple #[.int .u64 x, .int .i64 0]) ∧ wr = w') := Lib.hid (by
      intro wr Qs hs k hk
      have hx := List.getElem?_eq_getElem (show k < r.w.length by omega)
      exact ⟨_, hx, stget_call hs i (by rw [List.getElem?_append_left (List.getElem?_eq_some_iff.1 hi).1]; exact hi) I h0 (.ok j r L k rfl _ hx)⟩)
    have HN := Lib.hid hn
    have H2 := Lib.hid h2
    have ec : IntKind.u64.wrap (n : Int) = (n : Int) := by rw [IntKind.wrap_u64]; omega
    obtain ⟨i0, hi0, hz0, hz1, hz2⟩ := info_parts infoU7
    have HI := Lib.hid (And.intro hi0 (And.intro hz0 (And.intro hz1 hz2)))
    clear h hi I L e2 h2 hi0 hz0 hz1 hz2 hn
    go_enter Tryz.func30, Tryz.ntmps30
    go_wp2_with fail
    refine hl.mono ?_
    rintro e w' ⟨rfl, rfl⟩
    clear hl
    go_wp2_with fail
    go_loopw [7, 8] (fun lv iv wr => ∃ k : Nat, iv = .int .i64 k ∧ k ≤ n ∧ Sep F0 w0 wr (Ps ++ [wRow lv (k + 2) ((n : Int) :: 0 :: r.w.take k)])) (fun _ iv _ => n - (RowKit.intOf iv).toNat)
    case atStart => exact ⟨0, rfl, Nat.zero_le _, H2.out⟩
    case round =>
      obtain ⟨k, rfl, hk, h3⟩ := hrel
      clear H2
      obtain ⟨sl, cl, rfl⟩ := h3.form Ps.length (endP _)
      by_cases hlt : k < n
      · obtain ⟨x, hx, hg⟩ := HG.out wr _ h3 k hlt
        have hki : (k : Int) < (n : Int) := by omega
        have HK1 : Hid (k + 1 ≤ n ∧ n - (k + 1) < n - k) := by exact Lib.hid ⟨by omega, by omega⟩
        have HX : Hid (r.w.take (k + 1) = r.w.take k ++ [x]) := by rw [List.take_add_one, hx]; exact Lib.hid rfl
        obtain ⟨hi0, hz0, hz1, hz2⟩ := HI.out
        have H3 := Lib.hid h3
        have hkb : k ≤ 3998 := by omega
        clear hx hlt hk h3
        go_wp2_with fail
        refine hg.mono ?_
        rintro e w' ⟨rfl, rfl⟩
        clear hg
        go_wp2_with (at_builtin; refine wpList_append_sep1 H3.out Ps.length (endP _) (by rfl) _ _ 76 rfl Tryz.underlying76 hi0 hz0 hz1 hz2 rfl (by rfl) _ _ (by rfl) (by simp) (by rfl) _ (by unfold maxLen; omega) (by omega) ?_)
        intro g1 cl1 w4 h4
        try rw [setP] at h4
        have H4 : Hid (Sep F0 w0 w4 (Ps ++ [wRow (.slice (some ⟨g1, 0, none⟩) (k + 2 + 1) cl1) (k + 1 + 2) ((n : Int) :: 0 :: r.w.take (k + 1))])) := by
          rw [HX.out]
          unfold wRow
          have e5 : ((n : Int) :: 0 :: (r.w.take k ++ [x])).map (Value.int .u64) = Value.int .u64 n :: Value.int .u64 0 :: (List.take k (r.w.map (Value.int .u64)) ++ [Value.int .u64 x]) := by simp [List.map_take]
          rw [e5]
          exact Lib.hid h4
        clear h4 hi0 hz0 hz1 hz2
        go_wp2_with fail
        go_roundw
        case rel => exact ⟨k + 1, by go_num, HK1.out.1, H4.out⟩
        case measure => have := HK1.out.2; simp [RowKit.intOf]; omega
      · obtain rfl : k = n := by omega
        have H3 : Hid (Sep F0 w0 wr (Ps ++ [wRow (.slice sl (k + 2) cl) (k + 2) ((r.w.length : Int) :: 0 :: r.w)])) := by
          have : r.w.take k = r.w := List.take_of_length_le (by rw [HN.out]; exact Nat.le_refl _)
          rw [HN.out]
          rw [this] at h3
          exact Lib.hid h3
        have dI : decide ((k : Int) < (k : Int)) = false := ltF (by omega)
        clear hlt hk h3
        go_wp2_with fail
        go_ret
        exact ⟨sl, cl, rfl, H3.out⟩
end
end Go.Proofs.YtmdnofojecncgaaGreatDoor
