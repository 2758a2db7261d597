/- Package store, walked: New, All. Conditions: the quota, the slots, the last generation are in the document's ranges; the store's records are as said. -/
import Derived.Test.YtmdnofojecncgaaGreatDoorStoreWalk
set_option linter.unusedVariables false
set_option linter.unusedSimpArgs false
set_option maxRecDepth 100000
namespace Go.Proofs.YtmdnofojecncgaaGreatDoor
open Go Go.RowKit

variable {F F0 : Nat → Prop} {w0 w : World} {Ps : List Res}

set_option maxRecDepth 100000 in
theorem stnew_in (w : World) (q m la : Int) (q0 : 0 ≤ q) (q1 : q ≤ 262144) (m1 : 1 ≤ m) (m2 : m ≤ 65536) (l1 : 1 ≤ la) (l2 : la ≤ 4294967295) :
    Calls Tryz.prog 17 #[.int .i64 q, .int .i64 m, .int .u32 la] w fun e w' => ∃ b : Nat, e = .returned (.tuple #[.pointer (some ⟨b, 0, none⟩), .int .i64 0]) ∧ Sep No w w' [stR b m la (Slb.empty q) ⟨m, la, []⟩] := by
  have hc := (Sep.nil w).sNew q q0 q1
  have hau := (Slb.Rep.empty q0 q1).audit
  have HT := Lib.hid (fun W => new_ok W m la m1 m2 l1 l2)
  go_enter Tryz.func17, Tryz.ntmps17
  go_wp2_with fail
  refine hc.mono ?_
  rintro e w1 ⟨rfl, h1⟩
  have h1 : Sep No w w1 [slabR (w.heap.size + 1) (Slb.empty q)] := h1
  obtain ⟨s, hs⟩ : ∃ s, w.heap.size + 1 = s := ⟨_, rfl⟩
  rw [hs] at h1 ⊢
  have hn := HT.out w1
  clear hc hs
  go_wp2_with fail
  refine hn.mono ?_
  rintro e w2 ⟨rfl, ht, hm⟩
  have h2 : Sep No w w2 [slabR s (Slb.empty q), tabR w1.heap.size ⟨m, la, []⟩] := h1.tNew ht hm
  obtain ⟨t, ht⟩ : ∃ t, w1.heap.size = t := ⟨_, rfl⟩
  rw [ht] at h2 ⊢
  have hh := h2.hNew 0 rfl hau
  clear hn h1 hm ht
  go_wp2_with fail
  refine hh.mono ?_
  rintro e w3 ⟨rfl, h3⟩
  have h3 : Sep No w w3 [slabR s (Slb.empty q), tabR t ⟨m, la, []⟩, hpAt w2.heap.size s] := h3
  obtain ⟨hp, ht⟩ : ∃ t, w2.heap.size = t := ⟨_, rfl⟩
  rw [ht] at h3 ⊢
  have h4 : Sep No w (w3.alloc (.cells #[.int .i64 m, .int .u32 la, .pointer (some ⟨s, 0, none⟩), .pointer (some ⟨hp, 0, none⟩), .pointer (some ⟨t, 0, none⟩)] 115)) [slabR s (Slb.empty q), tabR t ⟨m, la, []⟩, hpAt hp s, stAt w3.heap.size m la s hp t] := h3.pushCells _ _
  have h5 : Sep No w (w3.alloc (.cells #[.int .i64 m, .int .u32 la, .pointer (some ⟨s, 0, none⟩), .pointer (some ⟨hp, 0, none⟩), .pointer (some ⟨t, 0, none⟩)] 115)) [stAt w3.heap.size m la s hp t, slabR s (Slb.empty q), hpAt hp s, tabR t ⟨m, la, []⟩] :=
    h4.pick (fun i => if i = 0 then 3 else if i = 1 then 0 else if i = 2 then 2 else 1) (fun i hi => by match i, hi with | 0, _ => rfl | 1, _ => rfl | 2, _ => rfl | 3, _ => rfl) (fun i j hi hj hij => by
      simp only [List.length_cons, List.length_nil] at hi hj
      split <;> split <;> (repeat' split) <;> omega)
  have H5 := Lib.hid (st_shut h5)
  clear hh h2 h3 h4 h5 ht
  go_wp2
  go_ret2
  exact ⟨_, rfl, H5.out⟩
theorem stnew_call (h : Sep F0 w0 w Ps) (q m la : Int) (q0 : 0 ≤ q) (q1 : q ≤ 262144) (m1 : 1 ≤ m) (m2 : m ≤ 65536) (l1 : 1 ≤ la) (l2 : la ≤ 4294967295) :
    Calls Tryz.prog 17 #[.int .i64 q, .int .i64 m, .int .u32 la] w fun e w' => ∃ b : Nat, e = .returned (.tuple #[.pointer (some ⟨b, 0, none⟩), .int .i64 0]) ∧ Sep F0 w0 w' (Ps ++ [stR b m la (Slb.empty q) ⟨m, la, []⟩]) :=
  (stnew_in w q m la q0 q1 m1 m2 l1 l2).mono fun _ _ ⟨b, he, h1⟩ => ⟨b, he, h.join h1⟩

theorem heads_len (S : Slb) : S.heads.length ≤ S.pg.length := by
  have : ∀ (L : List Nat) (nx : Int), (S.hgo L nx).length ≤ L.length := by
    intro L
    induction L with
    | nil => intro nx; simp [Slb.hgo]
    | cons p L ih =>
      intro nx
      unfold Slb.hgo
      split
      · exact Nat.le_succ_of_le (ih _)
      · exact Nat.succ_le_succ (ih _)
  exact this _ _
theorem live_len {S : Slb} (hS : S.Ok) : S.live.length ≤ 126976 := by
  have h1 := liveL_len S.heads
  have h2 := heads_len S
  have h3 := hS.fit
  have h4 := hS.q1
  show (S.heads.flatMap liveE).length ≤ _
  omega

theorem stAll_len (S : Slb) : (stAll S).length = S.live.length := List.length_map _

section
variable {b s hp t : Nat} {m la : Int} {S S' : Slb} {T T' : HTbl}

def AllRel (F : Nat → Prop) (w : World) (b : Nat) (m la : Int) (s hp t : Nat) (S : Slb) (T : HTbl) (vl : Value) (j : Nat) (v : Value) (wr : World) : Prop :=
  Sep F w wr [stAt b m la s hp t, slabR s S, hpAt hp s, tabR t T, intsAt 3 .i64 vl S.live, rowAt 46 1 v j (((stAll S).take j).map (Value.int .u64))]

theorem stall_in (h : Sep F w w [stAt b m la s hp t, slabR s S, hpAt hp s, tabR t T]) :
    Calls Tryz.prog 15 #[.pointer (some ⟨b, 0, none⟩)] w fun e w' => ∃ v, e = .returned v ∧ Sep F w w' [stAt b m la s hp t, slabR s S, hpAt hp s, tabR t T, intsAt 46 .u64 v (stAll S)] := by
  have hn := stnone_call h 0 rfl
  have hlv := h.hLive 2 1 rfl rfl
  have c3 := (h.cell 0 rfl 3 (v := .pointer (some ⟨hp, 0, none⟩)) rfl).1
  have hlen := live_len (h.sOk 1 rfl)
  obtain ⟨i0, hi0, hz0, hz1, hz2⟩ := info_parts infoHandle
  have HI := Lib.hid (And.intro hi0 (And.intro hz0 (And.intro hz1 hz2)))
  clear h hi0 hz0 hz1 hz2
  go_enter Tryz.func15, Tryz.ntmps15
  go_wp2_with fail
  refine hn.mono ?_
  rintro e w' ⟨rfl, rfl⟩
  clear hn
  go_wp2_with fail
  refine hlv.mono ?_
  rintro e w1 ⟨v, rfl, h1⟩
  obtain ⟨sl, cl, rfl⟩ := h1.form 4 rfl
  have HR : Hid (AllRel F w b m la s hp t S T (.slice sl S.live.length cl) 0 (.slice none 0 0) w1) := h1.pushNil 46 1
  obtain ⟨L, hL⟩ : ∃ L, S.live.length = L := ⟨_, rfl⟩
  rw [hL] at HR hlen ⊢
  have HL := Lib.hid hL
  clear hlv h1 c3 hL
  go_wp2_with fail
  go_loopw [3, 16] (fun l i wr => ∃ j : Nat, i = .int .i64 j ∧ j ≤ L ∧ AllRel F w b m la s hp t S T (.slice sl L cl) j l wr) (fun _ i _ => L - (RowKit.intOf i).toNat)
  case atStart => exact ⟨0, rfl, Nat.zero_le _, HR.out⟩
  case round =>
    obtain ⟨j, rfl, hj, h⟩ := hrel
    clear HR
    obtain ⟨so, co, rfl⟩ := Sep.form h 5 rfl
    by_cases hlt : j < L
    · have hjl : S.live[j]? = some (S.live[j]'(by rw [HL.out]; exact hlt)) := List.getElem?_eq_getElem _
      obtain ⟨a, ha⟩ : ∃ a, S.live[j]'(by rw [HL.out]; exact hlt) = a := ⟨_, rfl⟩
      rw [ha] at hjl
      obtain ⟨x, er, hrd⟩ : ∃ x er, S.read a = (x, er) := ⟨_, _, rfl⟩
      have hx : (stAll S)[j]? = some x := by unfold stAll; rw [List.getElem?_map, hjl]; simp [hrd]
      have hrow : Sep F w wr [stAt b m la s hp t, slabR s S, hpAt hp s, tabR t T, rowAt 3 1 (.slice sl L cl) L (S.live.map (Value.int .i64)), rowAt 46 1 (.slice so j co) j (((stAll S).take j).map (Value.int .u64))] := by
        have h' := h
        unfold AllRel intsAt at h'
        rw [HL.out] at h'
        exact h'
      obtain ⟨g, rfl, cx, _⟩ := hrow.item 4 rfl (o := j) (x := .int .i64 a) (by rw [List.getElem?_map, hjl]; rfl)
      have hc := hrow.sRead 1 rfl a hrd
      have c2 := (hrow.cell 0 rfl 2 (v := .pointer (some ⟨s, 0, none⟩)) rfl).1
      obtain ⟨hi0, hz0, hz1, hz2⟩ := HI.out
      have HX := Lib.hid hx
      have HB := Lib.hid hrow
      clear h ha hjl hrd hx hrow
      go_wp2_with fail
      refine hc.mono ?_
      rintro e w' ⟨rfl, rfl⟩
      have hrow := HB.out
      clear hc
      go_wp2_with (at_builtin; refine wpList_append_sep1 hrow 5 rfl (by rfl) _ _ 38 rfl Tryz.underlying38 hi0 hz0 hz1 hz2 rfl (by rfl) _ _ (by rfl) (by simp) (by rfl) _ (by unfold maxLen; omega) (by omega) ?_)
      intro gg capg w4 h4
      have H4 : Hid (AllRel F w b m la s hp t S T (.slice (some ⟨g, 0, none⟩) L cl) (j + 1) (.slice (some ⟨gg, 0, none⟩) (j + 1) capg) w4) := by
        have e : (stAll S).take (j + 1) = (stAll S).take j ++ [x] := by
          rw [List.take_add_one, HX.out]; rfl
        unfold AllRel intsAt
        rw [e, List.map_append, HL.out, List.map_take]
        exact h4
      clear h4 hrow hi0 hz0 hz1 hz2 cx c2 HB
      go_wp2
      go_roundw
      case rel => exact ⟨j + 1, by go_num, by omega, H4.out⟩
      case measure => simp [RowKit.intOf]; omega
    · obtain rfl : j = L := by omega
      have H4 : Hid (Sep F w wr [stAt b m la s hp t, slabR s S, hpAt hp s, tabR t T, intsAt 46 .u64 (.slice so j co) (stAll S)]) := by
        have e : (stAll S).take j = stAll S := List.take_of_length_le (by rw [stAll_len, HL.out]; exact Nat.le_refl _)
        unfold AllRel at h
        rw [e] at h
        unfold intsAt
        rw [stAll_len, HL.out]
        exact h.pick (fun i => if i = 4 then 5 else i) (fun i hi => by match i, hi with | 0, _ => rfl | 1, _ => rfl | 2, _ => rfl | 3, _ => rfl | 4, _ => rfl) (fun i j hi hj hij => by
          simp only [List.length_cons, List.length_nil] at hi hj
          split <;> split <;> omega)
      clear h hlt
      go_wp2
      go_ret
      exact ⟨_, rfl, H4.out⟩

theorem stall_call (h : Sep F0 w0 w Ps) (i : Nat) (hi : Ps[i]? = some (stR b m la S T)) :
    Calls Tryz.prog 15 #[.pointer (some ⟨b, 0, none⟩)] w fun e w' => ∃ sa cap, e = .returned (.slice sa (stAll S).length cap) ∧ Sep F0 w0 w' (Ps.set i (stR b m la S T) ++ [intsAt 46 .u64 (.slice sa (stAll S).length cap) (stAll S)]) := by
  obtain ⟨F, h1, back⟩ := h.frame [i] [stR b m la S T] (by simp) (by simp [hi])
  obtain ⟨s, hp, t, h2⟩ := st_open h1
  refine (stall_in h2).mono ?_
  rintro e w' ⟨v, rfl, h3⟩
  obtain ⟨sa, cap, rfl⟩ := h3.form 4 rfl
  have h4 := back w' [stR b m la S T, _] (by simp) (st_shutX h3)
  exact ⟨sa, cap, rfl, by simpa [setAt] using h4⟩
end
end Go.Proofs.YtmdnofojecncgaaGreatDoor
