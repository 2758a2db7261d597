/- Package node, walked. Conditions: the store's records are as said; a node's words are 64-bit words. -/
import Derived.Test.YtfmcddomciicdaaGreatDoorPutAll
set_option linter.unusedVariables false
set_option linter.unusedSimpArgs false
set_option maxRecDepth 100000
namespace Go.Proofs.YtfmcddomciicdaaGreatDoor
open Go Go.RowKit

variable {F0 : Nat → Prop} {w0 w : World} {Ps : List Res}

/-- A node's value. -/
abbrev nodeV (x0 x1 x2 x3 x4 x5 : Int) : Value := .agg #[.int .u64 x0, .int .u64 x1, .int .u64 x2, .int .u64 x3, .int .u64 x4, .int .u64 x5]

theorem fields_call (x0 x1 x2 x3 x4 x5 : Int) (w : World) : Calls Tryz.prog 98 #[nodeV x0 x1 x2 x3 x4 x5] w fun e w' => e = .returned (nodeV x0 x1 x2 x3 x4 x5) ∧ Mod No w w' := by
  have HB := Lib.hid ((((Mod.refl No w).alloc (.cells #[.int .u64 x0, .int .u64 x1, .int .u64 x2, .int .u64 x3, .int .u64 x4, .int .u64 x5] 109)).alloc (.cells #[.int .u64 x0, .int .u64 x1, .int .u64 x2, .int .u64 x3, .int .u64 x4, .int .u64 x5] 168)))
  go_enter Tryz.func98, Tryz.ntmps98
  go_wp2_with fail
  refine bodyPost_ret (v := nodeV x0 x1 x2 x3 x4 x5) ?_ rfl ⟨rfl, HB.out⟩
  simp [results, Tryz.f98, go_sem]

theorem node_index (x0 x1 x2 x3 x4 x5 : Int) {k : Nat} {x : Int} (h : [x0, x1, x2, x3, x4, x5][k]? = some x) (w : World) :
    (Instr.index 168 (nodeV x0 x1 x2 x3 x4 x5) (.int .i64 (k : Nat))).run Tryz.prog w = .ok (.int .u64 x) w := by
  match k, h with
  | 0, h => cases h; rfl
  | 1, h => cases h; rfl
  | 2, h => cases h; rfl
  | 3, h => cases h; rfl
  | 4, h => cases h; rfl
  | 5, h => cases h; rfl
  | k + 6, h => simp at h

section
variable {b : Nat} {m la : Int} {S S' : Slb} {T T' : HTbl} {H H' : List Ent} {R R' : List Rc}

/-- What stands against a node. -/
inductive Asks (T : HTbl) (R : List Rc) (hh : Int) : Int → Prop
  | stale (e : T.at' hh = (0, 7)) : Asks T R hh 7
  | form (j : Nat) (r : Rc) (L : Rec R hh j r) (h6 : r.w.length ≠ 6) : Asks T R hh 8
  | ok (j : Nat) (r : Rc) (L : Rec R hh j r) (h6 : r.w.length = 6) : Asks T R hh 0

theorem asked_call (h : Sep F0 w0 w Ps) (i : Nat) (hi : Ps[i]? = some (stR b m la S T)) (I : StInv S T H R) {hh : Int} (h0 : 0 ≤ hh ∧ hh < 18446744073709551616) {er : Int} (Q : Asks T R hh er) :
    Calls Tryz.prog 97 #[.pointer (some ⟨b, 0, none⟩), .int .u64 hh] w fun e w' => e = .returned (.int .i64 er) ∧ w = w' := by
  cases Q with
  | stale e =>
    have hl := stlen_call h i hi I h0 (.stale e)
    clear h I e hi
    go_enter Tryz.func97, Tryz.ntmps97
    go_wp2_with fail
    refine hl.mono ?_
    rintro e w' ⟨rfl, rfl⟩
    clear hl
    go_wp2
    go_ret
    exact ⟨rfl, rfl⟩
  | form j r L h6 =>
    have hl := stlen_call h i hi I h0 (.ok j r L)
    obtain ⟨n, hn⟩ : ∃ n, r.w.length = n := ⟨_, rfl⟩
    rw [hn] at hl h6
    have d : ((n : Int) != 6) = true := bneT (by omega)
    clear h I hi L hn h6
    go_enter Tryz.func97, Tryz.ntmps97
    go_wp2_with fail
    refine hl.mono ?_
    rintro e w' ⟨rfl, rfl⟩
    clear hl
    go_wp2
    go_ret
    exact ⟨rfl, rfl⟩
  | ok j r L h6 =>
    have hl := stlen_call h i hi I h0 (.ok j r L)
    rw [h6] at hl
    clear h I hi L h6
    go_enter Tryz.func97, Tryz.ntmps97
    go_wp2_with fail
    refine hl.mono ?_
    rintro e w' ⟨rfl, rfl⟩
    clear hl
    go_wp2
    go_ret
    exact ⟨rfl, rfl⟩

/-- Put where something stands against it. -/
theorem nput_no (h : Sep F0 w0 w Ps) (i : Nat) (hi : Ps[i]? = some (stR b m la S T)) (I : StInv S T H R) {hh : Int} (h0 : 0 ≤ hh ∧ hh < 18446744073709551616) {er : Int} (Q : Asks T R hh er) (he : er ≠ 0) (x0 x1 x2 x3 x4 x5 : Int) :
    Calls Tryz.prog 47 #[.pointer (some ⟨b, 0, none⟩), .int .u64 hh, nodeV x0 x1 x2 x3 x4 x5] w fun e w' => e = .returned (.int .i64 er) ∧ Mod No w w' := by
  have hm := (Mod.refl No w).alloc (.cells #[.int .u64 x0, .int .u64 x1, .int .u64 x2, .int .u64 x3, .int .u64 x4, .int .u64 x5] 109)
  have ha := asked_call (h.more hm) i hi I h0 Q
  have d : (er != 0) = true := bneT he
  have HM := Lib.hid hm
  clear h I hi Q he hm
  go_enter Tryz.func47, Tryz.ntmps47
  go_wp2_with fail
  refine ha.mono ?_
  rintro e w' ⟨rfl, rfl⟩
  clear ha
  go_wp2
  go_ret
  exact ⟨rfl, HM.out⟩

/-- What Put leaves: the record's words are the node's. -/
def NodeOut (S : Slb) (T : HTbl) (H : List Ent) (R : List Rc) (j : Nat) (r : Rc) (ws : List Int) (k : Nat) (S' : Slb) : Prop := StInv S' T H (R.set j (putW r ws k)) ∧ S'.pg = S.pg ∧ S'.quota = S.quota

theorem NodeOut.start (I : StInv S T H R) {j : Nat} {r : Rc} (hj : R[j]? = some r) (ws : List Int) : NodeOut S T H R j r ws 0 S := ⟨by rw [putW_zero, StInv.set_self hj]; exact I, rfl, rfl⟩

theorem nput_ok (h : Sep F0 w0 w Ps) (i : Nat) (hi : Ps[i]? = some (stR b m la S T)) (I : StInv S T H R) {hh : Int} (h0 : 0 ≤ hh ∧ hh < 18446744073709551616) {j : Nat} {r : Rc} (L : Rec R hh j r) (h6 : r.w.length = 6)
    {x0 x1 x2 x3 x4 x5 : Int} (hx : ∀ x ∈ [x0, x1, x2, x3, x4, x5], 0 ≤ x ∧ x < 18446744073709551616) :
    Calls Tryz.prog 47 #[.pointer (some ⟨b, 0, none⟩), .int .u64 hh, nodeV x0 x1 x2 x3 x4 x5] w fun e w' => ∃ S', (e = .returned (.int .i64 0) ∧ NodeOut S T H R j r [x0, x1, x2, x3, x4, x5] 6 S') ∧ Sep F0 w0 w' (Ps.set i (stR b m la S' T)) := by
  refine h.liftE i hi fun F h1 => ?_
  have hm := (Mod.refl No w).alloc (.cells #[.int .u64 x0, .int .u64 x1, .int .u64 x2, .int .u64 x3, .int .u64 x4, .int .u64 x5] 109)
  have h2 := h1.more hm
  have ha := asked_call h2 0 rfl I h0 (.ok j r L h6)
  have HI := Lib.hid (And.intro L h6)
  have HX := Lib.hid hx
  have HO := Lib.hid (NodeOut.start I L.hj [x0, x1, x2, x3, x4, x5])
  have H2 := Lib.hid h2
  clear h h1 h2 I hi L h6 hx hm
  go_enter Tryz.func47, Tryz.ntmps47
  go_wp2_with fail
  refine ha.mono ?_
  rintro e w1 ⟨rfl, rfl⟩
  have hf := fields_call x0 x1 x2 x3 x4 x5 (w.alloc (.cells #[.int .u64 x0, .int .u64 x1, .int .u64 x2, .int .u64 x3, .int .u64 x4, .int .u64 x5] 109))
  clear ha
  go_wp2_with fail
  refine hf.mono ?_
  rintro e w2 ⟨rfl, hm2⟩
  have HR : Hid (∃ S', NodeOut S T H R j r [x0, x1, x2, x3, x4, x5] 0 S' ∧ Sep F w w2 [stR b m la S' T]) := ⟨S, HO.out, H2.out.more hm2⟩
  clear hf hm2 HO H2
  go_wp2_with fail
  go_loopw [18] (fun kv wr => ∃ k : Nat, kv = .int .i64 k ∧ k ≤ 6 ∧ ∃ S', NodeOut S T H R j r [x0, x1, x2, x3, x4, x5] k S' ∧ Sep F w wr [stR b m la S' T]) (fun kv _ => 6 - (RowKit.intOf kv).toNat)
  case atStart => exact ⟨0, rfl, Nat.zero_le _, HR.out⟩
  case round =>
    obtain ⟨k, rfl, hk, S1, hO, h⟩ := hrel
    clear HR
    by_cases hlt : k < 6
    · have hget : ∃ x, [x0, x1, x2, x3, x4, x5][k]? = some x := ⟨_, List.getElem?_eq_getElem (by simp; omega)⟩
      obtain ⟨x, hxk⟩ := hget
      have hxr := HX.out x (List.mem_of_getElem? hxk)
      obtain ⟨S2, P⟩ := hO.1.putNext HI.out.1.hj HI.out.1.h0 (by rw [HI.out.2]; rfl) hxk hxr.1 hxr.2
      have hc := stput_call h 0 rfl hO.1 (hh := r.h) (by rw [HI.out.1.he]; exact h0) hxr.1 hxr.2 P
      have hq := P.quo
      have HO2 : Hid (NodeOut S T H R j r [x0, x1, x2, x3, x4, x5] (k + 1) S2) := ⟨P.inv, hq.2.trans hO.2.1, hq.1.trans hO.2.2⟩
      rw [HI.out.1.he] at hc
      have hix := node_index x0 x1 x2 x3 x4 x5 hxk
      clear h hO P hq hxr hxk
      go_wp2_with fail
      refine hc.mono ?_
      rintro e w3 ⟨rfl, h3⟩
      have H3 : Hid (Sep F w w3 [stR b m la S2 T]) := h3
      clear hc h3 hix
      go_wp2
      go_roundw
      case rel => exact ⟨k + 1, by go_num, by omega, S2, HO2.out, H3.out⟩
      case measure => simp [RowKit.intOf]; omega
    · obtain rfl : k = 6 := by omega
      have H3 := Lib.hid h
      have HO2 := Lib.hid hO
      clear h hO hlt
      go_wp2
      go_ret
      exact ⟨S1, ⟨rfl, HO2.out⟩, H3.out⟩

theorem NodeOut.done {j : Nat} {r : Rc} {ws : List Int} (O : NodeOut S T H R j r ws 6 S') (hw : ws.length = 6) (h6 : r.w.length = 6) : StInv S' T H (R.set j { r with w := ws }) := by
  have := O.1
  rw [← hw, putW_all r (by omega)] at this
  exact this

theorem nmake_no (h : Sep F0 w0 w Ps) (i : Nat) (hi : Ps[i]? = some (stR b m la S T)) (hT : Tab64 w) {hd er : Int} (M : Made S T H R 6 hd er S' T' H' R') (he : er ≠ 0) (x0 x1 x2 x3 x4 x5 : Int) :
    Calls Tryz.prog 46 #[.pointer (some ⟨b, 0, none⟩), nodeV x0 x1 x2 x3 x4 x5] w fun e w' => e = .returned (.tuple #[.int .u64 0, .int .i64 er]) ∧ Sep F0 w0 w' (Ps.set i (stR b m la S' T')) := by
  have hm := (Mod.refl No w).alloc (.cells #[.int .u64 x0, .int .u64 x1, .int .u64 x2, .int .u64 x3, .int .u64 x4, .int .u64 x5] 109)
  have hc := stmake_call (h.more hm) i hi (hT.mod hm) M
  obtain ⟨rfl, _, _, _⟩ := M.err he
  have d : (er != 0) = true := bneT he
  clear h hi M he hm hT
  go_enter Tryz.func46, Tryz.ntmps46
  go_wp2_with fail
  refine hc.mono ?_
  rintro e w' ⟨rfl, h3⟩
  have H3 := Lib.hid h3
  clear hc h3
  go_wp2
  go_ret2
  exact ⟨rfl, H3.out⟩

theorem nmake_ok (h : Sep F0 w0 w Ps) (i : Nat) (hi : Ps[i]? = some (stR b m la S T)) (hT : Tab64 w) {hd : Int} (M : Made S T H R 6 hd 0 S' T' H' R') {x0 x1 x2 x3 x4 x5 : Int} (hx : ∀ x ∈ [x0, x1, x2, x3, x4, x5], 0 ≤ x ∧ x < 18446744073709551616) :
    Calls Tryz.prog 46 #[.pointer (some ⟨b, 0, none⟩), nodeV x0 x1 x2 x3 x4 x5] w fun e w' => ∃ (p : Slb × Nat), (e = .returned (.tuple #[.int .u64 hd, .int .i64 0]) ∧ StInv p.1 T' H' (R ++ [⟨hd, (p.2 : Int), [x0, x1, x2, x3, x4, x5]⟩]) ∧ p.1.pg = S'.pg ∧ p.1.quota = S'.quota) ∧ Sep F0 w0 w' (Ps.set i (stR b m la p.1 T')) := by
  refine h.liftE i hi (R' := fun (p : Slb × Nat) => stR b m la p.1 T') (C := fun p e => e = .returned (.tuple #[.int .u64 hd, .int .i64 0]) ∧ StInv p.1 T' H' (R ++ [⟨hd, (p.2 : Int), [x0, x1, x2, x3, x4, x5]⟩]) ∧ p.1.pg = S'.pg ∧ p.1.quota = S'.quota) fun F h1 => ?_
  have hm := (Mod.refl No w).alloc (.cells #[.int .u64 x0, .int .u64 x1, .int .u64 x2, .int .u64 x3, .int .u64 x4, .int .u64 x5] 109)
  obtain ⟨bx, hbx⟩ : ∃ x, w.heap.size = x := ⟨_, rfl⟩
  have h2 : Sep F w (w.alloc (.cells #[.int .u64 x0, .int .u64 x1, .int .u64 x2, .int .u64 x3, .int .u64 x4, .int .u64 x5] 109)) [stR b m la S T, cellsAt bx #[.int .u64 x0, .int .u64 x1, .int .u64 x2, .int .u64 x3, .int .u64 x4, .int .u64 x5] 109] := by rw [← hbx]; exact h1.pushCells _ _
  have hc := stmake_call h2 0 rfl (hT.mod hm) M
  obtain ⟨_, _, _, a, hR'⟩ := M.good rfl
  have HK : Hid (StInv S' T' H' (R ++ [⟨hd, (a : Int), List.replicate 6 0⟩])) := by have := M.inv; rw [hR'] at this; exact this
  have hrg := M.range
  have HX := Lib.hid hx
  have hj : (R ++ [(⟨hd, (a : Int), List.replicate 6 0⟩ : Rc)])[R.length]? = some ⟨hd, (a : Int), List.replicate 6 0⟩ := by rw [List.getElem?_append_right (Nat.le_refl _), Nat.sub_self]; rfl
  have HJ := Lib.hid hj
  clear h h1 h2 hi M hm hT hR' hx hj
  go_enter Tryz.func46, Tryz.ntmps46
  go_wp2_with fail
  refine hc.mono ?_
  rintro e w1 ⟨rfl, h3⟩
  have h3 : Sep F w w1 [stR b m la S' T', cellsAt bx #[.int .u64 x0, .int .u64 x1, .int .u64 x2, .int .u64 x3, .int .u64 x4, .int .u64 x5] 109] := h3
  have hp := nput_ok h3 0 rfl HK.out (hh := hd) ⟨hrg.1, hrg.2.1⟩ ⟨HJ.out, Int.natCast_nonneg a, rfl⟩ rfl HX.out
  have k0 := (h3.cell 1 rfl 0 (v := .int .u64 x0) rfl).1
  have k1 := (h3.cell 1 rfl 1 (v := .int .u64 x1) rfl).1
  have k2 := (h3.cell 1 rfl 2 (v := .int .u64 x2) rfl).1
  have k3 := (h3.cell 1 rfl 3 (v := .int .u64 x3) rfl).1
  have k4 := (h3.cell 1 rfl 4 (v := .int .u64 x4) rfl).1
  have k5 := (h3.cell 1 rfl 5 (v := .int .u64 x5) rfl).1
  clear hc h3
  go_wp2_with fail
  refine hp.mono ?_
  rintro e w2 ⟨S2, ⟨rfl, hO⟩, h4⟩
  have H4 : Hid (Sep F w w2 [stR b m la S2 T']) := Sep.left (Ps := [_]) h4
  have HD := Lib.hid (And.intro (hO.done rfl rfl) hO.2)
  clear hp h4 hO
  go_wp2
  go_ret2
  refine ⟨(S2, a), ⟨rfl, ?_, HD.out.2⟩, H4.out⟩
  have := HD.out.1
  have e : (R ++ [(⟨hd, (a : Int), List.replicate 6 0⟩ : Rc)]).set R.length { (⟨hd, (a : Int), List.replicate 6 0⟩ : Rc) with w := [x0, x1, x2, x3, x4, x5] } = R ++ [⟨hd, (a : Int), [x0, x1, x2, x3, x4, x5]⟩] := by
    rw [List.set_append_right _ _ (Nat.le_refl _), Nat.sub_self]
    rfl
  rw [e] at this
  exact this

abbrev zero6 : Array Value := #[.int .u64 0, .int .u64 0, .int .u64 0, .int .u64 0, .int .u64 0, .int .u64 0]
theorem nget_no (h : Sep F0 w0 w Ps) (i : Nat) (hi : Ps[i]? = some (stR b m la S T)) (I : StInv S T H R) {hh : Int} (h0 : 0 ≤ hh ∧ hh < 18446744073709551616) {er : Int} (Q : Asks T R hh er) (he : er ≠ 0) :
    Calls Tryz.prog 48 #[.pointer (some ⟨b, 0, none⟩), .int .u64 hh] w fun e w' => e = .returned (.tuple #[nodeV 0 0 0 0 0 0, .int .i64 er]) ∧ Mod No w w' := by
  have hm := (Mod.refl No w).alloc (.cells zero6 109)
  have ha := asked_call (h.more hm) i hi I h0 Q
  have d : (er != 0) = true := bneT he
  have HM := Lib.hid hm
  clear h I hi Q he hm
  go_enter Tryz.func48, Tryz.ntmps48
  go_wp2_with fail
  refine ha.mono ?_
  rintro e w' ⟨rfl, rfl⟩
  clear ha
  go_wp2
  refine bodyPost_ret (v := .tuple #[nodeV 0 0 0 0 0 0, .int .i64 er]) ?_ rfl ⟨rfl, HM.out⟩
  simp [results, Tryz.f48, go_sem]

def arrW (ws : List Int) (k : Nat) : Array Value := ((ws.take k ++ List.replicate (6 - k) 0).map (Value.int .u64)).toArray
theorem arrW_set {ws : List Int} (hl : ws.length = 6) {k : Nat} {x : Int} (hx : ws[k]? = some x) : (arrW ws k).setIfInBounds k (.int .u64 x) = arrW ws (k + 1) := by
  have hk := (List.getElem?_eq_some_iff.1 hx).1
  unfold arrW
  rw [List.setIfInBounds_toArray, ← List.map_set]
  congr 2
  have ht : ws.take (k + 1) = ws.take k ++ [x] := by rw [List.take_add_one, hx]; rfl
  have hr : List.replicate (6 - k) (0 : Int) = 0 :: List.replicate (6 - (k + 1)) 0 := by
    rw [show 6 - k = (6 - (k + 1)) + 1 by omega]; rfl
  rw [ht, hr, List.set_append_right _ _ (by simp; omega)]
  simp [List.length_take, Nat.min_eq_left (Nat.le_of_lt hk)]
theorem arrW_cell {ws : List Int} (hl : ws.length = 6) {k : Nat} (hk : k < 6) : ∃ v, (arrW ws k)[k]? = some v := by
  unfold arrW
  refine ⟨_, Array.getElem?_eq_getElem ?_⟩
  simp
  omega

theorem nget_ok (h : Sep F0 w0 w Ps) (i : Nat) (hi : Ps[i]? = some (stR b m la S T)) (I : StInv S T H R) {hh : Int} (h0 : 0 ≤ hh ∧ hh < 18446744073709551616) {j : Nat} {r : Rc} (L : Rec R hh j r) {x0 x1 x2 x3 x4 x5 : Int} (hw : r.w = [x0, x1, x2, x3, x4, x5]) :
    Calls Tryz.prog 48 #[.pointer (some ⟨b, 0, none⟩), .int .u64 hh] w fun e w' => e = .returned (.tuple #[nodeV x0 x1 x2 x3 x4 x5, .int .i64 0]) ∧ Mod No w w' := by
  have h1 := (Sep.nil w).pushCells zero6 109
  obtain ⟨W1, hW1⟩ : ∃ x, w.alloc (.cells zero6 109) = x := ⟨_, rfl⟩
  rw [hW1] at h1
  have ha := asked_call (h.more h1.mod) i hi I h0 (.ok j r L (by rw [hw]; rfl))
  have h2 := h1.pushCells zero6 168
  obtain ⟨W2, hW2⟩ : ∃ x, W1.alloc (.cells zero6 168) = x := ⟨_, rfl⟩
  rw [hW2] at h2
  obtain ⟨rb, hrb⟩ : ∃ x, w.heap.size = x := ⟨_, rfl⟩
  obtain ⟨ab, hab⟩ : ∃ x, W1.heap.size = x := ⟨_, rfl⟩
  rw [hrb, hab] at h2
  have H2 : Hid (Sep No w W2 [cellsAt rb zero6 109, cellsAt ab (arrW [x0, x1, x2, x3, x4, x5] 0) 168]) := h2
  have HH := Lib.hid (And.intro h (And.intro hi (And.intro I (And.intro L hw))))
  clear h h1 h2 I hi L hw
  go_enter Tryz.func48, Tryz.ntmps48
  go_wp2_with fail
  refine ha.mono ?_
  rintro e w' ⟨rfl, rfl⟩
  clear ha
  go_wp2_with fail
  go_loopw [16] (fun kv wr => ∃ k : Nat, kv = .int .i64 k ∧ k ≤ 6 ∧ Sep No w wr [cellsAt rb zero6 109, cellsAt ab (arrW [x0, x1, x2, x3, x4, x5] k) 168]) (fun kv _ => 6 - (RowKit.intOf kv).toNat)
  case atStart => exact ⟨0, rfl, Nat.zero_le _, H2.out⟩
  case round =>
    obtain ⟨k, rfl, hk, hs⟩ := hrel
    clear H2
    by_cases hlt : k < 6
    · obtain ⟨x, hxk⟩ : ∃ x, [x0, x1, x2, x3, x4, x5][k]? = some x := ⟨_, List.getElem?_eq_getElem (by simp; omega)⟩
      have hxr : r.w[k]? = some x := by rw [HH.out.2.2.2.2]; exact hxk
      have hc := stget_call (HH.out.1.more hs.mod) i HH.out.2.1 HH.out.2.2.1 h0 (.ok j r HH.out.2.2.2.1 k rfl x hxr)
      obtain ⟨v, hv⟩ := arrW_cell (ws := [x0, x1, x2, x3, x4, x5]) rfl hlt
      obtain ⟨c0, f0⟩ := hs.cell 1 rfl k hv
      have hs2 := hs.set 1 rfl k (.int .u64 x)
      rw [arrW_set rfl hxk] at hs2
      have HS2 := Lib.hid hs2
      have hk0 : ((k : Nat) : Int).toNat = k := Int.toNat_natCast k
      clear hs hs2 hxr hxk hv
      go_wp2_with fail
      refine hc.mono ?_
      rintro e w' ⟨rfl, rfl⟩
      clear hc
      go_wp2
      go_roundw
      case rel => exact ⟨k + 1, by go_num, by omega, HS2.out⟩
      case measure => simp [RowKit.intOf]; omega
    · obtain rfl : k = 6 := by omega
      have k0 := (hs.cell 1 rfl 0 (v := .int .u64 x0) rfl).1
      have k1 := (hs.cell 1 rfl 1 (v := .int .u64 x1) rfl).1
      have k2 := (hs.cell 1 rfl 2 (v := .int .u64 x2) rfl).1
      have k3 := (hs.cell 1 rfl 3 (v := .int .u64 x3) rfl).1
      have k4 := (hs.cell 1 rfl 4 (v := .int .u64 x4) rfl).1
      have k5 := (hs.cell 1 rfl 5 (v := .int .u64 x5) rfl).1
      have q0 := (hs.cell 0 rfl 0 (v := .int .u64 0) rfl).1
      have q1 := (hs.cell 0 rfl 1 (v := .int .u64 0) rfl).1
      have q2 := (hs.cell 0 rfl 2 (v := .int .u64 0) rfl).1
      have q3 := (hs.cell 0 rfl 3 (v := .int .u64 0) rfl).1
      have q4 := (hs.cell 0 rfl 4 (v := .int .u64 0) rfl).1
      have q5 := (hs.cell 0 rfl 5 (v := .int .u64 0) rfl).1
      have g0 := (hs.cell 0 rfl 0 (v := .int .u64 0) rfl).2
      have g1 := (hs.cell 0 rfl 1 (v := .int .u64 0) rfl).2
      have g2 := (hs.cell 0 rfl 2 (v := .int .u64 0) rfl).2
      have g3 := (hs.cell 0 rfl 3 (v := .int .u64 0) rfl).2
      have g4 := (hs.cell 0 rfl 4 (v := .int .u64 0) rfl).2
      have g5 := (hs.cell 0 rfl 5 (v := .int .u64 0) rfl).2
      have h6 := ((((((hs.set 0 rfl 0 (.int .u64 x0)).set 0 rfl 1 (.int .u64 x1)).set 0 rfl 2 (.int .u64 x2)).set 0 rfl 3 (.int .u64 x3)).set 0 rfl 4 (.int .u64 x4)).set 0 rfl 5 (.int .u64 x5))
      have HS : Hid (Sep No w ((((((wr.setCell ⟨rb, 0, none⟩ (.int .u64 x0)).setCell ⟨rb, 1, none⟩ (.int .u64 x1)).setCell ⟨rb, 2, none⟩ (.int .u64 x2)).setCell ⟨rb, 3, none⟩ (.int .u64 x3)).setCell ⟨rb, 4, none⟩ (.int .u64 x4)).setCell ⟨rb, 5, none⟩ (.int .u64 x5)) [cellsAt rb #[.int .u64 x0, .int .u64 x1, .int .u64 x2, .int .u64 x3, .int .u64 x4, .int .u64 x5] 109, cellsAt ab (arrW [x0, x1, x2, x3, x4, x5] 6) 168]) := h6
      clear hs hlt h6
      go_wp2_with fail
      obtain ⟨W6, hW6⟩ : ∃ x, (((((wr.setCell ⟨rb, 0, none⟩ (.int .u64 x0)).setCell ⟨rb, 1, none⟩ (.int .u64 x1)).setCell ⟨rb, 2, none⟩ (.int .u64 x2)).setCell ⟨rb, 3, none⟩ (.int .u64 x3)).setCell ⟨rb, 4, none⟩ (.int .u64 x4)).setCell ⟨rb, 5, none⟩ (.int .u64 x5) = x := ⟨_, rfl⟩
      rw [hW6] at HS ⊢
      have k0 := (HS.out.cell 0 rfl 0 (v := .int .u64 x0) rfl).1
      have k1 := (HS.out.cell 0 rfl 1 (v := .int .u64 x1) rfl).1
      have k2 := (HS.out.cell 0 rfl 2 (v := .int .u64 x2) rfl).1
      have k3 := (HS.out.cell 0 rfl 3 (v := .int .u64 x3) rfl).1
      have k4 := (HS.out.cell 0 rfl 4 (v := .int .u64 x4) rfl).1
      have k5 := (HS.out.cell 0 rfl 5 (v := .int .u64 x5) rfl).1
      refine bodyPost_ret (v := .tuple #[nodeV x0 x1 x2 x3 x4 x5, .int .i64 0]) ?_ rfl ⟨rfl, HS.out.mod⟩
      simp [results, Tryz.f48, go_sem, k0, k1, k2, k3, k4, k5]
end
end Go.Proofs.YtfmcddomciicdaaGreatDoor
