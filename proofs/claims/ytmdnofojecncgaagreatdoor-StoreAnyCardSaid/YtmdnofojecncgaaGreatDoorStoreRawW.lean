/- Package store, walked: Raw. Conditions: the store is as said. -/
import Derived.Test.YtmdnofojecncgaaGreatDoorRawPages
import Derived.Test.YtmdnofojecncgaaGreatDoorRawTab
import Derived.Test.YtmdnofojecncgaaGreatDoorStAny
import Derived.Test.YtmdnofojecncgaaGreatDoorSlabQuota
import Derived.Test.YtmdnofojecncgaaGreatDoorHeapB
import Derived.Deep.DeepCutAuto
import Derived.Deep.CutBlock
set_option linter.unusedVariables false
set_option linter.unusedSimpArgs false
set_option maxRecDepth 100000
namespace Go.Proofs.YtmdnofojecncgaaGreatDoor
open Go Go.RowKit

variable {F F0 : Nat → Prop} {w w0 : World} {Ps : List Res}

abbrev slotR (v : Value) (n : Nat) (zs : List RSlot) : Res := rowAt 93 3 v n (arow zs)
abbrev pageR (v : Value) (n : Nat) (wd : Nat → Int) (pg : List Nat) : Res := rowAt 98 65 v n (prow wd pg)
abbrev rawC (q m la : Int) (pv zv : Value) : Array Value := #[.int .i64 q, .int .i64 m, .int .u32 la, pv, zv]


theorem Sep.reorder {Qs : List Res} (h : Sep F0 w0 w Ps) (is : List Nat) (hnd : is.Nodup) (hq : is.map (fun i => Ps[i]?) = Qs.map some) : Sep F0 w0 w Qs := by
  have hl : is.length = Qs.length := by simpa using congrArg List.length hq
  refine h.pick (fun i => is.getD i 0) (fun i hi => ?_) (fun i j hi hj hij e => ?_)
  · have := congrArg (fun l => l[i]?) hq
    simp only [List.getElem?_map] at this
    rw [List.getElem?_eq_getElem (by omega : i < is.length), List.getElem?_eq_getElem hi] at this
    simp only [Option.map_some, Option.some.injEq] at this
    rw [List.getElem?_eq_getElem hi, ← this, List.getD_eq_getElem?_getD, List.getElem?_eq_getElem (by omega : i < is.length)]
    rfl
  · simp only [List.getD_eq_getElem?_getD] at e
    rw [List.getElem?_eq_getElem (by omega : i < is.length), List.getElem?_eq_getElem (by omega : j < is.length)] at e
    exact hij ((List.getElem_inj hnd).1 (by simpa using e))
/-- A block's cells with others from o on. -/
def setArr (c : Array Value) : Nat → List Value → Array Value
  | _, [] => c
  | o, v :: r => setArr (c.setIfInBounds o v) (o + 1) r
theorem setArr_all : ∀ (vs : List Value) (o : Nat) (c : Array Value), c.size = o + vs.length → setArr c o vs = (c.toList.take o ++ vs).toArray
  | [], o, c, h => by
    unfold setArr
    rw [List.append_nil, List.take_of_length_le (by simp at h ⊢; omega)]
  | v :: r, o, c, h => by
    unfold setArr
    rw [setArr_all r (o + 1) _ (by simp at h ⊢; omega)]
    congr 1
    have hk : o < c.toList.length := by simp at h ⊢; omega
    rw [Array.toList_setIfInBounds, List.take_add_one, List.take_set_of_le (Nat.le_refl _), List.getElem?_set_self hk]
    simp
theorem Sep.setCells {b : Nat} {T : TypeId} (i : Nat) (hil : i < Ps.length) : ∀ (vs : List Value) (o : Nat) (w : World) (c : Array Value), Sep F0 w0 w (Ps.set i (cellsAt b c T)) → Sep F0 w0 (w.setCells b o vs) (Ps.set i (cellsAt b (setArr c o vs) T))
  | [], _, _, _, h => h
  | v :: r, o, w, c, h => by
    have h2 := h.set i (List.getElem?_set_self hil) o v
    rw [List.set_set] at h2
    exact Sep.setCells i hil r (o + 1) _ _ h2
theorem Sep.setAll (h : Sep F0 w0 w Ps) (i : Nat) {b : Nat} {c A : Array Value} {T : TypeId} (hi : Ps[i]? = some (cellsAt b c T)) (hl : c.size = A.size) : Sep F0 w0 (w.setCells b 0 A.toList) (Ps.set i (cellsAt b A T)) := by
  have hil := (List.getElem?_eq_some_iff.1 hi).1
  have := Sep.setCells (b := b) (T := T) i hil A.toList 0 w c (by rw [StInv.set_self hi]; exact h)
  rw [setArr_all _ _ _ (by simp [hl])] at this
  simpa using this
theorem Sep.there_ (h : Sep F0 w0 w Ps) (i : Nat) {b : Nat} {c : Array Value} {T : TypeId} (hi : Ps[i]? = some (cellsAt b c T)) {n : Nat} (hn : n ≤ c.size) : w.there b 0 n := fun j hj => by
  have hv : c[j]? = some (c[j]'(by omega)) := Array.getElem?_eq_getElem (by omega)
  have := h.cell i hi j hv
  rw [Nat.zero_add]
  exact ⟨by rw [this.1]; rfl, this.2⟩
theorem Sep.range_ (h : Sep F0 w0 w Ps) (i : Nat) {b : Nat} {c : Array Value} {T : TypeId} (hi : Ps[i]? = some (cellsAt b c T)) : w.rangeAt b 0 c.toList := fun j v hv => by
  rw [Nat.zero_add]
  exact (h.cell i hi j (by simpa using hv)).1
theorem page_sz (A : Array Value) (hA : A.size = 65) : (Tryz.prog.info? 98).map (·.size) = some A.size := by rw [hA]; kernel_rfl
theorem held4 {b s hp t : Nat} {m la : Int} (h : Sep F w0 w (stAt b m la s hp t :: Ps)) : w.cell? ⟨b, 0, none⟩ = some (.int .i64 m) ∧ w.cell? ⟨b, 1, none⟩ = some (.int .u32 la) ∧ w.cell? ⟨b, 2, none⟩ = some (.pointer (some ⟨s, 0, none⟩)) ∧ w.cell? ⟨b, 4, none⟩ = some (.pointer (some ⟨t, 0, none⟩)) :=
  ⟨(h.cell 0 rfl 0 rfl).1, (h.cell 0 rfl 1 rfl).1, (h.cell 0 rfl 2 rfl).1, (h.cell 0 rfl 4 rfl).1⟩

section
variable {b s hp t : Nat} {m la : Int} {S : Slb} {T : HTbl}

theorem st_shut2 {F0 : Nat → Prop} {X Y : Res} {b s hp t : Nat} {m la : Int} {S : Slb} {T : HTbl} (h : Sep F0 w0 w [stAt b m la s hp t, slabR s S, hpAt hp s, tabR t T, X, Y]) : Sep F0 w0 w [stR b m la S T, X, Y] := by
  have h : Sep F0 w0 w [stAt b m la s hp t, X, Y, slabR s S, hpAt hp s, tabR t T] := h.reorder [0, 4, 5, 1, 2, 3] (by decide) rfl
  have h := h.shutStar 0 5 (by omega) rfl rfl rfl
  have h := Sep.shutStar (Ps := [starR (stAt b m la s hp t) (tabR t T), X, Y, slabR s S, hpAt hp s]) h 0 4 (by omega) rfl rfl rfl
  have h := Sep.shutStar (Ps := [starR (starR (stAt b m la s hp t) (tabR t T)) (hpAt hp s), X, Y, slabR s S]) h 0 3 (by omega) rfl rfl rfl
  exact Sep.shutEx (Ps := [starR (starR (starR (stAt b m la s hp t) (tabR t T)) (hpAt hp s)) (slabR s S), X, Y]) h 0 (fun (p : Nat × Nat × Nat) => starR (starR (starR (stAt b m la p.1 p.2.1 p.2.2) (tabR p.2.2 T)) (hpAt p.2.1 p.1)) (slabR p.1 S)) (s, hp, t) rfl
/-- A page whose first k words were told. -/
def pcellTo (wd : Nat → Int) (p k : Nat) : List Value := .int .i64 p :: (List.range 64).map fun i => .int .u64 (if i < k then wd (64 * p + i) else 0)
theorem pcellTo_zero (wd : Nat → Int) (p : Nat) : pcellTo wd p 0 = pcell0 p := rfl
theorem pcellTo_all (wd : Nat → Int) (p : Nat) : pcellTo wd p 64 = pcell wd p := by
  unfold pcellTo pcell
  congr 1
  all_goals
    apply List.map_congr_left
    intro i hi
    rw [if_pos (List.mem_range.1 hi)]
theorem pcellTo_size (wd : Nat → Int) (p k : Nat) : (pcellTo wd p k).toArray.size = 65 := by simp [pcellTo]
theorem pcellTo_set (wd : Nat → Int) (p k : Nat) : ((pcellTo wd p k).toArray.setIfInBounds (1 + k) (.int .u64 (wd (64 * p + k)))) = (pcellTo wd p (k + 1)).toArray := by
  rw [List.setIfInBounds_toArray]
  congr 1
  apply List.ext_getElem?
  intro i
  rw [List.getElem?_set]
  unfold pcellTo
  cases i with
  | zero => rw [if_neg (by omega)]; rfl
  | succ i =>
    simp only [List.getElem?_cons_succ, List.getElem?_map, List.length_cons, List.length_map, List.length_range]
    by_cases hi : i < 64
    · rw [List.getElem?_range hi]
      by_cases e : 1 + k = i + 1
      · obtain rfl : k = i := by omega
        rw [if_pos e, if_pos (by omega)]
        simp
      · rw [if_neg e]
        simp only [Option.map_some, Option.some.injEq, Value.int.injEq, true_and]
        by_cases h : i < k
        · rw [if_pos h, if_pos (by omega)]
        · rw [if_neg h, if_neg (by omega)]
    · rw [List.getElem?_eq_none (by simp; omega)]
      by_cases e : 1 + k = i + 1
      · rw [if_pos e, if_neg (by omega)]; rfl
      · rw [if_neg e]; rfl
theorem pcellTo_get (wd : Nat → Int) (p k j : Nat) (hj : j < 64) : ∃ x, (pcellTo wd p k).toArray[1 + j]? = some (.int .u64 x) := by
  refine ⟨if j < k then wd (64 * p + j) else 0, ?_⟩
  unfold pcellTo
  rw [List.getElem?_toArray, Nat.add_comm, List.getElem?_cons_succ, List.getElem?_map, List.getElem?_range hj]
  rfl

abbrev SrPs (b : Nat) (m la : Int) (s hp t : Nat) (S : Slb) (T : HTbl) (B0 B3 n : Nat) (pv zv iv : Value) (j : Nat) : List Res :=
  [stAt b m la s hp t, slabR s S, hpAt hp s, tabR t T, cellsAt B0 (rawC 0 0 0 (.slice none 0 0) (.slice none 0 0)) 87, cellsAt B3 (rawC S.quota m la pv zv) 87, slotR zv T.raw.length T.raw, rowAt 3 1 iv n (S.pg.map (Value.int .i64 ∘ fun k : Nat => (k : Int))), pageR pv j S.wd (S.pg.take j)]
def SrRel (F : Nat → Prop) (w : World) (b : Nat) (m la : Int) (s hp t : Nat) (S : Slb) (T : HTbl) (B0 B3 n : Nat) (pv zv iv : Value) (j : Nat) (wr : World) : Prop :=
  Sep F w wr (SrPs b m la s hp t S T B0 B3 n pv zv iv j)

set_option maxRecDepth 100000 in
set_option maxHeartbeats 4000000 in
theorem straw_in (h : Sep F w w [stAt b m la s hp t, slabR s S, hpAt hp s, tabR t T]) (hlow : ∀ k ∈ S.pg, k < 1048576) :
    Calls Tryz.prog 34 #[.pointer (some ⟨b, 0, none⟩)] w fun e w' => ∃ pa pc za zc, e = .returned (.agg (rawC S.quota m la (.slice pa S.pg.length pc) (.slice za T.raw.length zc))) ∧
      Sep F w w' [stAt b m la s hp t, slabR s S, hpAt hp s, tabR t T, pageR (.slice pa S.pg.length pc) S.pg.length S.wd S.pg, slotR (.slice za T.raw.length zc) T.raw.length T.raw] := by
  have hn := stnone_call (h.pushCells (rawC 0 0 0 (.slice none 0 0) (.slice none 0 0)) 87) 0 rfl
  have h0 := h.pushCells (rawC 0 0 0 (.slice none 0 0) (.slice none 0 0)) 87
  obtain ⟨B0, hB0⟩ : ∃ B, w.heap.size = B := ⟨_, rfl⟩
  obtain ⟨W0, hW0⟩ : ∃ W, w.alloc (.cells (rawC 0 0 0 (.slice none 0 0) (.slice none 0 0)) 87) = W := ⟨_, rfl⟩
  rw [hB0, hW0] at h0
  rw [hW0] at hn
  have h0 : Sep F w W0 [stAt b m la s hp t, slabR s S, hpAt hp s, tabR t T, cellsAt B0 (rawC 0 0 0 (.slice none 0 0) (.slice none 0 0)) 87] := h0
  have H0 := Lib.hid h0
  have hok := h.sOk 1 rfl
  have hlen : S.pg.length ≤ 4096 := by have := hok.fit; have := hok.q1; omega
  clear h h0
  go_enter Tryz.func34, Tryz.ntmps34
  go_wp2_with fail
  try rw [hW0]
  refine hn.mono ?_
  rintro e w' ⟨rfl, rfl⟩
  clear hn hW0 hB0
  go_upto_region 3 with fail
  go_cut [3] (fun bv wx => ∃ B3 za zc, bv = .pointer (some ⟨B3, 0, none⟩) ∧ Sep F w wx [stAt b m la s hp t, slabR s S, hpAt hp s, tabR t T, cellsAt B0 (rawC 0 0 0 (.slice none 0 0) (.slice none 0 0)) 87, cellsAt B3 (rawC S.quota m la (.slice none 0 0) (.slice za T.raw.length zc)) 87, slotR (.slice za T.raw.length zc) T.raw.length T.raw])
  case first =>
    have h1 := H0.out.drew
    have k0 := (h1.cell 0 rfl 0 (v := .int .i64 m) rfl).1
    have k1 := (h1.cell 0 rfl 1 (v := .int .u32 la) rfl).1
    have k2 := (h1.cell 0 rfl 2 (v := .pointer (some ⟨s, 0, none⟩)) rfl).1
    have k4 := (h1.cell 0 rfl 4 (v := .pointer (some ⟨t, 0, none⟩)) rfl).1
    have hqc := h1.sQuota 1 rfl
    have H1 := Lib.hid h1
    clear h1
    go_wp2_with fail
    refine wp_region_held_drew (S := fun w' => w'.cell? ⟨b, 0, none⟩ = some (.int .i64 m) ∧ w'.cell? ⟨b, 1, none⟩ = some (.int .u32 la) ∧ w'.cell? ⟨b, 2, none⟩ = some (.pointer (some ⟨s, 0, none⟩)) ∧ w'.cell? ⟨b, 4, none⟩ = some (.pointer (some ⟨t, 0, none⟩))) (by kernel_rfl) ⟨k0, k1, k2, k4⟩ (fun hHeld => ?_)
    clear k0 k1 k2 k4
    refine wpAnyH_takeD (i := 0) (v := ?_) (some 11) rfl (by rfl) (by kernel_rfl) (by kernel_rfl) (by kernel_rfl) (fun _ _ _ h => h) (Or.inl ⟨by rfl, ?_⟩) (by assumption) ?_
    rotate_left
    · intro w hSw
      try dsimp only at hSw
      go_simp
      try with_reducible rfl
    simp only [Act.put, List.setIfInBounds_toArray, List.set_cons_zero, List.set_cons_succ]
    refine wpAnyH_takeD (i := 1) (v := ?_) (some 12) rfl (by rfl) (by kernel_rfl) (by kernel_rfl) (by kernel_rfl) (fun _ _ _ h => h) (Or.inl ⟨by rfl, ?_⟩) (by assumption) ?_
    rotate_left
    · intro w hSw
      try dsimp only at hSw
      go_simp
      try with_reducible rfl
    simp only [Act.put, List.setIfInBounds_toArray, List.set_cons_zero, List.set_cons_succ]
    refine wpAnyH_takeD (i := 2) (v := ?_) (some 13) rfl (by rfl) (by kernel_rfl) (by kernel_rfl) (by kernel_rfl) (fun _ _ _ h => h) (Or.inl ⟨by rfl, ?_⟩) (by assumption) ?_
    rotate_left
    · intro w hSw
      try dsimp only at hSw
      go_simp
      try with_reducible rfl
    simp only [Act.put, List.setIfInBounds_toArray, List.set_cons_zero, List.set_cons_succ]
    refine wpAnyH_takeD (i := 3) (v := ?_) (some 14) rfl (by rfl) (by kernel_rfl) (by kernel_rfl) (by kernel_rfl) (fun _ _ _ h => h) (Or.inl ⟨by rfl, ?_⟩) (by assumption) ?_
    rotate_left
    · intro w hSw
      try dsimp only at hSw
      go_simp
      try with_reducible rfl
    simp only [Act.put, List.setIfInBounds_toArray, List.set_cons_zero, List.set_cons_succ]
    refine wpAnyH_takeD (i := 5) (v := ?_) (some 16) rfl (by rfl) (by kernel_rfl) (by kernel_rfl) (by kernel_rfl) (fun _ _ _ h => h) (Or.inl ⟨by rfl, ?_⟩) (by assumption) ?_
    rotate_left
    · intro w hSw
      try dsimp only at hSw
      go_simp
      try with_reducible rfl
    simp only [Act.put, List.setIfInBounds_toArray, List.set_cons_zero, List.set_cons_succ]
    refine wpAnyH_takeD (i := 6) (v := ?_) (some 17) rfl (by rfl) (by kernel_rfl) (by kernel_rfl) (by kernel_rfl) (fun _ _ _ h => h) (Or.inl ⟨by rfl, ?_⟩) (by assumption) ?_
    rotate_left
    · intro w hSw
      try dsimp only at hSw
      go_simp
      try with_reducible rfl
    simp only [Act.put, List.setIfInBounds_toArray, List.set_cons_zero, List.set_cons_succ]
    refine wpAnyH_takeD (i := 7) (v := ?_) (some 18) rfl (by rfl) (by kernel_rfl) (by kernel_rfl) (by kernel_rfl) (fun _ _ _ h => h) (Or.inl ⟨by rfl, ?_⟩) (by assumption) ?_
    rotate_left
    · intro w hSw
      try dsimp only at hSw
      go_simp
      try with_reducible rfl
    simp only [Act.put, List.setIfInBounds_toArray, List.set_cons_zero, List.set_cons_succ]
    refine wpAnyH_takeD (i := 8) (v := ?_) (some 19) rfl (by rfl) (by kernel_rfl) (by kernel_rfl) (by kernel_rfl) (fun _ _ _ h => h) (Or.inl ⟨by rfl, ?_⟩) (by assumption) ?_
    rotate_left
    · intro w hSw
      try dsimp only at hSw
      go_simp
      try with_reducible rfl
    simp only [Act.put, List.setIfInBounds_toArray, List.set_cons_zero, List.set_cons_succ]
    refine wpAnyH_takeD (i := 9) (v := ?_) (some 20) rfl (by rfl) (by kernel_rfl) (by kernel_rfl) (by kernel_rfl) (fun _ _ _ h => h) (Or.inl ⟨by rfl, ?_⟩) (by assumption) ?_
    rotate_left
    · intro w hSw
      try dsimp only at hSw
      go_simp
      try with_reducible rfl
    simp only [Act.put, List.setIfInBounds_toArray, List.set_cons_zero, List.set_cons_succ]
    refine wpAnyH_takeD (i := 10) (v := ?_) (some 21) rfl (by rfl) (by kernel_rfl) (by kernel_rfl) (by kernel_rfl) (fun _ _ _ h => h) (Or.inl ⟨by rfl, ?_⟩) (by assumption) ?_
    rotate_left
    · intro w hSw
      try dsimp only at hSw
      go_simp
      try with_reducible rfl
    simp only [Act.put, List.setIfInBounds_toArray, List.set_cons_zero, List.set_cons_succ]
    refine wpAnyH_takeD (i := 11) (v := ?_) (some 22) rfl (by rfl) (by kernel_rfl) (by kernel_rfl) (by kernel_rfl) (fun _ _ _ h => h) (Or.inl ⟨by rfl, ?_⟩) (by assumption) ?_
    rotate_left
    · intro w hSw
      try dsimp only at hSw
      go_simp
      try with_reducible rfl
    simp only [Act.put, List.setIfInBounds_toArray, List.set_cons_zero, List.set_cons_succ]
    refine wpAnyH_takeD (i := 12) (v := ?_) (some 23) rfl (by rfl) (by kernel_rfl) (by kernel_rfl) (by kernel_rfl) (fun _ _ _ h => h) (Or.inl ⟨by rfl, ?_⟩) (by assumption) ?_
    rotate_left
    · intro w hSw
      try dsimp only at hSw
      go_simp
      try with_reducible rfl
    simp only [Act.put, List.setIfInBounds_toArray, List.set_cons_zero, List.set_cons_succ]
    refine wpAnyH_takeD (i := 13) (v := ?_) (some 24) rfl (by rfl) (by kernel_rfl) (by kernel_rfl) (by kernel_rfl) (fun _ _ _ h => h) (Or.inl ⟨by rfl, ?_⟩) (by assumption) ?_
    rotate_left
    · intro w hSw
      try dsimp only at hSw
      go_simp
      try with_reducible rfl
    simp only [Act.put, List.setIfInBounds_toArray, List.set_cons_zero, List.set_cons_succ]
    refine wpAnyH_takeD (i := 14) (v := ?_) (some 25) rfl (by rfl) (by kernel_rfl) (by kernel_rfl) (by kernel_rfl) (fun _ _ _ h => h) (Or.inl ⟨by rfl, ?_⟩) (by assumption) ?_
    rotate_left
    · intro w hSw
      try dsimp only at hSw
      go_simp
      try with_reducible rfl
    simp only [Act.put, List.setIfInBounds_toArray, List.set_cons_zero, List.set_cons_succ]
    refine wpAnyH_takeD (i := 15) (v := ?_) (some 26) rfl (by rfl) (by kernel_rfl) (by kernel_rfl) (by kernel_rfl) (fun _ _ _ h => h) (Or.inl ⟨by rfl, ?_⟩) (by assumption) ?_
    rotate_left
    · intro w hSw
      try dsimp only at hSw
      go_simp
      try with_reducible rfl
    simp only [Act.put, List.setIfInBounds_toArray, List.set_cons_zero, List.set_cons_succ]
    refine wpAnyH_takeD (i := 16) (v := ?_) (some 27) rfl (by rfl) (by kernel_rfl) (by kernel_rfl) (by kernel_rfl) (fun _ _ _ h => h) (Or.inl ⟨by rfl, ?_⟩) (by assumption) ?_
    rotate_left
    · intro w hSw
      try dsimp only at hSw
      go_simp
      try with_reducible rfl
    simp only [Act.put, List.setIfInBounds_toArray, List.set_cons_zero, List.set_cons_succ]
    refine wpAnyH_ready (rs := [4, 19]) (by kernel_rfl) (by simp) ?_
    refine AllReadyH.cons rfl (fun K hK => ?_) (AllReadyH.cons rfl (fun K hK => ?_) AllReadyH.nil)
    · go_simp
      refine hqc.mono ?_
      rintro e w2 ⟨rfl, rfl⟩
      refine hK.out _ _ hHeld (fun _ => ?_)
      clear hK K
      try simp only [Act.put, List.setIfInBounds_toArray, List.set_cons_zero, List.set_cons_succ]
      refine wpAnyH_ready (rs := [17, 19]) (by kernel_rfl) (by simp) ?_
      refine AllReadyH.cons rfl (fun K hK => ?_) (AllReadyH.cons rfl (fun K hK => ?_) AllReadyH.nil)
      · go_simp
        refine (H1.out.tRaw 3 rfl).mono ?_
        rintro e w3 ⟨za, zc, rfl, h3⟩
        have h4 := H1.out.join h3
        have HX := held4 h4
        refine hK.out _ _ HX (fun _ => ?_)
        clear hK K hHeld
        have hHeld := HX
        clear HX
        try simp only [Act.put, List.setIfInBounds_toArray, List.set_cons_zero, List.set_cons_succ]
        refine wpAnyH_takeD (i := 18) (v := ?_) (some 29) rfl (by rfl) (by kernel_rfl) (by kernel_rfl) (by kernel_rfl) (fun _ _ _ h => h) (Or.inl ⟨by rfl, ?_⟩) (by assumption) ?_
        rotate_left
        · intro w hSw
          try dsimp only at hSw
          go_simp
          try with_reducible rfl
        simp only [Act.put, List.setIfInBounds_toArray, List.set_cons_zero, List.set_cons_succ]
        refine wpAnyH_ready (rs := [19]) (by kernel_rfl) (by simp) ?_
        refine AllReadyH.cons rfl (fun K hK => ?_) AllReadyH.nil
        go_simp
        have h5 := h4.pushCells (rawC 0 0 0 (.slice none 0 0) (.slice none 0 0)) 87
        have h6 := h4.pushCells (rawC S.quota m la (.slice none 0 0) (.slice za T.raw.length zc)) 87
        obtain ⟨B3, hB3⟩ : ∃ B, w3.heap.size = B := ⟨_, rfl⟩
        rw [hB3] at h5 h6 ⊢
        have HX := held4 h5
        refine hK.out _ _ HX (fun _ => ?_)
        clear hK K hHeld
        have hHeld := HX
        clear HX
        try simp only [Act.put, List.setIfInBounds_toArray, List.set_cons_zero, List.set_cons_succ]
        have q0 := h5.cell 6 rfl 0 (v := .int .i64 0) rfl
        have q1 := h5.cell 6 rfl 1 (v := .int .i64 0) rfl
        have q2 := h5.cell 6 rfl 2 (v := .int .u32 0) rfl
        have q3 := h5.cell 6 rfl 3 (v := .slice none 0 0) rfl
        have q4 := h5.cell 6 rfl 4 (v := .slice none 0 0) rfl
        refine wpAnyH_ready (rs := [20]) (by kernel_rfl) (by simp) ?_
        refine AllReadyH.cons rfl (fun K hK => ?_) AllReadyH.nil
        go_simp
        have h9 : Sep F w _ [stAt b m la s hp t, slabR s S, hpAt hp s, tabR t T, cellsAt B0 (rawC 0 0 0 (.slice none 0 0) (.slice none 0 0)) 87, cellsAt B3 (rawC S.quota m la (.slice none 0 0) (.slice za T.raw.length zc)) 87, slotR (.slice za T.raw.length zc) T.raw.length T.raw] := h6.reorder [0, 1, 2, 3, 4, 6, 5] (by decide) rfl
        clear q0 q1 q2 q3 q4 h5 h4 h3 h6
        refine hK.out _ _ (held4 h9) (fun _ => ?_)
        clear hK K hHeld
        try simp only [Act.put, List.setIfInBounds_toArray, List.set_cons_zero, List.set_cons_succ]
        refine wpAnyH_done (by kernel_rfl) ?_ _
        have H9 := Lib.hid h9
        clear h9
        go_wp2_with fail
        go_meet
        exact ⟨B3, za, zc, rfl, H9.out⟩
      · go_simp
        have h5 := Sep.drew <| H0.out.pushCells (rawC 0 0 0 (.slice none 0 0) (.slice none 0 0)) 87
        obtain ⟨B3, hB3⟩ : ∃ B, W0.heap.size = B := ⟨_, rfl⟩
        rw [hB3] at h5 ⊢
        obtain ⟨W5, hW5⟩ : ∃ W, World.drew (W0.alloc (.cells (rawC 0 0 0 (.slice none 0 0) (.slice none 0 0)) 87)) = W := ⟨_, rfl⟩
        rw [hW5] at h5
        have HX := held4 h5
        refine hK.out _ _ (by rw [hW5]; exact HX) (fun _ => ?_)
        rw [hW5]
        clear hK K hHeld
        have hHeld := HX
        clear HX
        try simp only [Act.put, List.setIfInBounds_toArray, List.set_cons_zero, List.set_cons_succ]
        refine wpAnyH_ready (rs := [17]) (by kernel_rfl) (by simp) ?_
        refine AllReadyH.cons rfl (fun K hK => ?_) AllReadyH.nil
        go_simp
        refine ((h5.tRaw 3 rfl)).mono ?_
        rintro e w3 ⟨za, zc, rfl, h3⟩
        have h4 := h5.join h3
        have HX := held4 h4
        refine hK.out _ _ HX (fun _ => ?_)
        clear hK K hHeld
        have hHeld := HX
        clear HX
        try simp only [Act.put, List.setIfInBounds_toArray, List.set_cons_zero, List.set_cons_succ]
        refine wpAnyH_takeD (i := 18) (v := ?_) (some 29) rfl (by rfl) (by kernel_rfl) (by kernel_rfl) (by kernel_rfl) (fun _ _ _ h => h) (Or.inl ⟨by rfl, ?_⟩) (by assumption) ?_
        rotate_left
        · intro w hSw
          try dsimp only at hSw
          go_simp
          try with_reducible rfl
        simp only [Act.put, List.setIfInBounds_toArray, List.set_cons_zero, List.set_cons_succ]
        have h4 : Sep F w w3 [stAt b m la s hp t, slabR s S, hpAt hp s, tabR t T, cellsAt B0 (rawC 0 0 0 (.slice none 0 0) (.slice none 0 0)) 87, cellsAt B3 (rawC 0 0 0 (.slice none 0 0) (.slice none 0 0)) 87, slotR (.slice za T.raw.length zc) T.raw.length T.raw] := h4
        have q0 := h4.cell 5 rfl 0 (v := .int .i64 0) rfl
        have q1 := h4.cell 5 rfl 1 (v := .int .i64 0) rfl
        have q2 := h4.cell 5 rfl 2 (v := .int .u32 0) rfl
        have q3 := h4.cell 5 rfl 3 (v := .slice none 0 0) rfl
        have q4 := h4.cell 5 rfl 4 (v := .slice none 0 0) rfl
        refine wpAnyH_ready (rs := [20]) (by kernel_rfl) (by simp) ?_
        refine AllReadyH.cons rfl (fun K hK => ?_) AllReadyH.nil
        obtain ⟨q0, f0⟩ := q0
        obtain ⟨q1, f1⟩ := q1
        obtain ⟨q2, f2⟩ := q2
        obtain ⟨q3, f3⟩ := q3
        obtain ⟨q4, f4⟩ := q4
        go_simp
        have h9 := ((((h4.set 5 rfl 0 (.int .i64 S.quota)).set 5 rfl 1 (.int .i64 m)).set 5 rfl 2 (.int .u32 la)).set 5 rfl 3 (.slice none 0 0)).set 5 rfl 4 (.slice za T.raw.length zc)
        have h9 : Sep F w _ [stAt b m la s hp t, slabR s S, hpAt hp s, tabR t T, cellsAt B0 (rawC 0 0 0 (.slice none 0 0) (.slice none 0 0)) 87, cellsAt B3 (rawC S.quota m la (.slice none 0 0) (.slice za T.raw.length zc)) 87, slotR (.slice za T.raw.length zc) T.raw.length T.raw] := h9
        clear q0 q1 q2 q3 q4 f0 f1 f2 f3 f4 h5 h4 h3
        refine hK.out _ _ (held4 h9) (fun _ => ?_)
        clear hK K hHeld
        try simp only [Act.put, List.setIfInBounds_toArray, List.set_cons_zero, List.set_cons_succ]
        refine wpAnyH_done (by kernel_rfl) ?_ _
        have H9 := Lib.hid h9
        clear h9
        go_wp2_with fail
        go_meet
        exact ⟨B3, za, zc, rfl, H9.out⟩
    · go_simp
      have h5 := Sep.drew <| H0.out.pushCells (rawC 0 0 0 (.slice none 0 0) (.slice none 0 0)) 87
      obtain ⟨B3, hB3⟩ : ∃ B, W0.heap.size = B := ⟨_, rfl⟩
      rw [hB3] at h5 ⊢
      obtain ⟨W5, hW5⟩ : ∃ W, World.drew (W0.alloc (.cells (rawC 0 0 0 (.slice none 0 0) (.slice none 0 0)) 87)) = W := ⟨_, rfl⟩
      rw [hW5] at h5
      have HX := held4 h5
      refine hK.out _ _ (by rw [hW5]; exact HX) (fun _ => ?_)
      rw [hW5]
      clear hK K hHeld
      have hHeld := HX
      clear HX
      try simp only [Act.put, List.setIfInBounds_toArray, List.set_cons_zero, List.set_cons_succ]
      have hqc := h5.sQuota 1 rfl
      refine wpAnyH_ready (rs := [4]) (by kernel_rfl) (by simp) ?_
      refine AllReadyH.cons rfl (fun K hK => ?_) AllReadyH.nil
      go_simp
      refine (hqc).mono ?_
      rintro e w2 ⟨rfl, rfl⟩
      refine hK.out _ _ hHeld (fun _ => ?_)
      clear hK K
      try simp only [Act.put, List.setIfInBounds_toArray, List.set_cons_zero, List.set_cons_succ]
      refine wpAnyH_ready (rs := [17]) (by kernel_rfl) (by simp) ?_
      refine AllReadyH.cons rfl (fun K hK => ?_) AllReadyH.nil
      go_simp
      refine ((h5.tRaw 3 rfl)).mono ?_
      rintro e w3 ⟨za, zc, rfl, h3⟩
      have h4 := h5.join h3
      have HX := held4 h4
      refine hK.out _ _ HX (fun _ => ?_)
      clear hK K hHeld
      have hHeld := HX
      clear HX
      try simp only [Act.put, List.setIfInBounds_toArray, List.set_cons_zero, List.set_cons_succ]
      refine wpAnyH_takeD (i := 18) (v := ?_) (some 29) rfl (by rfl) (by kernel_rfl) (by kernel_rfl) (by kernel_rfl) (fun _ _ _ h => h) (Or.inl ⟨by rfl, ?_⟩) (by assumption) ?_
      rotate_left
      · intro w hSw
        try dsimp only at hSw
        go_simp
        try with_reducible rfl
      simp only [Act.put, List.setIfInBounds_toArray, List.set_cons_zero, List.set_cons_succ]
      have h4 : Sep F w w3 [stAt b m la s hp t, slabR s S, hpAt hp s, tabR t T, cellsAt B0 (rawC 0 0 0 (.slice none 0 0) (.slice none 0 0)) 87, cellsAt B3 (rawC 0 0 0 (.slice none 0 0) (.slice none 0 0)) 87, slotR (.slice za T.raw.length zc) T.raw.length T.raw] := h4
      have q0 := h4.cell 5 rfl 0 (v := .int .i64 0) rfl
      have q1 := h4.cell 5 rfl 1 (v := .int .i64 0) rfl
      have q2 := h4.cell 5 rfl 2 (v := .int .u32 0) rfl
      have q3 := h4.cell 5 rfl 3 (v := .slice none 0 0) rfl
      have q4 := h4.cell 5 rfl 4 (v := .slice none 0 0) rfl
      refine wpAnyH_ready (rs := [20]) (by kernel_rfl) (by simp) ?_
      refine AllReadyH.cons rfl (fun K hK => ?_) AllReadyH.nil
      obtain ⟨q0, f0⟩ := q0
      obtain ⟨q1, f1⟩ := q1
      obtain ⟨q2, f2⟩ := q2
      obtain ⟨q3, f3⟩ := q3
      obtain ⟨q4, f4⟩ := q4
      go_simp
      have h9 := ((((h4.set 5 rfl 0 (.int .i64 S.quota)).set 5 rfl 1 (.int .i64 m)).set 5 rfl 2 (.int .u32 la)).set 5 rfl 3 (.slice none 0 0)).set 5 rfl 4 (.slice za T.raw.length zc)
      have h9 : Sep F w _ [stAt b m la s hp t, slabR s S, hpAt hp s, tabR t T, cellsAt B0 (rawC 0 0 0 (.slice none 0 0) (.slice none 0 0)) 87, cellsAt B3 (rawC S.quota m la (.slice none 0 0) (.slice za T.raw.length zc)) 87, slotR (.slice za T.raw.length zc) T.raw.length T.raw] := h9
      clear q0 q1 q2 q3 q4 f0 f1 f2 f3 f4 h5 h4 h3
      refine hK.out _ _ (held4 h9) (fun _ => ?_)
      clear hK K hHeld
      try simp only [Act.put, List.setIfInBounds_toArray, List.set_cons_zero, List.set_cons_succ]
      refine wpAnyH_done (by kernel_rfl) ?_ _
      have H9 := Lib.hid h9
      clear h9
      go_wp2_with fail
      go_meet
      exact ⟨B3, za, zc, rfl, H9.out⟩
  case rest =>
    obtain ⟨B3, za, zc, rfl, h1⟩ := hcut
    have k2 := (h1.cell 0 rfl 2 (v := .pointer (some ⟨s, 0, none⟩)) rfl).1
    have hpc := h1.sPages 1 rfl
    clear h1
    go_wp2_with fail
    refine hpc.mono ?_
    rintro e w2 ⟨iv, rfl, h2⟩
    obtain ⟨si, ci, rfl⟩ := h2.form 7 rfl
    obtain ⟨n, hn⟩ : ∃ n, S.pg.length = n := ⟨_, rfl⟩
    unfold intsAt at h2
    rw [List.length_map, hn, List.map_map] at h2
    have hst : Hid (SrRel F w b m la s hp t S T B0 B3 n (.slice none 0 0) (.slice za T.raw.length zc) (.slice si n ci) 0 w2) := Lib.hid (h2.pushNil 98 65)
    rw [hn] at hlen
    rw [List.length_map, hn]
    have HN := Lib.hid hn
    clear h2 hpc k2 hn
    go_wp2_with fail
    go_loopw [36] (fun i wr => ∃ j : Nat, i = .int .i64 j ∧ j ≤ n ∧ ∃ pv, SrRel F w b m la s hp t S T B0 B3 n pv (.slice za T.raw.length zc) (.slice si n ci) j wr) (fun i _ => n - (RowKit.intOf i).toNat)
    case atStart => exact ⟨0, rfl, Nat.zero_le _, _, hst.out⟩
    case round =>
      obtain ⟨j, rfl, hj, pv, h⟩ := hrel
      clear hst
      unfold SrRel at h
      have hNe : S.pg.length = n := HN.out
      by_cases hlt : j < n
      · have hpj := List.getElem?_eq_getElem (show j < S.pg.length by omega)
        obtain ⟨p, hpe⟩ : ∃ p, S.pg[j]'(by omega) = p := ⟨_, rfl⟩
        rw [hpe] at hpj
        obtain ⟨gi, rfl, ci0, _⟩ := Sep.item (sa := si) (cap := ci) (n := n) h 7 rfl (o := j) (x := .int .i64 p) (by rw [List.getElem?_map, hpj]; rfl)
        obtain ⟨Z, A, hzv, hZ1, hZ2, hZ3, hA, hA2⟩ := page_zero p
        have hzv := hzv wr
        have HP := Lib.hid hpj
        have hji : (j : Int) < (n : Int) := by omega
        have h5 := h.pushCells Z 98
        obtain ⟨C1, hC1⟩ : ∃ C, wr.heap.size = C := ⟨_, rfl⟩
        obtain ⟨W5, hW5⟩ : ∃ W, wr.alloc (.cells Z 98) = W := ⟨_, rfl⟩
        rw [hC1, hW5] at h5
        have hZs : Z.size = 65 := by rw [hZ3]; rfl
        have hth : W5.there C1 0 A.size := h5.there_ 9 rfl (by omega)
        have hsz := page_sz A hA2
        have hone : A.all (·.oneCell') = true := by rw [hA]; exact all_oneCell_toArray (pcell0_one p)
        have h6 : Sep F w (W5.setCells C1 0 A.toList) _ := h5.setAll 9 rfl (by omega)
        rw [hA, ← pcellTo_zero S.wd p] at h6
        obtain ⟨W6, hW6⟩ : ∃ W, W5.setCells C1 0 A.toList = W := ⟨_, rfl⟩
        have H6 : Hid (Sep F w W6 (SrPs b m la s hp t S T B0 B3 n pv (.slice za T.raw.length zc) (.slice (some ⟨gi, 0, none⟩) n ci) j ++ [cellsAt C1 (pcellTo S.wd p 0).toArray 98])) := by
          rw [← hW6, hA, ← pcellTo_zero S.wd p]
          exact Lib.hid h6
        have hpl : p < 1048576 := hlow p (List.mem_of_getElem? HP.out)
        have hpin : p ∈ S.pg := List.mem_of_getElem? HP.out
        have HRD : Hid (∀ k : Nat, k < 64 → S.read ((p : Int) * 64 + (k : Int)) = (S.wd (64 * p + k), 0)) := Lib.hid fun k hk => by
          rw [show (p : Int) * 64 + (k : Int) = ((64 * p + k : Nat) : Int) by omega, Slb.read_in (Slb.err_page (by rw [show (64 * p + k) / 64 = p by omega]; exact hpin) (by omega))]
          rfl
        have ew1 : IntKind.i64.wrap ((p : Int) * 64) = (p : Int) * 64 := by rw [IntKind.wrap_i64]; omega
        clear h h5 h6 hpe hpj hZ3 hA hA2 hZs hpin
        go_wp2_with (first | (refine wpList_store_mid (by rfl) 98 _ _ (by rfl) C1 0 A (by rfl) (by rfl) hth hsz hone ?_))
        try rw [hW6]
        clear hth hsz hone hzv hZ1 hC1 hW5 hW6 ci0
        go_loopw [42] (fun kv wr => ∃ k : Nat, kv = .int .i64 k ∧ k ≤ 64 ∧ Sep F w wr (SrPs b m la s hp t S T B0 B3 n pv (.slice za T.raw.length zc) (.slice (some ⟨gi, 0, none⟩) n ci) j ++ [cellsAt C1 (pcellTo S.wd p k).toArray 98])) (fun kv _ => 64 - (RowKit.intOf kv).toNat)
        case atStart => exact ⟨0, rfl, Nat.zero_le _, H6.out⟩
        case round =>
          obtain ⟨k, rfl, hk, h⟩ := hrel
          clear H6
          by_cases hk64 : k < 64
          · have dk : (k : Int) < 64 := by omega
            have k2 := (h.cell 0 rfl 2 (v := .pointer (some ⟨s, 0, none⟩)) rfl).1
            have hrd := h.sRead 1 rfl _ (HRD.out k hk64)
            obtain ⟨x0, hx0⟩ := pcellTo_get S.wd p k k hk64
            obtain ⟨q1, f1⟩ := h.cell 9 rfl (1 + k) hx0
            have h7 := h.set 9 rfl (1 + k) (.int .u64 (S.wd (64 * p + k)))
            rw [pcellTo_set] at h7
            have H7 : Hid (Sep F w _ (SrPs b m la s hp t S T B0 B3 n pv (.slice za T.raw.length zc) (.slice (some ⟨gi, 0, none⟩) n ci) j ++ [cellsAt C1 (pcellTo S.wd p (k + 1)).toArray 98])) := Lib.hid h7
            have ew2 : IntKind.i64.wrap ((p : Int) * 64 + (k : Int)) = (p : Int) * 64 + (k : Int) := by rw [IntKind.wrap_i64]; omega
            generalize S.wd (64 * p + k) = xw at *
            have HK1 : Hid (k + 1 ≤ 64 ∧ 64 - (k + 1) < 64 - k) := by exact Lib.hid ⟨by omega, by omega⟩
            clear h h7 hx0 hk64
            go_wp2_with fail
            refine hrd.mono ?_
            rintro e w7 ⟨rfl, rfl⟩
            clear hrd
            go_wp2_with fail
            go_roundw
            case rel => exact ⟨k + 1, by go_num, HK1.out.1, H7.out⟩
            case measure => have := HK1.out.2; simp [RowKit.intOf]; omega
          · obtain rfl : k = 64 := by omega
            rw [pcellTo_all] at h
            obtain ⟨sp, cp, rfl⟩ := h.form 8 rfl
            have q3 := h.cell 5 rfl 3 (v := .slice sp j cp) rfl
            obtain ⟨q3, f3⟩ := q3
            obtain ⟨A2, hA⟩ : ∃ A, (pcell S.wd p).toArray = A := ⟨_, rfl⟩
            have hA2 : A2.size = 65 := by rw [← hA]; simp [pcell]
            have HA := Lib.hid hA
            have hld := Lib.hid (h.range_ 9 rfl)
            obtain ⟨Z2, hzv, hZ1⟩ := page_any
            have hzv := hzv wr
            obtain ⟨i0, hi0, ⟨z0, hz0, hz3⟩, hz1, hz2⟩ := infoPage
            have HPR : Hid (prow S.wd (S.pg.take (j + 1)) = prow S.wd (S.pg.take j) ++ pcell S.wd p) := Lib.hid (by rw [List.take_add_one, HP.out, ← prow_snoc]; rfl)
            have HJ1 : Hid (j + 1 ≤ n ∧ n - (j + 1) < n - j) := by exact Lib.hid ⟨by omega, by omega⟩
            have hj4 : j ≤ 4096 := by omega
            have H8 := Lib.hid h
            clear h hA hk
            go_wp2_with (first | (refine wpList_load_mid (by rfl) 98 _ (by rfl) C1 0 (by rfl) (pcell S.wd p) _ hld.out Tryz.underlying98 rfl (page_size _ _) ?_; rw [HA.out]) | (at_builtin; refine wpList_append_sepC H8.out 8 rfl (by rfl) _ _ 84 rfl Tryz.underlying84 hi0 hz0 hz1 hz2 hz3 (by decide) (by rfl) (pcell S.wd p) _ (by rfl) (by simp) (pcell_len _ _) (pcell_one _ _) _ _ ((fold_page _ _ rfl hA2).trans HA.out.symm) (by unfold maxLen; omega) (by omega) ?_))
            intro g3 c3 w9 h9
            have h9 : Sep F w w9 ([stAt b m la s hp t, slabR s S, hpAt hp s, tabR t T, cellsAt B0 (rawC 0 0 0 (.slice none 0 0) (.slice none 0 0)) 87, cellsAt B3 (rawC S.quota m la (.slice sp j cp) (.slice za T.raw.length zc)) 87, slotR (.slice za T.raw.length zc) T.raw.length T.raw, rowAt 3 1 (.slice (some ⟨gi, 0, none⟩) n ci) n (S.pg.map (Value.int .i64 ∘ fun k : Nat => (k : Int))), rowAt 98 65 (.slice (some ⟨g3, 0, none⟩) (j + 1) c3) (j + 1) (prow S.wd (S.pg.take j) ++ pcell S.wd p)] ++ [cellsAt C1 (pcell S.wd p).toArray 98]) := h9
            obtain ⟨p3, e3⟩ := h9.cell 5 rfl 3 (v := .slice sp j cp) rfl
            have h10 := h9.set 5 rfl 3 (.slice (some ⟨g3, 0, none⟩) (j + 1) c3)
            have H10 : Hid (SrRel F w b m la s hp t S T B0 B3 n (.slice (some ⟨g3, 0, none⟩) (j + 1) c3) (.slice za T.raw.length zc) (.slice (some ⟨gi, 0, none⟩) n ci) (j + 1) (w9.setCell ⟨B3, 3, none⟩ (.slice (some ⟨g3, 0, none⟩) (j + 1) c3))) := by
              unfold SrRel SrPs pageR
              rw [HPR.out]
              exact Lib.hid (Sep.left (Qs := [_]) h10)
            clear h9 h10 hld hzv hZ1 hi0 hz0 hz1 hz2 hz3 H8 q3 f3 hA2
            go_wp2_with fail
            go_roundw
            case rel => exact ⟨j + 1, by go_num, HJ1.out.1, _, H10.out⟩
            case measure => have := HJ1.out.2; simp [RowKit.intOf]; omega
      · obtain rfl : j = n := by omega
        obtain ⟨sp, cp, rfl⟩ := h.form 8 rfl
        have e0 := (h.cell 5 rfl 0 (v := .int .i64 S.quota) rfl).1
        have e1 := (h.cell 5 rfl 1 (v := .int .i64 m) rfl).1
        have e2 := (h.cell 5 rfl 2 (v := .int .u32 la) rfl).1
        have e3 := (h.cell 5 rfl 3 (v := .slice sp j cp) rfl).1
        have e4 := (h.cell 5 rfl 4 (v := .slice za T.raw.length zc) rfl).1
        obtain ⟨r0, f0⟩ := h.cell 4 rfl 0 (v := .int .i64 0) rfl
        obtain ⟨r1, f1⟩ := h.cell 4 rfl 1 (v := .int .i64 0) rfl
        obtain ⟨r2, f2⟩ := h.cell 4 rfl 2 (v := .int .u32 0) rfl
        obtain ⟨r3, f3⟩ := h.cell 4 rfl 3 (v := .slice none 0 0) rfl
        obtain ⟨r4, f4⟩ := h.cell 4 rfl 4 (v := .slice none 0 0) rfl
        have dI : decide ((j : Int) < (j : Int)) = false := ltF (by omega)
        have h11 := ((((h.set 4 rfl 0 (.int .i64 S.quota)).set 4 rfl 1 (.int .i64 m)).set 4 rfl 2 (.int .u32 la)).set 4 rfl 3 (.slice sp j cp)).set 4 rfl 4 (.slice za T.raw.length zc)
        have z0 := (h11.cell 4 rfl 0 (v := .int .i64 S.quota) rfl).1
        have z1 := (h11.cell 4 rfl 1 (v := .int .i64 m) rfl).1
        have z2 := (h11.cell 4 rfl 2 (v := .int .u32 la) rfl).1
        have z3 := (h11.cell 4 rfl 3 (v := .slice sp j cp) rfl).1
        have z4 := (h11.cell 4 rfl 4 (v := .slice za T.raw.length zc) rfl).1
        have H11 := Lib.hid h11
        clear h h11 hlt
        go_wp2_with fail
        refine bodyPost_ret (v := .agg (rawC S.quota m la (.slice sp j cp) (.slice za T.raw.length zc))) ?_ rfl ⟨sp, cp, za, zc, by rw [hNe], ?_⟩
        · simp [results, Tryz.results34, go_sem, z0, z1, z2, z3, z4]
        · have hlast := H11.out.reorder (Qs := [stAt b m la s hp t, slabR s S, hpAt hp s, tabR t T, pageR (.slice sp j cp) j S.wd (S.pg.take j), slotR (.slice za T.raw.length zc) T.raw.length T.raw]) [0, 1, 2, 3, 8, 6] (by decide) rfl
          rw [hNe]
          have e : S.pg.take j = S.pg := List.take_of_length_le (by omega)
          rw [e] at hlast
          exact hlast
theorem straw_call {F0 : Nat → Prop} {w0 : World} {Ps : List Res} (h : Sep F0 w0 w Ps) (i : Nat) (hi : Ps[i]? = some (stR b m la S T)) (hlow : ∀ k ∈ S.pg, k < 1048576) :
    Calls Tryz.prog 34 #[.pointer (some ⟨b, 0, none⟩)] w fun e w' => ∃ pa pc za zc, e = .returned (.agg (rawC S.quota m la (.slice pa S.pg.length pc) (.slice za T.raw.length zc))) ∧
      Sep F0 w0 w' (Ps ++ [pageR (.slice pa S.pg.length pc) S.pg.length S.wd S.pg, slotR (.slice za T.raw.length zc) T.raw.length T.raw]) := by
  obtain ⟨F, h1, back⟩ := h.frame [i] [stR b m la S T] (by simp) (by simp [hi])
  obtain ⟨s, hp, t, h2⟩ := st_open h1
  refine (straw_in h2 hlow).mono ?_
  rintro e w' ⟨pa, pc, za, zc, rfl, h3⟩
  refine ⟨pa, pc, za, zc, rfl, ?_⟩
  have h4 := back w' [stR b m la S T, pageR (.slice pa S.pg.length pc) S.pg.length S.wd S.pg, slotR (.slice za T.raw.length zc) T.raw.length T.raw] (by simp) (st_shut2 h3)
  simpa [setAt, StInv.set_self hi] using h4
end
end Go.Proofs.YtmdnofojecncgaaGreatDoor
