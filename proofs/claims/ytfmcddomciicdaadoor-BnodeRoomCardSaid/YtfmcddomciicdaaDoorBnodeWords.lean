/- Package bnode, walked: words, a node's words by their places. Conditions: a node's slices hold what is said; the node fits. -/
import Derived.Test.YtfmcddomciicdaaDoorBnodeFits
import Derived.Test.YtfmcddomciicdaaDoorAllIter
import Derived.Test.YtfmcddomciicdaaDoorHeapB
set_option linter.unusedVariables false
set_option linter.unusedSimpArgs false
set_option maxRecDepth 100000
namespace Go.Proofs.YtfmcddomciicdaaDoor
open Go Go.RowKit

variable {F0 : Nat → Prop} {w0 w : World} {Ps : List Res}

/-- A region, and what it leaves, said of whichever order. -/
theorem region_cut {P : Program} {id : Nat} {ops : Array Oper} {Q : Exit → Act → World → Prop} {a : Act} {w : World} (K' : Act → World → Prop) (h : (Code.region id ops true).wp P (fun e a w => match e with | .normal => K' a w | _ => False) a w) (h2 : ∀ a w, K' a w → Q .normal a w) : (Code.region id ops true).wp P Q a w :=
  wp_mono h (fun e a w q => by cases e <;> first | exact h2 _ _ q | exact q.elim)

abbrev ndCells (sk : Option Addr) (nk ck : Nat) (sv : Option Addr) (nv cv : Nat) (sc : Option Addr) (nc cc : Nat) (sz : Int) : Array Value := #[.slice sk nk ck, .slice sv nv cv, .slice sc nc cc, .int .u64 sz]
def NW (w : World) (bx : Nat) (cs : Array Value) (g n6 : Nat) (l : List Int) (wr : World) : Prop := Sep No w wr [cellsAt bx cs 73, u64Row (.slice (some ⟨g, 0, none⟩) n6 n6) n6 l]
theorem NW.set {bx : Nat} {cs : Array Value} {g n6 : Nat} {l : List Int} {W : World} (h : NW w bx cs g n6 l W) (k : Nat) (v : Int) : NW w bx cs g n6 (l.set k v) (W.setCell ⟨g, k, none⟩ (.int .u64 v)) := by
  have h2 := Sep.setItem h 1 rfl k (.int .u64 v)
  unfold NW
  show Sep No w _ [_, rowAt _ 1 _ n6 _]
  rw [List.map_set]
  exact h2
theorem NW.item {bx : Nat} {cs : Array Value} {g n6 : Nat} {l : List Int} {W : World} (h : NW w bx cs g n6 l W) (k : Nat) (hk : k < l.length) : ∃ x, W.cell? ⟨g, k, none⟩ = some (.int .u64 x) ∧ W.frozen? ⟨g, k, none⟩ = false := by
  obtain ⟨g1, eg, c, f⟩ := Sep.item h 1 rfl (o := k) (x := .int .u64 l[k]) (by rw [List.getElem?_map, List.getElem?_eq_getElem hk]; rfl)
  cases eg
  exact ⟨_, c, f k⟩
theorem NW.drew {bx : Nat} {cs : Array Value} {g n6 : Nat} {l : List Int} {W : World} (h : NW w bx cs g n6 l W) : NW w bx cs g n6 l W.drew := Sep.drew h

theorem Sep.right {F0 : Nat → Prop} {w0 w : World} {Ps Qs : List Res} (h : Sep F0 w0 w (Ps ++ Qs)) : Sep F0 w0 w Qs :=
  h.pick (fun i => Ps.length + i) (fun i hi => by rw [List.getElem?_append_right (Nat.le_add_right _ _), Nat.add_sub_cancel_left]) (fun _ _ _ _ h => by omega)

set_option maxHeartbeats 4000000 in
theorem nwords_call {sk sv sc : Option Addr} {ck cv cc : Nat} {x : Nd} (h : NdAt w sk sv sc x) {t : Nat} (ht : 2 ≤ t ∧ t ≤ 16) (hk : x.keys.length ≤ 2 * t - 1) (hv : x.vals.length = x.keys.length) (hc : x.kids.length = 0 ∨ x.kids.length = x.keys.length + 1) :
    Calls Tryd.prog 103 #[.int .i64 (t : Nat), ndV sk ck sv cv sc cc x] w fun e w' => ∃ B g : Nat, e = .returned (.func (.func 125) #[] #[.pointer (some ⟨B, 0, none⟩)]) ∧
      Sep No w w' [u64Row (.slice (some ⟨g, 0, none⟩) (6 * t) (6 * t)) (6 * t) (Nd.ws t x), cellsAt B #[.slice (some ⟨g, 0, none⟩) (6 * t) (6 * t)] 48] := by
  have hb := (Sep.nil w).pushCells #[.slice sk x.keys.length ck, .slice sv x.vals.length cv, .slice sc x.kids.length cc, .int .u64 x.size] 73
  obtain ⟨n6, hn6⟩ : ∃ n, 6 * t = n := ⟨_, rfl⟩
  obtain ⟨bx, hbx⟩ : ∃ b, w.heap.size = b := ⟨_, rfl⟩
  obtain ⟨nk, hnk⟩ : ∃ n, x.keys.length = n := ⟨_, rfl⟩
  obtain ⟨nv, hnv⟩ : ∃ n, x.vals.length = n := ⟨_, rfl⟩
  obtain ⟨nc, hnc⟩ : ∃ n, x.kids.length = n := ⟨_, rfl⟩
  obtain ⟨sz, hsz⟩ : ∃ n, x.size = n := ⟨_, rfl⟩
  obtain ⟨W1, hW1⟩ : ∃ W, w.alloc (.cells #[.slice sk nk ck, .slice sv nv cv, .slice sc nc cc, .int .u64 sz] 73) = W := ⟨_, rfl⟩
  unfold ndV
  rw [hnk, hnv, hnc, hsz] at hb ⊢
  rw [hW1, hbx] at hb
  rw [hn6]
  have hs0 : Sep No w W1 [cellsAt bx (ndCells sk nk ck sv nv cv sc nc cc sz) 73] := hb
  have HD := Lib.hid (And.intro h (And.intro hnk (And.intro hnv (And.intro hnc hsz))))
  have HT := Lib.hid hn6
  rw [hnk] at hk hv hc
  rw [hnv] at hv
  rw [hnc] at hc
  have hn : n6 ≤ 96 ∧ 12 ≤ n6 ∧ 2 + 2 * nk ≤ 4 * t ∧ 6 * t = n6 ∧ nv = nk ∧ (nc = 0 ∨ nc = nk + 1) := by omega
  have HN := Lib.hid hn
  have hnl : n6 ≤ 96 ∧ 12 ≤ n6 ∧ nk ≤ 31 := by omega
  have q0 : 0 < n6 := by omega
  have q1 : 1 < n6 := by omega
  have q1' : (1 : Int) < (n6 : Int) := by omega
  have e6 : IntKind.i64.wrap (6 * (t : Int)) = (n6 : Int) := by rw [IntKind.wrap_i64]; omega
  have ek : IntKind.u64.wrap (nk : Int) = (nk : Int) := by rw [IntKind.wrap_u64]; omega
  have hmx : Tryd.prog.follows .mixedOrders = true := by kernel_rfl
  obtain ⟨i0, hi0, hz0, hz1, hz2⟩ := info_parts infoU64
  clear hb h hk hv hc hn hnk hnv hnc hsz hn6
  go_enter Tryd.func103, Tryd.ntmps103
  go_wp2_with (at_make; refine wpList_make_sep hs0 (by rfl) _ _ 48 rfl 30 Tryd.underlying48 hi0 hz0 hz1 rfl _ _ n6 (by rfl) (by rfl) rfl rfl (by rw [hz2]; omega) (by unfold maxLen; omega) ?_)
  intro w1 h1
  obtain ⟨g, hg⟩ : ∃ x, W1.heap.size = x := ⟨_, rfl⟩
  rw [hg] at h1 ⊢
  have H1 : Hid (NW w bx (ndCells sk nk ck sv nv cv sc nc cc sz) g n6 (List.replicate n6 0) w1) := by
    show NW _ _ _ _ _ _ _
    unfold NW u64Row
    rw [List.map_replicate]
    exact h1
  clear h1 hs0 hi0 hz0 hz1 hz2 hW1 hg
  go_wp2_with fail
  have b0 := (Sep.cell H1.out.drew 0 rfl 0 (v := .slice sk nk ck) rfl).1
  have b3 := (Sep.cell H1.out.drew 0 rfl 3 (v := .int .u64 sz) rfl).1
  refine wp_region_held_drew (S := fun w' => w'.cell? ⟨bx, 0, none⟩ = some (.slice sk nk ck) ∧ w'.cell? ⟨bx, 3, none⟩ = some (.int .u64 sz)) (by kernel_rfl) ⟨b0, b3⟩ (fun hHeld => ?_)
  clear b0 b3
  refine wpAnyH_takeD (i := 0) (v := ?_) (some 12) rfl (by rfl) (by kernel_rfl) (by kernel_rfl) (by kernel_rfl) (fun _ _ _ h => h) (Or.inl ⟨by rfl, ?_⟩) (by assumption) ?_
  rotate_left
  · intro w hSw
    try dsimp only at hSw
    go_simp
    try with_reducible rfl
  simp only [Act.put, List.setIfInBounds_toArray, List.set_cons_zero, List.set_cons_succ]
  refine wpAnyH_takeD (i := 1) (v := ?_) (some 13) rfl (by rfl) (by kernel_rfl) (by kernel_rfl) (by kernel_rfl) (fun _ _ _ h => h) (Or.inl ⟨by rfl, ?_⟩) (by assumption) ?_
  rotate_left
  · intro w hSw
    try dsimp only at hSw
    go_simp
    try with_reducible rfl
  simp only [Act.put, List.setIfInBounds_toArray, List.set_cons_zero, List.set_cons_succ]
  refine wpAnyH_takeD (i := 2) (v := ?_) (some 14) rfl (by rfl) (by kernel_rfl) (by kernel_rfl) (by kernel_rfl) (fun _ _ _ h => h) (Or.inl ⟨by rfl, ?_⟩) (by assumption) ?_
  rotate_left
  · intro w hSw
    try dsimp only at hSw
    go_simp
    try with_reducible rfl
  simp only [Act.put, List.setIfInBounds_toArray, List.set_cons_zero, List.set_cons_succ]
  refine wpAnyH_takeD (i := 3) (v := ?_) (some 15) rfl (by rfl) (by kernel_rfl) (by kernel_rfl) (by kernel_rfl) (fun _ _ _ h => h) (Or.inl ⟨by rfl, ?_⟩) (by assumption) ?_
  rotate_left
  · intro w hSw
    try dsimp only at hSw
    go_simp
    try with_reducible rfl
  simp only [Act.put, List.setIfInBounds_toArray, List.set_cons_zero, List.set_cons_succ]
  refine wpAnyH_takeD (i := 4) (v := ?_) (some 16) rfl (by rfl) (by kernel_rfl) (by kernel_rfl) (by kernel_rfl) (fun _ _ _ h => h) (Or.inl ⟨by rfl, ?_⟩) (by assumption) ?_
  rotate_left
  · intro w hSw
    try dsimp only at hSw
    go_simp
    try with_reducible rfl
  simp only [Act.put, List.setIfInBounds_toArray, List.set_cons_zero, List.set_cons_succ]
  refine wpAnyH_takeD (i := 5) (v := ?_) (some 17) rfl (by rfl) (by kernel_rfl) (by kernel_rfl) (by kernel_rfl) (fun _ _ _ h => h) (Or.inl ⟨by rfl, ?_⟩) (by assumption) ?_
  rotate_left
  · intro w hSw
    try dsimp only at hSw
    go_simp
    try with_reducible rfl
  simp only [Act.put, List.setIfInBounds_toArray, List.set_cons_zero, List.set_cons_succ]
  refine wpAnyH_takeD (i := 6) (v := ?_) (some 18) rfl (by rfl) (by kernel_rfl) (by kernel_rfl) (by kernel_rfl) (fun _ _ _ h => h) (Or.inl ⟨by rfl, ?_⟩) (by assumption) ?_
  rotate_left
  · intro w hSw
    try dsimp only at hSw
    go_simp
    try with_reducible rfl
  simp only [Act.put, List.setIfInBounds_toArray, List.set_cons_zero, List.set_cons_succ]
  refine wpAnyH_takeD (i := 7) (v := ?_) (some 19) rfl (by rfl) (by kernel_rfl) (by kernel_rfl) (by kernel_rfl) (fun _ _ _ h => h) (Or.inl ⟨by rfl, ?_⟩) (by assumption) ?_
  rotate_left
  · intro w hSw
    try dsimp only at hSw
    go_simp
    try with_reducible rfl
  simp only [Act.put, List.setIfInBounds_toArray, List.set_cons_zero, List.set_cons_succ]
  refine wpAnyH_takeD (i := 8) (v := ?_) (some 20) rfl (by rfl) (by kernel_rfl) (by kernel_rfl) (by kernel_rfl) (fun _ _ _ h => h) (Or.inl ⟨by rfl, ?_⟩) (by assumption) ?_
  rotate_left
  · intro w hSw
    try dsimp only at hSw
    go_simp
    try with_reducible rfl
  simp only [Act.put, List.setIfInBounds_toArray, List.set_cons_zero, List.set_cons_succ]
  have h2 := (H1.out.set 0 (nk : Int)).drew
  obtain ⟨y, c0, f0⟩ := H1.out.drew.item 0 (by rw [List.length_replicate]; omega)
  have HX := And.intro (Sep.cell h2 0 rfl 0 (v := .slice sk nk ck) rfl).1 (Sep.cell h2 0 rfl 3 (v := .int .u64 sz) rfl).1
  have H2 := Lib.hid h2
  clear h2
  refine wpAnyH_ready (rs := [9]) (by kernel_rfl) (by simp) ?_
  refine AllReadyH.cons rfl (fun K hK => ?_) AllReadyH.nil
  go_simp
  have hHeld := HX
  refine hK.out _ _ hHeld (fun _ => ?_)
  clear hK K
  clear HX c0 f0
  refine wpAnyH_takeD (i := 10) (v := ?_) (some 21) rfl (by rfl) (by kernel_rfl) (by kernel_rfl) (by kernel_rfl) (fun _ _ _ h => h) (Or.inl ⟨by rfl, ?_⟩) (by assumption) ?_
  rotate_left
  · intro w hSw
    try dsimp only at hSw
    go_simp
    try with_reducible rfl
  simp only [Act.put, List.setIfInBounds_toArray, List.set_cons_zero, List.set_cons_succ]
  have h3 := ((H1.out.set 0 (nk : Int)).set 1 sz).drew
  obtain ⟨y1, c1, f1⟩ := H2.out.item 1 (by rw [List.length_set, List.length_replicate]; omega)
  have HX := And.intro (Sep.cell h3 0 rfl 0 (v := .slice sk nk ck) rfl).1 (Sep.cell h3 0 rfl 3 (v := .int .u64 sz) rfl).1
  have e0 : Nd.wK t x 0 = ((List.replicate n6 0).set 0 (nk : Int)).set 1 sz := by
    show Nd.w0 t x = _
    unfold Nd.w0
    rw [HT.out, HD.out.2.1, HD.out.2.2.2.2]
  rw [← e0] at h3
  have H3 := Lib.hid h3
  clear e0
  clear h3 H2
  refine wpAnyH_ready (rs := [11]) (by kernel_rfl) (by simp) ?_
  refine AllReadyH.cons rfl (fun K hK => ?_) AllReadyH.nil
  go_simp
  have hHeld := HX
  refine hK.out _ _ hHeld (fun _ => ?_)
  clear hK K
  refine wpAnyH_done (by kernel_rfl) ?_ _
  clear hHeld HX c1 f1
  have b0 := (Sep.cell H3.out 0 rfl 0 (v := .slice sk nk ck) rfl).1
  go_wp2_with fail
  go_loopw [25] (fun iv wr => ∃ k : Nat, iv = .int .i64 k ∧ k ≤ nk ∧ NW w bx (ndCells sk nk ck sv nv cv sc nc cc sz) g n6 (Nd.wK t x k) wr) (fun iv _ => nk - (RowKit.intOf iv).toNat)
  case atStart => exact ⟨0, rfl, Nat.zero_le _, H3.out⟩
  case round =>
    obtain ⟨k, rfl, hk, hr⟩ := hrel
    clear H3 b0
    have HR := Lib.hid hr
    by_cases hlt : k < nk
    · obtain ⟨a, hak⟩ : ∃ a, x.keys[k]? = some a := ⟨_, List.getElem?_eq_getElem (by rw [HD.out.2.1]; exact hlt)⟩
      obtain ⟨v, hvk⟩ : ∃ a, x.vals[k]? = some a := ⟨_, List.getElem?_eq_getElem (by have := HD.out.2.2.1; have := HN.out; omega)⟩
      obtain ⟨gk, ok, rfl, ck0⟩ := HD.out.1.keys k a hak
      obtain ⟨gv, ov, rfl, cv0⟩ := HD.out.1.vals k v hvk
      have HC := Lib.hid (And.intro ck0 cv0)
      have b0 := (Sep.cell hr.drew 0 rfl 0 (v := .slice (some ⟨gk, ok, none⟩) nk ck) rfl).1
      have b1 := (Sep.cell hr.drew 0 rfl 1 (v := .slice (some ⟨gv, ov, none⟩) nv cv) rfl).1
      have b2 := hr.drew.mod.cell ck0 (fun x => x)
      have b3 := hr.drew.mod.cell cv0 (fun x => x)
      have hkv : k < nv := by have := HN.out; omega
      have hlt' : (k : Int) < (nk : Int) := by omega
      have hkv' : (k : Int) < (nv : Int) := by omega
      obtain ⟨j0, hj0⟩ : ∃ j, 2 * k = j := ⟨_, rfl⟩
      obtain ⟨j1, hj1⟩ : ∃ j, 2 + j0 = j := ⟨_, rfl⟩
      obtain ⟨j2, hj2⟩ : ∃ j, j1 + 1 = j := ⟨_, rfl⟩
      have e1 : IntKind.i64.wrap (2 * (k : Int)) = (j0 : Int) := by rw [IntKind.wrap_i64]; omega
      have e1' : 2 * (k : Int) = (j0 : Int) := by omega
      have e2 : IntKind.i64.wrap (2 + (j0 : Int)) = (j1 : Int) := by rw [IntKind.wrap_i64]; omega
      have e2' : 2 + (j0 : Int) = (j1 : Int) := by omega
      have e3 : IntKind.i64.wrap ((j1 : Int) + 1) = (j2 : Int) := by rw [IntKind.wrap_i64]; omega
      have e3' : (j1 : Int) + 1 = (j2 : Int) := by omega
      have v0 : IntKind.i64.wrap (j0 : Int) = (j0 : Int) := by rw [IntKind.wrap_i64]; omega
      have v1 : IntKind.i64.wrap (j1 : Int) = (j1 : Int) := by rw [IntKind.wrap_i64]; omega
      have v2 : IntKind.i64.wrap (j2 : Int) = (j2 : Int) := by rw [IntKind.wrap_i64]; omega
      have hN := HN.out
      have hj1l : j1 < n6 := by omega
      have hj2l : j2 < n6 := by omega
      have hj1l' : (j1 : Int) < (n6 : Int) := by omega
      have hj2l' : (j2 : Int) < (n6 : Int) := by omega
      have HW : Hid (Nd.wK t x (k + 1) = ((Nd.wK t x k).set j1 a).set j2 v) := by
        show Nd.wK t x (k + 1) = _
        rw [Nd.wK, List.getD_eq_getElem?_getD, List.getD_eq_getElem?_getD, hak, hvk, hj0, hj1, hj2]
        rfl
      clear hj0 hj1 hj2 hN hak hvk hr ck0 cv0
      go_wp2_with fail
      refine wp_region_held_drew (S := fun w' => w'.cell? ⟨bx, 0, none⟩ = some (.slice (some ⟨gk, ok, none⟩) nk ck) ∧ w'.cell? ⟨bx, 1, none⟩ = some (.slice (some ⟨gv, ov, none⟩) nv cv) ∧ w'.cell? ⟨gk, ok + k, none⟩ = some (.int .u64 a) ∧ w'.cell? ⟨gv, ov + k, none⟩ = some (.int .u64 v)) (by kernel_rfl) ⟨b0, b1, b2, b3⟩ (fun hHeld => ?_)
      clear b0 b1 b2 b3
      refine wpAnyH_takeD (i := 0) (v := ?_) (some 28) rfl (by rfl) (by kernel_rfl) (by kernel_rfl) (by kernel_rfl) (fun _ _ _ h => h) (Or.inl ⟨by rfl, ?_⟩) (by assumption) ?_
      rotate_left
      · intro w hSw
        try dsimp only at hSw
        go_simp
        try with_reducible rfl
      simp only [Act.put, List.setIfInBounds_toArray, List.set_cons_zero, List.set_cons_succ]
      refine wpAnyH_takeD (i := 1) (v := ?_) (some 29) rfl (by rfl) (by kernel_rfl) (by kernel_rfl) (by kernel_rfl) (fun _ _ _ h => h) (Or.inl ⟨by rfl, ?_⟩) (by assumption) ?_
      rotate_left
      · intro w hSw
        try dsimp only at hSw
        go_simp
        try with_reducible rfl
      simp only [Act.put, List.setIfInBounds_toArray, List.set_cons_zero, List.set_cons_succ]
      refine wpAnyH_takeD (i := 2) (v := ?_) (some 30) rfl (by rfl) (by kernel_rfl) (by kernel_rfl) (by kernel_rfl) (fun _ _ _ h => h) (Or.inl ⟨by rfl, ?_⟩) (by assumption) ?_
      rotate_left
      · intro w hSw
        try dsimp only at hSw
        go_simp
        try with_reducible rfl
      simp only [Act.put, List.setIfInBounds_toArray, List.set_cons_zero, List.set_cons_succ]
      refine wpAnyH_takeD (i := 3) (v := ?_) (some 31) rfl (by rfl) (by kernel_rfl) (by kernel_rfl) (by kernel_rfl) (fun _ _ _ h => h) (Or.inl ⟨by rfl, ?_⟩) (by assumption) ?_
      rotate_left
      · intro w hSw
        try dsimp only at hSw
        go_simp
        try with_reducible rfl
      simp only [Act.put, List.setIfInBounds_toArray, List.set_cons_zero, List.set_cons_succ]
      refine wpAnyH_takeD (i := 4) (v := ?_) (some 32) rfl (by rfl) (by kernel_rfl) (by kernel_rfl) (by kernel_rfl) (fun _ _ _ h => h) (Or.inl ⟨by rfl, ?_⟩) (by assumption) ?_
      rotate_left
      · intro w hSw
        try dsimp only at hSw
        go_simp
        try with_reducible rfl
      simp only [Act.put, List.setIfInBounds_toArray, List.set_cons_zero, List.set_cons_succ]
      refine wpAnyH_takeD (i := 5) (v := ?_) (some 33) rfl (by rfl) (by kernel_rfl) (by kernel_rfl) (by kernel_rfl) (fun _ _ _ h => h) (Or.inl ⟨by rfl, ?_⟩) (by assumption) ?_
      rotate_left
      · intro w hSw
        try dsimp only at hSw
        go_simp
        try with_reducible rfl
      simp only [Act.put, List.setIfInBounds_toArray, List.set_cons_zero, List.set_cons_succ]
      refine wpAnyH_takeD (i := 6) (v := ?_) (some 34) rfl (by rfl) (by kernel_rfl) (by kernel_rfl) (by kernel_rfl) (fun _ _ _ h => h) (Or.inl ⟨by rfl, ?_⟩) (by assumption) ?_
      rotate_left
      · intro w hSw
        try dsimp only at hSw
        go_simp
        try with_reducible rfl
      simp only [Act.put, List.setIfInBounds_toArray, List.set_cons_zero, List.set_cons_succ]
      refine wpAnyH_takeD (i := 7) (v := ?_) (some 35) rfl (by rfl) (by kernel_rfl) (by kernel_rfl) (by kernel_rfl) (fun _ _ _ h => h) (Or.inl ⟨by rfl, ?_⟩) (by assumption) ?_
      rotate_left
      · intro w hSw
        try dsimp only at hSw
        go_simp
        try with_reducible rfl
      simp only [Act.put, List.setIfInBounds_toArray, List.set_cons_zero, List.set_cons_succ]
      refine wpAnyH_takeD (i := 8) (v := ?_) (some 36) rfl (by rfl) (by kernel_rfl) (by kernel_rfl) (by kernel_rfl) (fun _ _ _ h => h) (Or.inl ⟨by rfl, ?_⟩) (by assumption) ?_
      rotate_left
      · intro w hSw
        try dsimp only at hSw
        go_simp
        try with_reducible rfl
      simp only [Act.put, List.setIfInBounds_toArray, List.set_cons_zero, List.set_cons_succ]
      refine wpAnyH_takeD (i := 9) (v := ?_) (some 37) rfl (by rfl) (by kernel_rfl) (by kernel_rfl) (by kernel_rfl) (fun _ _ _ h => h) (Or.inl ⟨by rfl, ?_⟩) (by assumption) ?_
      rotate_left
      · intro w hSw
        try dsimp only at hSw
        go_simp
        try with_reducible rfl
      simp only [Act.put, List.setIfInBounds_toArray, List.set_cons_zero, List.set_cons_succ]
      refine wpAnyH_takeD (i := 10) (v := ?_) (some 38) rfl (by rfl) (by kernel_rfl) (by kernel_rfl) (by kernel_rfl) (fun _ _ _ h => h) (Or.inl ⟨by rfl, ?_⟩) (by assumption) ?_
      rotate_left
      · intro w hSw
        try dsimp only at hSw
        go_simp
        try with_reducible rfl
      simp only [Act.put, List.setIfInBounds_toArray, List.set_cons_zero, List.set_cons_succ]
      refine wpAnyH_takeD (i := 11) (v := ?_) (some 39) rfl (by rfl) (by kernel_rfl) (by kernel_rfl) (by kernel_rfl) (fun _ _ _ h => h) (Or.inl ⟨by rfl, ?_⟩) (by assumption) ?_
      rotate_left
      · intro w hSw
        try dsimp only at hSw
        go_simp
        try with_reducible rfl
      simp only [Act.put, List.setIfInBounds_toArray, List.set_cons_zero, List.set_cons_succ]
      refine wpAnyH_takeD (i := 12) (v := ?_) (some 40) rfl (by rfl) (by kernel_rfl) (by kernel_rfl) (by kernel_rfl) (fun _ _ _ h => h) (Or.inl ⟨by rfl, ?_⟩) (by assumption) ?_
      rotate_left
      · intro w hSw
        try dsimp only at hSw
        go_simp
        try with_reducible rfl
      simp only [Act.put, List.setIfInBounds_toArray, List.set_cons_zero, List.set_cons_succ]
      refine wpAnyH_takeD (i := 13) (v := ?_) (some 41) rfl (by rfl) (by kernel_rfl) (by kernel_rfl) (by kernel_rfl) (fun _ _ _ h => h) (Or.inl ⟨by rfl, ?_⟩) (by assumption) ?_
      rotate_left
      · intro w hSw
        try dsimp only at hSw
        go_simp
        try with_reducible rfl
      simp only [Act.put, List.setIfInBounds_toArray, List.set_cons_zero, List.set_cons_succ]
      refine wpAnyH_takeD (i := 14) (v := ?_) (some 42) rfl (by rfl) (by kernel_rfl) (by kernel_rfl) (by kernel_rfl) (fun _ _ _ h => h) (Or.inl ⟨by rfl, ?_⟩) (by assumption) ?_
      rotate_left
      · intro w hSw
        try dsimp only at hSw
        go_simp
        try with_reducible rfl
      simp only [Act.put, List.setIfInBounds_toArray, List.set_cons_zero, List.set_cons_succ]
      refine wpAnyH_takeD (i := 15) (v := ?_) (some 43) rfl (by rfl) (by kernel_rfl) (by kernel_rfl) (by kernel_rfl) (fun _ _ _ h => h) (Or.inl ⟨by rfl, ?_⟩) (by assumption) ?_
      rotate_left
      · intro w hSw
        try dsimp only at hSw
        go_simp
        try with_reducible rfl
      simp only [Act.put, List.setIfInBounds_toArray, List.set_cons_zero, List.set_cons_succ]
      refine wpAnyH_takeD (i := 16) (v := ?_) (some 44) rfl (by rfl) (by kernel_rfl) (by kernel_rfl) (by kernel_rfl) (fun _ _ _ h => h) (Or.inl ⟨by rfl, ?_⟩) (by assumption) ?_
      rotate_left
      · intro w hSw
        try dsimp only at hSw
        go_simp
        try with_reducible rfl
      simp only [Act.put, List.setIfInBounds_toArray, List.set_cons_zero, List.set_cons_succ]
      refine wpAnyH_takeD (i := 17) (v := ?_) (some 45) rfl (by rfl) (by kernel_rfl) (by kernel_rfl) (by kernel_rfl) (fun _ _ _ h => h) (Or.inl ⟨by rfl, ?_⟩) (by assumption) ?_
      rotate_left
      · intro w hSw
        try dsimp only at hSw
        go_simp
        try with_reducible rfl
      simp only [Act.put, List.setIfInBounds_toArray, List.set_cons_zero, List.set_cons_succ]
      refine wpAnyH_takeD (i := 18) (v := ?_) (some 46) rfl (by rfl) (by kernel_rfl) (by kernel_rfl) (by kernel_rfl) (fun _ _ _ h => h) (Or.inl ⟨by rfl, ?_⟩) (by assumption) ?_
      rotate_left
      · intro w hSw
        try dsimp only at hSw
        go_simp
        try with_reducible rfl
      simp only [Act.put, List.setIfInBounds_toArray, List.set_cons_zero, List.set_cons_succ]
      refine wpAnyH_takeD (i := 19) (v := ?_) (some 47) rfl (by rfl) (by kernel_rfl) (by kernel_rfl) (by kernel_rfl) (fun _ _ _ h => h) (Or.inl ⟨by rfl, ?_⟩) (by assumption) ?_
      rotate_left
      · intro w hSw
        try dsimp only at hSw
        go_simp
        try with_reducible rfl
      simp only [Act.put, List.setIfInBounds_toArray, List.set_cons_zero, List.set_cons_succ]
      have h2 := (HR.out.set j1 a).drew
      obtain ⟨y, c0, f0⟩ := HR.out.drew.item j1 (by rw [Nd.wK_len]; have := HT.out; omega)
      have HX := And.intro (Sep.cell h2 0 rfl 0 (v := .slice (some ⟨gk, ok, none⟩) nk ck) rfl).1 (And.intro (Sep.cell h2 0 rfl 1 (v := .slice (some ⟨gv, ov, none⟩) nv cv) rfl).1 (And.intro (h2.mod.cell HC.out.1 (fun x => x)) (h2.mod.cell HC.out.2 (fun x => x))))
      have H2 := Lib.hid h2
      clear h2
      refine wpAnyH_ready (rs := [20]) (by kernel_rfl) (by simp) ?_
      refine AllReadyH.cons rfl (fun K hK => ?_) AllReadyH.nil
      go_simp
      have hHeld := HX
      refine hK.out _ _ hHeld (fun _ => ?_)
      clear hK K
      clear HX c0 f0
      refine wpAnyH_takeD (i := 21) (v := ?_) (some 48) rfl (by rfl) (by kernel_rfl) (by kernel_rfl) (by kernel_rfl) (fun _ _ _ h => h) (Or.inl ⟨by rfl, ?_⟩) (by assumption) ?_
      rotate_left
      · intro w hSw
        try dsimp only at hSw
        go_simp
        try with_reducible rfl
      simp only [Act.put, List.setIfInBounds_toArray, List.set_cons_zero, List.set_cons_succ]
      have h3 := ((HR.out.set j1 a).set j2 v).drew
      obtain ⟨y1, c1, f1⟩ := H2.out.item j2 (by rw [List.length_set, Nd.wK_len]; have := HT.out; omega)
      have HX := And.intro (Sep.cell h3 0 rfl 0 (v := .slice (some ⟨gk, ok, none⟩) nk ck) rfl).1 (And.intro (Sep.cell h3 0 rfl 1 (v := .slice (some ⟨gv, ov, none⟩) nv cv) rfl).1 (And.intro (h3.mod.cell HC.out.1 (fun x => x)) (h3.mod.cell HC.out.2 (fun x => x))))
      have H3 := Lib.hid h3
      clear h3 H2
      refine wpAnyH_ready (rs := [22]) (by kernel_rfl) (by simp) ?_
      refine AllReadyH.cons rfl (fun K hK => ?_) AllReadyH.nil
      go_simp
      have hHeld := HX
      refine hK.out _ _ hHeld (fun _ => ?_)
      clear hK K
      refine wpAnyH_done (by kernel_rfl) ?_ _
      clear hHeld HX c1 f1
      go_wp2
      go_roundw
      case rel => exact ⟨k + 1, by go_num, by omega, by rw [HW.out]; exact H3.out⟩
      case measure => simp [RowKit.intOf]; omega
    · obtain rfl : k = nk := by omega
      have b2 := (Sep.cell hr 0 rfl 2 (v := .slice sc nc cc) rfl).1
      have HS : Hid (NW w bx (ndCells sk k ck sv nv cv sc nc cc sz) g n6 (Nd.wC t x 0) wr) := by
        show NW _ _ _ _ _ (Nd.wC t x 0) _
        rw [Nd.wC, HD.out.2.1]
        exact hr
      clear hr hlt HR
      go_wp2_with fail
      go_loopw [53] (fun iv wr => ∃ j : Nat, iv = .int .i64 j ∧ j ≤ nc ∧ NW w bx (ndCells sk k ck sv nv cv sc nc cc sz) g n6 (Nd.wC t x j) wr) (fun iv _ => nc - (RowKit.intOf iv).toNat)
      case atStart => exact ⟨0, rfl, Nat.zero_le _, HS.out⟩
      case round =>
        obtain ⟨j, rfl, hj, hr⟩ := hrel
        clear HS b2
        have HR := Lib.hid hr
        by_cases hlt : j < nc
        · obtain ⟨a, hak⟩ : ∃ a, x.kids[j]? = some a := ⟨_, List.getElem?_eq_getElem (by rw [HD.out.2.2.2.1]; exact hlt)⟩
          obtain ⟨gk, ok, rfl, ck0⟩ := HD.out.1.kids j a hak
          have b2 := hr.mod.cell ck0 (fun x => x)
          have hlt' : (j : Int) < (nc : Int) := by omega
          have hN := HN.out
          obtain ⟨t4, ht4⟩ : ∃ j, 4 * t = j := ⟨_, rfl⟩
          obtain ⟨j1, hj1⟩ : ∃ i, t4 + j = i := ⟨_, rfl⟩
          have e1 : IntKind.i64.wrap (4 * (t : Int)) = (t4 : Int) := by rw [IntKind.wrap_i64]; omega
          have e1' : 4 * (t : Int) = (t4 : Int) := by omega
          have e2 : IntKind.i64.wrap ((t4 : Int) + (j : Int)) = (j1 : Int) := by rw [IntKind.wrap_i64]; omega
          have e2' : (t4 : Int) + (j : Int) = (j1 : Int) := by omega
          have hj1l : j1 < n6 := by omega
          have hj1l' : (j1 : Int) < (n6 : Int) := by omega
          have HW : Hid (Nd.wC t x (j + 1) = (Nd.wC t x j).set j1 a) := by
            show Nd.wC t x (j + 1) = _
            rw [Nd.wC, List.getD_eq_getElem?_getD, hak, ht4, hj1]
            rfl
          obtain ⟨y, c0, f0⟩ := hr.item j1 (by rw [Nd.wC_len]; omega)
          have H2 := Lib.hid (hr.set j1 a)
          clear hj1 ht4 hN hak hr ck0
          go_wp2
          go_roundw
          case rel => exact ⟨j + 1, by go_num, by omega, by rw [HW.out]; exact H2.out⟩
          case measure => simp [RowKit.intOf]; omega
        · obtain rfl : j = nc := by omega
          have hac := all_call (some ⟨g, 0, none⟩) n6 n6 wr
          clear hr hlt
          go_wp2_with fail
          refine hac.mono ?_
          rintro e w5 ⟨rfl, rfl⟩
          clear hac
          go_wp2
          go_ret
          refine ⟨_, g, rfl, ?_⟩
          have h9 : Sep No w _ ([cellsAt bx (ndCells sk k ck sv nv cv sc j cc sz) 73] ++ [u64Row (.slice (some ⟨g, 0, none⟩) n6 n6) n6 (Nd.wC t x j), cellsAt wr.heap.size #[.slice (some ⟨g, 0, none⟩) n6 n6] 48]) := Sep.pushCells HR.out #[.slice (some ⟨g, 0, none⟩) n6 n6] 48
          have h10 := Sep.right h9
          rw [show Nd.ws t x = Nd.wC t x j by unfold Nd.ws; rw [HD.out.2.2.2.1]]
          exact h10
end Go.Proofs.YtfmcddomciicdaaDoor
