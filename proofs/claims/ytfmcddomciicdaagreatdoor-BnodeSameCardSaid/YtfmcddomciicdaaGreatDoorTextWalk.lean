/- Package text, walked: Many, Words. Conditions: as each says. -/
import Derived.Test.YtfmcddomciicdaaGreatDoorTextSpec
import Derived.Test.YtfmcddomciicdaaGreatDoorMakeSep
import Derived.Laws.IdiomStrings
import Derived.Laws.BytesArg
import Derived.StillTailTactics
set_option linter.unusedVariables false
set_option linter.unusedSimpArgs false
set_option maxRecDepth 100000
namespace Go.Proofs.YtfmcddomciicdaaGreatDoor
open Go Go.RowKit

variable {F0 : Nat → Prop} {w0 w : World} {Ps : List Res}

def many (n : Int) : Int := if n < 0 ∨ 1000 < n then 0 else 1 + (n + 8 - 1) / 8
theorem many_call (n : Int) (w : World) : Calls Tryz.prog 108 #[.int .i64 n] w fun e w' => e = .returned (.int .i64 (many n)) ∧ w = w' := by
  by_cases h : n < 0 ∨ 1000 < n
  · have e : many n = 0 := if_pos h
    rw [e]
    rcases h with h | h
    · have d : decide (n < 0) = true := ltT h
      clear h e
      go_enter Tryz.func108, Tryz.ntmps108
      go_wp2
      go_ret
      exact ⟨rfl, rfl⟩
    · have d : decide (n < 0) = false := ltF (by omega)
      have d2 : decide (1000 < n) = true := ltT h
      clear h e
      go_enter Tryz.func108, Tryz.ntmps108
      go_wp2
      go_ret
      exact ⟨rfl, rfl⟩
  · have e : many n = 1 + (n + 8 - 1) / 8 := if_neg h
    rw [e]
    have d : decide (n < 0) = false := ltF (by omega)
    have d2 : decide (1000 < n) = false := ltF (by omega)
    have h0 : 0 ≤ n := by omega
    have h1 : n ≤ 1000 := by omega
    clear h e
    go_enter Tryz.func108, Tryz.ntmps108
    go_wp2
    go_ret
    exact ⟨rfl, rfl⟩

abbrev u64Row (v : Value) (n : Nat) (xs : List Int) : Res := rowAt 30 1 v n (xs.map (Value.int .u64))
theorem lay_call (h : Sep F0 w0 w Ps) (p q : Nat) (hpq : p ≠ q) {bo g : Nat} {s : ByteArray} {i L : Nat} (hL : L = 1 + (s.size + 7) / 8) (hi : i < s.size) (hs : s.size ≤ 1000)
    (hp : Ps[p]? = some (cellsAt bo #[.slice (some ⟨g, 0, none⟩) L L] 100)) (hq : Ps[q]? = some (u64Row (.slice (some ⟨g, 0, none⟩) L L) L (Txt.twTo s i))) :
    Calls Tryz.prog 142 #[.int .i64 (i : Nat), .int .u8 (Txt.byteAt s i : Nat), .pointer (some ⟨bo, 0, none⟩)] w fun e w' => e = .returned (.tuple #[]) ∧ Sep F0 w0 w' (Ps.set q (u64Row (.slice (some ⟨g, 0, none⟩) L L) L (Txt.twTo s (i + 1)))) := by
  have c0 := (h.cell p hp 0 (v := .slice (some ⟨g, 0, none⟩) L L) rfl).1
  have hj : i / 8 < (s.size + 7) / 8 := by omega
  obtain ⟨g', eg, cx, fz⟩ := h.item q hq (o := 1 + i / 8) (x := .int .u64 (Txt.wordTo s i (i / 8) : Nat)) (by rw [List.getElem?_map, Txt.twTo_get hj]; rfl)
  cases eg
  have hb := Txt.byteAt_lt s i
  have hwl := Txt.wordTo_lt s i (i / 8)
  have fz := fz (1 + i / 8)
  have H := Lib.hid (And.intro h (And.intro hq (And.intro hp hi)))
  obtain ⟨jn, hjn⟩ : ∃ x, i / 8 = x := ⟨_, rfl⟩
  obtain ⟨t, ht⟩ : ∃ x, i % 8 = x := ⟨_, rfl⟩
  obtain ⟨u, hu⟩ : ∃ x, 7 - t = x := ⟨_, rfl⟩
  obtain ⟨j1, hj1⟩ : ∃ x, 1 + jn = x := ⟨_, rfl⟩
  obtain ⟨k8, hk8⟩ : ∃ x, 8 * u = x := ⟨_, rfl⟩
  have e1 : (i : Int) / 8 = (jn : Int) := by omega
  have e2 : IntKind.i64.wrap (jn : Int) = (jn : Int) := by rw [IntKind.wrap_i64]; omega
  have e3 : IntKind.i64.wrap (1 + (jn : Int)) = (j1 : Int) := by rw [IntKind.wrap_i64]; omega
  have e4 : (i : Int).tmod 8 = (t : Int) := by rw [Int.tmod_eq_emod_of_nonneg (by omega)]; omega
  have e4w : IntKind.i64.wrap (t : Int) = (t : Int) := by rw [IntKind.wrap_i64]; omega
  have e5 : IntKind.i64.wrap (7 - (t : Int)) = (u : Int) := by rw [IntKind.wrap_i64]; omega
  have e6 : IntKind.i64.wrap (8 * (u : Int)) = (k8 : Int) := by rw [IntKind.wrap_i64]; omega
  have hjL : j1 < L := by omega
  have hjL' : (j1 : Int) < (L : Int) := by omega
  have hk64 : k8 ≤ 56 := by omega
  have hi1 : i ≤ 1000 := by omega
  have HL := Lib.hid (And.intro hL (And.intro hjn (And.intro ht (And.intro hu (And.intro hj1 hk8)))))
  rw [hjn] at cx fz hj hwl
  rw [hj1] at cx fz
  obtain ⟨wt, hwt⟩ : ∃ x, Txt.wordTo s i jn = x := ⟨_, rfl⟩
  obtain ⟨c, hc⟩ : ∃ x, Txt.byteAt s i = x := ⟨_, rfl⟩
  rw [hwt] at cx hwl
  rw [hc] at hb ⊢
  have ec : IntKind.u64.wrap (c : Int) = (c : Int) := by rw [IntKind.wrap_u64]; omega
  have hpw : (256 : Nat) ^ (7 - i % 8) = 2 ^ k8 := by
    rw [ht, hu, ← hk8, show (256 : Nat) = 2 ^ 8 from rfl, ← Nat.pow_mul]
  have hor := Txt.wordTo_succ s i
  rw [hjn, hwt, hc, hpw] at hor
  have hr := Txt.wordTo_lt s (i + 1) jn
  obtain ⟨r, hre⟩ : ∃ x, Txt.wordTo s (i + 1) jn = x := ⟨_, rfl⟩
  rw [hre] at hor hr
  obtain ⟨v, hv⟩ : ∃ x, c * 2 ^ k8 = x := ⟨_, rfl⟩
  have hvl : v < 18446744073709551616 := by
    rw [← hv]
    have : 2 ^ k8 ≤ 2 ^ 56 := Nat.pow_le_pow_right (by omega) hk64
    calc c * 2 ^ k8 ≤ 255 * 2 ^ 56 := Nat.mul_le_mul (by omega) this
      _ < 18446744073709551616 := by decide
  rw [hv] at hor
  have es : IntKind.u64.wrap ((c : Int) * 2 ^ k8) = (v : Int) := by
    rw [show (c : Int) * 2 ^ k8 = ((c * 2 ^ k8 : Nat) : Int) by push_cast; rfl, hv, IntKind.wrap_u64]
    omega
  have eo : bits .or .u64 (wt : Int) (v : Int) = (r : Int) := by
    rw [u64_or _ _ (by omega) (by omega) (by omega) (by omega), Int.toNat_natCast, Int.toNat_natCast, hor]
  have hkn : ¬ (k8 : Int) < 0 := by omega
  have hmin : min k8 64 = k8 := by omega
  have HR := Lib.hid (And.intro hre hv)
  clear h hp hq hL hi hs hj hjn ht hu hj1 hk8
  go_enter Tryz.func142, Tryz.ntmps142
  go_wp2_with fail
  have cxd : w.drew.cell? ⟨g, j1, none⟩ = some (.int .u64 (wt : Nat)) := cx
  refine wp_region_held_drew (S := fun w' => w'.cell? ⟨bo, 0, none⟩ = some (.slice (some ⟨g, 0, none⟩) L L)) (by kernel_rfl) c0 (fun hHeld => ?_)
  refine wpAnyH_takeD (i := 0) (v := ?_) (some 5) rfl (by rfl) (by kernel_rfl) (by kernel_rfl) (by kernel_rfl) (fun _ _ _ h => h) (Or.inl ⟨by rfl, ?_⟩) (by assumption) ?_
  rotate_left
  · intro w hSw
    try dsimp only at hSw
    go_simp
    try with_reducible rfl
  simp only [Act.put, List.setIfInBounds_toArray, List.set_cons_zero, List.set_cons_succ]
  refine wpAnyH_takeD (i := 1) (v := ?_) (some 6) rfl (by rfl) (by kernel_rfl) (by kernel_rfl) (by kernel_rfl) (fun _ _ _ h => h) (Or.inl ⟨by rfl, ?_⟩) (by assumption) ?_
  rotate_left
  · intro w hSw
    try dsimp only at hSw
    go_simp
    try with_reducible rfl
  simp only [Act.put, List.setIfInBounds_toArray, List.set_cons_zero, List.set_cons_succ]
  refine wpAnyH_takeD (i := 2) (v := ?_) (some 7) rfl (by rfl) (by kernel_rfl) (by kernel_rfl) (by kernel_rfl) (fun _ _ _ h => h) (Or.inl ⟨by rfl, ?_⟩) (by assumption) ?_
  rotate_left
  · intro w hSw
    try dsimp only at hSw
    go_simp
    try with_reducible rfl
  simp only [Act.put, List.setIfInBounds_toArray, List.set_cons_zero, List.set_cons_succ]
  refine wpAnyH_takeD (i := 3) (v := ?_) (some 8) rfl (by rfl) (by kernel_rfl) (by kernel_rfl) (by kernel_rfl) (fun _ _ _ h => h) (Or.inl ⟨by rfl, ?_⟩) (by assumption) ?_
  rotate_left
  · intro w hSw
    try dsimp only at hSw
    go_simp
    try with_reducible rfl
  simp only [Act.put, List.setIfInBounds_toArray, List.set_cons_zero, List.set_cons_succ]
  refine wpAnyH_takeD (i := 4) (v := ?_) (some 9) rfl (by rfl) (by kernel_rfl) (by kernel_rfl) (by kernel_rfl) (fun _ _ _ h => h) (Or.inl ⟨by rfl, ?_⟩) (by assumption) ?_
  rotate_left
  · intro w hSw
    try dsimp only at hSw
    go_simp
    try with_reducible rfl
  simp only [Act.put, List.setIfInBounds_toArray, List.set_cons_zero, List.set_cons_succ]
  refine wpAnyH_takeD (i := 6) (v := ?_) (some 11) rfl (by rfl) (by kernel_rfl) (by kernel_rfl) (by kernel_rfl) (fun _ _ _ h => h) (Or.inl ⟨by rfl, ?_⟩) (by assumption) ?_
  rotate_left
  · intro w hSw
    try dsimp only at hSw
    go_simp
    try with_reducible rfl
  simp only [Act.put, List.setIfInBounds_toArray, List.set_cons_zero, List.set_cons_succ]
  refine wpAnyH_takeD (i := 7) (v := ?_) (some 12) rfl (by rfl) (by kernel_rfl) (by kernel_rfl) (by kernel_rfl) (fun _ _ _ h => h) (Or.inl ⟨by rfl, ?_⟩) (by assumption) ?_
  rotate_left
  · intro w hSw
    try dsimp only at hSw
    go_simp
    try with_reducible rfl
  simp only [Act.put, List.setIfInBounds_toArray, List.set_cons_zero, List.set_cons_succ]
  refine wpAnyH_takeD (i := 8) (v := ?_) (some 13) rfl (by rfl) (by kernel_rfl) (by kernel_rfl) (by kernel_rfl) (fun _ _ _ h => h) (Or.inl ⟨by rfl, ?_⟩) (by assumption) ?_
  rotate_left
  · intro w hSw
    try dsimp only at hSw
    go_simp
    try with_reducible rfl
  simp only [Act.put, List.setIfInBounds_toArray, List.set_cons_zero, List.set_cons_succ]
  refine wpAnyH_takeD (i := 9) (v := ?_) (some 14) rfl (by rfl) (by kernel_rfl) (by kernel_rfl) (by kernel_rfl) (fun _ _ _ h => h) (Or.inl ⟨by rfl, ?_⟩) (by assumption) ?_
  rotate_left
  · intro w hSw
    try dsimp only at hSw
    go_simp
    try with_reducible rfl
  simp only [Act.put, List.setIfInBounds_toArray, List.set_cons_zero, List.set_cons_succ]
  refine wpAnyH_takeD (i := 10) (v := ?_) (some 15) rfl (by rfl) (by kernel_rfl) (by kernel_rfl) (by kernel_rfl) (fun _ _ _ h => h) (Or.inl ⟨by rfl, ?_⟩) (by assumption) ?_
  rotate_left
  · intro w hSw
    try dsimp only at hSw
    go_simp
    try with_reducible rfl
  simp only [Act.put, List.setIfInBounds_toArray, List.set_cons_zero, List.set_cons_succ]
  refine wpAnyH_takeD (i := 11) (v := ?_) (some 16) rfl (by rfl) (by kernel_rfl) (by kernel_rfl) (by kernel_rfl) (fun _ _ _ h => h) (Or.inl ⟨by rfl, ?_⟩) (by assumption) ?_
  rotate_left
  · intro w hSw
    try dsimp only at hSw
    go_simp
    try with_reducible rfl
  simp only [Act.put, List.setIfInBounds_toArray, List.set_cons_zero, List.set_cons_succ]
  refine wpAnyH_takeD (i := 12) (v := ?_) (some 17) rfl (by rfl) (by kernel_rfl) (by kernel_rfl) (by kernel_rfl) (fun _ _ _ h => h) (Or.inl ⟨by rfl, ?_⟩) (by assumption) ?_
  rotate_left
  · intro w hSw
    try dsimp only at hSw
    go_simp
    try with_reducible rfl
  simp only [Act.put, List.setIfInBounds_toArray, List.set_cons_zero, List.set_cons_succ]
  refine wpAnyH_ready (rs := [5]) (by kernel_rfl) (by simp) ?_
  refine AllReadyH.cons rfl (fun K hK => ?_) AllReadyH.nil
  go_simp
  refine hK.out _ _ hHeld (fun _ => ?_)
  clear hK K
  try simp only [Act.put, List.setIfInBounds_toArray, List.set_cons_zero, List.set_cons_succ]
  refine wpAnyH_takeD (i := 13) (v := ?_) (some 18) rfl (by rfl) (by kernel_rfl) (by kernel_rfl) (by kernel_rfl) (fun _ _ _ h => h) (Or.inl ⟨by rfl, ?_⟩) (by assumption) ?_
  rotate_left
  · intro w hSw
    try dsimp only at hSw
    go_simp
    try with_reducible rfl
  simp only [Act.put, List.setIfInBounds_toArray, List.set_cons_zero, List.set_cons_succ]
  refine wpAnyH_takeD (i := 14) (v := ?_) (some 19) rfl (by rfl) (by kernel_rfl) (by kernel_rfl) (by kernel_rfl) (fun _ _ _ h => h) (Or.inl ⟨by rfl, ?_⟩) (by assumption) ?_
  rotate_left
  · intro w hSw
    try dsimp only at hSw
    go_simp
    try with_reducible rfl
  simp only [Act.put, List.setIfInBounds_toArray, List.set_cons_zero, List.set_cons_succ]
  have h2 := (H.out.1.setItem q H.out.2.1 j1 (.int .u64 (r : Nat))).drew
  have HX := (h2.cell p (by rw [List.getElem?_set_ne (Ne.symm hpq)]; exact H.out.2.2.1) 0 (v := .slice (some ⟨g, 0, none⟩) L L) rfl).1
  have H2 : Hid (Sep F0 w0 (w.setCell ⟨g, j1, none⟩ (.int .u64 (r : Nat))).drew (Ps.set q (u64Row (.slice (some ⟨g, 0, none⟩) L L) L (Txt.twTo s (i + 1))))) := by
    have e : (Txt.twTo s (i + 1)).map (Value.int .u64) = ((Txt.twTo s i).map (Value.int .u64)).set j1 (.int .u64 (r : Nat)) := by
      rw [Txt.twTo_succ H.out.2.2.2, List.map_set, HL.out.2.1, HL.out.2.2.2.2.1, HR.out.1]
    show Sep F0 w0 _ (Ps.set q (rowAt _ 1 _ L _))
    rw [e]
    exact h2
  clear h2
  refine wpAnyH_ready (rs := [15]) (by kernel_rfl) (by simp) ?_
  refine AllReadyH.cons rfl (fun K hK => ?_) AllReadyH.nil
  go_simp
  have hHeld := HX
  refine hK.out _ _ hHeld (fun _ => ?_)
  clear hK K
  refine wpAnyH_done (by kernel_rfl) ?_ _
  clear hHeld HX cxd
  go_wp2
  go_end0
  exact ⟨rfl, H2.out⟩

abbrev bytesObj (s : ByteArray) (cap : Nat) : Obj := .cells (bytesRow s cap) 5 ((bytesRow s cap).size, (bytesRow s cap).size + 1)
theorem bytes_cell {w : World} {b : Nat} {s : ByteArray} {cap i : Nat} (h : w.heap[b]? = some (bytesObj s cap)) (hi : i < s.size) : w.cell? ⟨b, i, none⟩ = some (.int .u8 (Txt.byteAt s i : Nat)) := by
  rw [cell_at h, bytesRow_at s cap i hi]
  unfold Txt.byteAt
  rw [Array.getElem?_eq_getElem hi]
  rfl

theorem words_long (s : ByteArray) (h : 1000 < s.size) (w : World) : Calls Tryz.prog 104 #[.string s] w fun e w' => e = .returned (.tuple #[.slice none 0 0, .int .i64 4]) ∧ w = w' := by
  have d : decide ((1000 : Int) < (s.size : Int)) = true := ltT (by omega)
  clear h
  go_enter Tryz.func104, Tryz.ntmps104
  go_wp2
  go_ret2
  exact ⟨rfl, rfl⟩

def WordsRel (w : World) (s : ByteArray) (g bo gb cap L i : Nat) (wr : World) : Prop :=
  Sep No w wr [u64Row (.slice (some ⟨g, 0, none⟩) L L) L (Txt.twTo s i), cellsAt bo #[.slice (some ⟨g, 0, none⟩) L L] 100, blockAt gb (bytesObj s cap)]

set_option maxHeartbeats 1000000 in
theorem words_call (s : ByteArray) (hs : s.size ≤ 1000) {L : Nat} (hL : L = 1 + (s.size + 7) / 8) (w : World) :
    Calls Tryz.prog 104 #[.string s] w fun e w' => ∃ g : Nat, e = .returned (.tuple #[.slice (some ⟨g, 0, none⟩) L L, .int .i64 0]) ∧ Sep No w w' [u64Row (.slice (some ⟨g, 0, none⟩) L L) L (Txt.tw s)] := by
  have d : decide ((1000 : Int) < (s.size : Int)) = false := ltF (by omega)
  have hmc := many_call (s.size : Int) w
  have hme : many (s.size : Int) = (L : Int) := by unfold many; rw [if_neg (by omega)]; omega
  rw [hme] at hmc
  obtain ⟨i0, hi0, hz0, hz1, hz2⟩ := info_parts infoU64
  have HL := Lib.hid hL
  have hL1 : 1 ≤ L := by omega
  have hL2 : L ≤ 126 := by omega
  have hs0 := Sep.nil w
  clear hL hme
  go_enter Tryz.func104, Tryz.ntmps104
  go_wp2_with fail
  refine hmc.mono ?_
  rintro e w' ⟨rfl, rfl⟩
  clear hmc
  go_wp2_with (at_make; refine wpList_make_sep hs0 (by rfl) _ _ 100 rfl 30 Tryz.underlying100 hi0 hz0 hz1 rfl _ _ L (by rfl) (by rfl) rfl rfl (by rw [hz2]; omega) (by unfold maxLen; omega) ?_)
  intro w1 h1
  obtain ⟨g, hg⟩ : ∃ x, w.heap.size = x := ⟨_, rfl⟩
  have h2 : Sep No w (w1.alloc (.cells #[.slice (some ⟨g, 0, none⟩) L L] 100)) [rowAt 30 1 (.slice (some ⟨g, 0, none⟩) L L) L (List.replicate L (.int .u64 0)), cellsAt w1.heap.size #[.slice (some ⟨g, 0, none⟩) L L] 100] := by rw [← hg]; exact h1.pushCells _ _
  rw [hg]
  obtain ⟨gx, eg, c0, f0⟩ := h2.item 0 rfl (o := 0) (x := .int .u64 0) (by rw [List.getElem?_replicate, if_pos (by omega)])
  cases eg
  have f0 := f0 0
  have h3 := h2.setItem 0 rfl 0 (.int .u64 (s.size : Int))
  have e0 : (List.replicate L (Value.int .u64 0)).set 0 (.int .u64 (s.size : Int)) = (Txt.twTo s 0).map (Value.int .u64) := by
    rw [Txt.twTo_zero, HL.out, Nat.add_comm, List.replicate_succ, List.set_cons_zero, List.map_cons, List.map_replicate]
  rw [e0] at h3
  have H3 := Lib.hid h3
  have ew : IntKind.u64.wrap (s.size : Int) = (s.size : Int) := by rw [IntKind.wrap_u64]; omega
  have hmf : ∀ (fn : Fn) (first cap : Array Value) (w : World), (Instr.makeFunc fn first cap).run Tryz.prog w = .ok (.func fn first cap) w := fun _ _ _ _ => rfl
  clear h1 h2 h3 hs0 hi0 hz0 hz1 hz2 e0 hg
  go_wp2_with fail
  obtain ⟨bo, hbo⟩ : ∃ x, w1.heap.size = x := ⟨_, rfl⟩
  rw [hbo] at H3 ⊢
  obtain ⟨W3, hW3⟩ : ∃ x, (w1.alloc (.cells #[.slice (some ⟨g, 0, none⟩) L L] 100)).setCell ⟨g, 0, none⟩ (.int .u64 (s.size : Int)) = x := ⟨_, rfl⟩
  rw [hW3] at H3 ⊢
  clear hbo hW3 c0 f0
  have hcv := run_bytes_of_string (P := Tryz.prog) W3 9 229 5 s Tryz.underlying9 Tryz.underlying229 Tryz.underlying5
  obtain ⟨cap, hcap⟩ : ∃ x, grownCap W3 s.size 0 5 = x := ⟨_, rfl⟩
  rw [hcap] at hcv
  rw [hcv]
  have hsz : W3.drew.heap.size = W3.heap.size := rfl
  have h4 : Sep No w (W3.drew.alloc (bytesObj s cap)) [u64Row (.slice (some ⟨g, 0, none⟩) L L) L (Txt.twTo s 0), cellsAt bo #[.slice (some ⟨g, 0, none⟩) L L] 100, blockAt W3.heap.size (bytesObj s cap)] := H3.out.drew.pushBlock _
  have H4 : Hid (WordsRel w s g bo W3.heap.size cap L 0 (W3.drew.alloc (bytesObj s cap))) := h4
  obtain ⟨gb, hgb⟩ : ∃ x, W3.heap.size = x := ⟨_, rfl⟩
  obtain ⟨W4, hW4⟩ : ∃ x, W3.drew.alloc (bytesObj s cap) = x := ⟨_, rfl⟩
  have hW4' : W3.drew.alloc (.cells (bytesRow s cap) 5 ((bytesRow s cap).size, (bytesRow s cap).size + 1)) = W4 := hW4
  rw [hgb, hW4] at H4
  rw [hgb, hW4']
  clear h4 hcv hcap hW4 hW4' hgb hsz H3 ew hmf
  go_wp2_with fail
  go_loopw [24] (fun iv wr => ∃ i : Nat, iv = .int .i64 i ∧ i ≤ s.size ∧ WordsRel w s g bo gb cap L i wr) (fun iv _ => s.size - (RowKit.intOf iv).toNat)
  case atStart => exact ⟨0, rfl, Nat.zero_le _, H4.out⟩
  case round =>
    obtain ⟨i, rfl, hi, h⟩ := hrel
    clear H4
    by_cases hlt : i < s.size
    · have hc := lay_call h 1 0 (by omega) HL.out hlt hs rfl rfl
      have cb := bytes_cell (Sep.blockIs h 2 rfl) hlt
      obtain ⟨c, hce⟩ : ∃ c, Txt.byteAt s i = c := ⟨_, rfl⟩
      rw [hce] at hc cb
      have hlt' : (i : Int) < (s.size : Int) := by omega
      clear h hce
      go_wp2_with fail
      refine hc.mono ?_
      rintro e w2 ⟨rfl, h2⟩
      have H2 : Hid (WordsRel w s g bo gb cap L (i + 1) w2) := h2
      clear hc h2 cb
      go_wp2
      go_roundw
      case rel => exact ⟨i + 1, by go_num, by omega, H2.out⟩
      case measure => simp [RowKit.intOf]; omega
    · obtain rfl : i = s.size := by omega
      have c0 := (Sep.cell h 1 rfl 0 (v := .slice (some ⟨g, 0, none⟩) L L) rfl).1
      have H2 : Hid (Sep No w wr [u64Row (.slice (some ⟨g, 0, none⟩) L L) L (Txt.tw s)]) := by
        unfold WordsRel at h
        rw [Txt.twTo_all] at h
        exact Sep.left (Ps := [_]) h
      clear h hlt
      go_wp2
      go_ret2
      exact ⟨g, rfl, H2.out⟩
end Go.Proofs.YtfmcddomciicdaaGreatDoor
