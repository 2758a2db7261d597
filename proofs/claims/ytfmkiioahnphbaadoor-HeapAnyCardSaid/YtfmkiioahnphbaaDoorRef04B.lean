/- The reference of layer 4 (loftref04): Granted, free, Lowest, walked. Conditions: the pages in memory are as said. -/
import Derived.Test.YtfmkiioahnphbaaDoorRef04A
import Derived.Deep.MidRow
import Derived.Deep.QuietTactic
import Derived.BigQuiet
set_option linter.unusedVariables false
set_option linter.unusedSimpArgs false
set_option maxRecDepth 100000
namespace Go.Proofs.YtfmkiioahnphbaaDoor
open Go Go.RowKit

abbrev pgRow (v : Value) (L : List RPg) : Res := rowAt 101 36 v L.length (p4row L)
/-- A page's cells in memory. -/
structure PgAt (w : World) (g i : Nat) (P : RPg) : Prop where
  c0 : w.cell? ⟨g, i * 36, none⟩ = some (.int .i64 P.n)
  c1 : w.cell? ⟨g, i * 36 + 1, none⟩ = some (.int .i64 P.many)
  c2 : w.cell? ⟨g, i * 36 + 2, none⟩ = some (.int .i64 P.cls)
  c3 : w.cell? ⟨g, i * 36 + 3, none⟩ = some (.int .i64 P.wds)
  c4 : w.cell? ⟨g, i * 36 + 4, none⟩ = some (.bool P.lg)
  cb : ∀ j, j < 31 → w.cell? ⟨g, i * 36 + 5 + j, none⟩ = some (.bool (P.bits.testBit j))
  all : w.rangeAt g (i * 36) P.cells

variable {F0 : Nat → Prop} {w0 w : World} {Ps : List Res}
theorem p4at (h : Sep F0 w0 w Ps) (r : Nat) {sa : Option Addr} {cap : Nat} {L : List RPg} (hr : Ps[r]? = some (pgRow (.slice sa L.length cap) L)) {i : Nat} {P : RPg} (hi : L[i]? = some P) :
    ∃ g, sa = some ⟨g, 0, none⟩ ∧ i < L.length ∧ g < w.heap.size ∧ PgAt w g i P ∧ ∀ o, w.frozen? ⟨g, o, none⟩ = false := by
  have hil := (List.getElem?_eq_some_iff.1 hi).1
  have hrow := h.row r hr
  obtain ⟨g, cap', hv⟩ := Joins.ownsRow_form hrow (by omega)
  simp only [Value.slice.injEq] at hv
  obtain ⟨rfl, _, rfl⟩ := hv
  have hc : ∀ j v, j < 36 → P.cells[j]? = some v → w.cell? ⟨g, i * 36 + j, none⟩ = some v := fun j v hj hv => by
    rw [hrow.cellAt _ (by omega), p4row_at hi hj, hv]
  refine ⟨g, rfl, hil, (hrow.lt g rfl).2, ⟨?_, hc 1 _ (by omega) rfl, hc 2 _ (by omega) rfl, hc 3 _ (by omega) rfl, hc 4 _ (by omega) rfl, fun j hj => ?_, fun j v hv => ?_⟩, fun o => hrow.frozenAt o⟩
  · have := hc 0 _ (by omega) rfl
    rwa [Nat.add_zero] at this
  · have := hc (5 + j) _ (by omega) (P.cells_bit hj)
    rwa [← Nat.add_assoc] at this
  · have hj := (List.getElem?_eq_some_iff.1 hv).1
    rw [P.cells_len] at hj
    exact hc j v hj hv
theorem PgAt.mod {w w' : World} {g i : Nat} {P : RPg} (h : PgAt w g i P) (hm : Mod No w w') : PgAt w' g i P :=
  ⟨hm.cell h.c0 (fun x => x), hm.cell h.c1 (fun x => x), hm.cell h.c2 (fun x => x), hm.cell h.c3 (fun x => x), hm.cell h.c4 (fun x => x), fun j hj => hm.cell (h.cb j hj) (fun x => x), fun j v hv => hm.cell (h.all j v hv) (fun x => x)⟩

/-- How many pages there are. -/
def gr : List RPg → Nat
  | [] => 0
  | P :: L => P.many + gr L
theorem gr_append (A B : List RPg) : gr (A ++ B) = gr A + gr B := by
  induction A with
  | nil => simp [gr]
  | cons P A ih => simp only [List.cons_append, gr, ih]; omega
theorem gr_take {L : List RPg} {j : Nat} {P : RPg} (h : L[j]? = some P) : gr (L.take (j + 1)) = gr (L.take j) + P.many := by
  rw [List.take_add_one, h, gr_append]
  simp [gr]
theorem gr_take_le (L : List RPg) (j : Nat) : gr (L.take j) ≤ gr L := by
  have := gr_append (L.take j) (L.drop j)
  rw [List.take_append_drop] at this
  omega

/-- What a call with a heap by value begins with. -/
theorem hv_box (h : Sep F0 w0 w Ps) (q : Int) (v : Value) : Sep F0 w0 (w.alloc (.cells #[.int .i64 q, v] 46)) Ps ∧ (w.alloc (.cells #[.int .i64 q, v] 46)).cell? ⟨w.heap.size, 0, none⟩ = some (.int .i64 q) ∧
    (w.alloc (.cells #[.int .i64 q, v] 46)).cell? ⟨w.heap.size, 1, none⟩ = some v ∧ Mod No w (w.alloc (.cells #[.int .i64 q, v] 46)) :=
  ⟨h.more ((Mod.refl No w).alloc _), cell_at (heap_alloc_new w (.cells #[.int .i64 q, v] 46)) 0, cell_at (heap_alloc_new w (.cells #[.int .i64 q, v] 46)) 1, (Mod.refl No w).alloc _⟩


theorem rgranted_call (h : Sep F0 w0 w Ps) (r : Nat) (q : Int) {v : Value} {L : List RPg} (hr : Ps[r]? = some (pgRow v L)) (hg : gr L ≤ 100000) (hl : L.length ≤ 100000) :
    Calls Tryd.prog 57 #[.agg #[.int .i64 q, v]] w fun e w' => e = .returned (.int .i64 (gr L : Nat)) ∧ Mod No w w' := by
  obtain ⟨sa, cap, rfl⟩ := h.form r hr
  have HR := Lib.hid hr
  have HG := Lib.hid hg
  obtain ⟨hB, b0, b1, hmB⟩ := hv_box h q (.slice sa L.length cap)
  obtain ⟨m, hmm⟩ : ∃ m, w.heap.size = m := ⟨_, rfl⟩
  obtain ⟨W, hW⟩ : ∃ W, w.alloc (.cells #[.int .i64 q, .slice sa L.length cap] 46) = W := ⟨_, rfl⟩
  rw [hmm] at b0 b1
  rw [hW] at hB b0 b1 hmB
  obtain ⟨n, hn⟩ : ∃ n, L.length = n := ⟨_, rfl⟩
  have HN := Lib.hid hn
  have HMB := Lib.hid hmB
  have HB := Lib.hid hB
  rw [hn] at b1 hW
  clear h hB hmB
  rw [hn] at hl ⊢
  clear hr hg
  obtain ⟨gl, hgl⟩ : ∃ gl, gr L = gl := ⟨_, rfl⟩
  have HGL := Lib.hid hgl
  rw [hgl]
  clear hgl hn
  go_enter Tryd.func57, Tryd.ntmps57
  go_wp2_with fail
  go_loop [3, 4] (fun nv iv => ∃ j : Nat, j ≤ n ∧ iv = .int .i64 j ∧ nv = .int .i64 (gr (L.take j) : Nat)) (fun _ iv => n + 1 - (RowKit.intOf iv).toNat)
  case atStart => exact ⟨0, Nat.zero_le _, rfl, rfl⟩
  case round =>
    obtain ⟨j, hj, rfl, rfl⟩ := hrel
    have hle := gr_take_le L j
    have hgb := HG.out
    by_cases hlt : j < n
    · obtain ⟨P, hP⟩ : ∃ P, L[j]? = some P := ⟨_, List.getElem?_eq_getElem (by rw [HN.out]; exact hlt)⟩
      obtain ⟨g, rfl, _, _, hA, _⟩ := p4at HB.out r HR.out hP
      have c1 := hA.c1
      have hs := gr_take hP
      have hle2 := gr_take_le L (j + 1)
      rw [hs] at hle2
      have HS := Lib.hid hs
      generalize gr (L.take j) = x at *
      clear hA hP hs hle
      go_wp2
      go_round
      case rel => exact ⟨j + 1, by omega, by go_num, by rw [HS.out]; go_num⟩
      case measure => (simp [RowKit.intOf]; try omega)
    · obtain rfl : j = n := by omega
      have e : gr (L.take j) = gl := by rw [List.take_of_length_le (by rw [HN.out]; exact Nat.le_refl _)]; exact HGL.out
      rw [e]
      clear hlt e hle hgb
      go_wp2
      go_ret
      exact ⟨rfl, HMB.out⟩

/-- Are so many pages from one on free, or the entry own's? -/
def FreeR (L : List RPg) (f m : Nat) (own : Int) : Prop := ∀ (i : Nat) P, L[i]? = some P → (i : Int) ≠ own → P.n + P.many ≤ f ∨ f + m ≤ P.n
/-- Pages that are not too many, nor too far. -/
structure Fit4 (L : List RPg) : Prop where
  len : L.length ≤ 100000
  pg : ∀ P ∈ L, P.n < 1048576 ∧ P.many ≤ 100


set_option maxHeartbeats 1000000 in
theorem rfree_call (h : Sep F0 w0 w Ps) (r : Nat) (q : Int) {v : Value} {L : List RPg} (hr : Ps[r]? = some (pgRow v L)) (hF : Fit4 L) (f k : Nat) (hf : f ≤ 10000000) (hk : k ≤ 1000) (own : Int) :
    Calls Tryd.prog 73 #[.agg #[.int .i64 q, v], .int .i64 (f : Nat), .int .i64 (k : Nat), .int .i64 own] w fun e w' => ∃ c : Bool, e = .returned (.bool c) ∧ (c = true ↔ FreeR L f k own) ∧ Mod No w w' := by
  obtain ⟨sa, cap, rfl⟩ := h.form r hr
  have HR := Lib.hid hr
  have HF := Lib.hid hF
  obtain ⟨hB, b0, b1, hmB⟩ := hv_box h q (.slice sa L.length cap)
  obtain ⟨m, hmm⟩ : ∃ m, w.heap.size = m := ⟨_, rfl⟩
  obtain ⟨W, hW⟩ : ∃ W, w.alloc (.cells #[.int .i64 q, .slice sa L.length cap] 46) = W := ⟨_, rfl⟩
  rw [hmm] at b0 b1
  rw [hW] at hB b0 b1 hmB
  obtain ⟨n, hn⟩ : ∃ n, L.length = n := ⟨_, rfl⟩
  have HN := Lib.hid hn
  have HMB := Lib.hid hmB
  have HB := Lib.hid hB
  rw [hn] at b1 hW
  clear h hB hmB
  have hl := hF.len
  rw [hn] at hl
  clear hr hF hn
  rw [HN.out]
  go_enter Tryd.func73, Tryd.ntmps73
  go_wp2_with fail
  go_loopw [9] (fun iv wr => ∃ j : Nat, j ≤ n ∧ iv = .int .i64 j ∧ Mod No W wr ∧ ∀ (i : Nat) P, i < j → L[i]? = some P → (i : Int) ≠ own → P.n + P.many ≤ f ∨ f + k ≤ P.n) (fun iv _ => n + 1 - (RowKit.intOf iv).toNat)
  case atStart => exact ⟨0, Nat.zero_le _, rfl, Mod.refl _ _, fun i P hi => absurd hi (by omega)⟩
  case round =>
    obtain ⟨j, hj, rfl, hMr, hbef⟩ := hrel
    have b1 := hMr.cell b1 (fun x => x)
    have HMr := Lib.hid hMr
    by_cases hlt : j < n
    · obtain ⟨P, hP⟩ : ∃ P, L[j]? = some P := ⟨_, List.getElem?_eq_getElem (by rw [HN.out]; exact hlt)⟩
      obtain ⟨g, rfl, _, _, hA, _⟩ := p4at (HB.out.more hMr) r HR.out hP
      have c0 := hA.c0
      have c1 := hA.c1
      obtain ⟨p1, p2⟩ := HF.out.pg P (List.mem_of_getElem? hP)
      have HB2 : Hid (((j : Int) = own ∨ P.n + P.many ≤ f ∨ f + k ≤ P.n) → ∀ (i : Nat) P, i < j + 1 → L[i]? = some P → (i : Int) ≠ own → P.n + P.many ≤ f ∨ f + k ≤ P.n) := fun hc i P' hi hP' hne => by
        by_cases e : i = j
        · subst e
          rw [hP] at hP'
          cases hP'
          exact hc.resolve_left hne
        · exact hbef i P' (by omega) hP' hne
      have HP := Lib.hid hP
      clear hA hP hbef hMr
      have e1 : IntKind.i64.wrap ((f : Int) + (k : Int)) = (f : Int) + (k : Int) := by rw [IntKind.wrap_i64]; omega
      have e2 : IntKind.i64.wrap ((P.n : Int) + (P.many : Int)) = (P.n : Int) + (P.many : Int) := by rw [IntKind.wrap_i64]; omega
      by_cases h1 : (j : Int) = own
      · have d1 : ((j : Int) != own) = false := bneF h1
        have H1 := Lib.hid h1
        clear h1
        go_wp2_with fail
        refine wp_region_quiet_lit (by kernel_rfl) (by kernel_rfl) ?_
        repeat (go_big_quiet_step (fail))
        refine wpQuiet_nil ?_
        intro wq hwq
        obtain ⟨nq, hwq⟩ := hwq
        have hq := Mod.of_drewN hwq
        clear hwq nq
        have HW := Lib.hid (HMr.out.trans' hq)
        clear hq
        go_wp2
        go_roundw
        case rel => exact ⟨j + 1, by omega, by go_num, HW.out, HB2.out (.inl H1.out)⟩
        case measure => (simp [RowKit.intOf]; try omega)
      · have d1 : ((j : Int) != own) = true := bneT h1
        by_cases h2 : P.n < f + k
        · have d2 : decide ((P.n : Int) < (f : Int) + (k : Int)) = true := ltT (by omega)
          by_cases h3 : f < P.n + P.many
          · have d3 : decide ((f : Int) < (P.n : Int) + (P.many : Int)) = true := ltT (by omega)
            have HN2 : Hid (¬ FreeR L f k own) := fun hc => by have := hc j P HP.out h1; omega
            clear h1 h2 h3 HB2 HP
            go_wp2_with fail
            refine wp_region_quiet_lit (by kernel_rfl) (by kernel_rfl) ?_
            repeat (go_big_quiet_step (fail))
            refine wpQuiet_nil ?_
            intro wq hwq
            obtain ⟨nq, hwq⟩ := hwq
            have hq := Mod.of_drewN hwq
            clear hwq nq
            have HW := Lib.hid (HMr.out.trans' hq)
            clear hq
            go_wp2
            go_ret
            exact ⟨false, rfl, ⟨fun hc => Bool.noConfusion hc, fun hc => absurd hc HN2.out⟩, HMB.out.trans' HW.out⟩
          · have d3 : decide ((f : Int) < (P.n : Int) + (P.many : Int)) = false := ltF (by omega)
            go_wp2_with fail
            refine wp_region_quiet_lit (by kernel_rfl) (by kernel_rfl) ?_
            repeat (go_big_quiet_step (fail))
            refine wpQuiet_nil ?_
            intro wq hwq
            obtain ⟨nq, hwq⟩ := hwq
            have hq := Mod.of_drewN hwq
            clear hwq nq
            have HW := Lib.hid (HMr.out.trans' hq)
            clear hq
            go_wp2
            go_roundw
            case rel => exact ⟨j + 1, by omega, by go_num, HW.out, HB2.out (.inr (.inl (by omega)))⟩
            case measure => (simp [RowKit.intOf]; try omega)
        · have d2 : decide ((P.n : Int) < (f : Int) + (k : Int)) = false := ltF (by omega)
          go_wp2_with fail
          refine wp_region_quiet_lit (by kernel_rfl) (by kernel_rfl) ?_
          repeat (go_big_quiet_step (fail))
          refine wpQuiet_nil ?_
          intro wq hwq
          obtain ⟨nq, hwq⟩ := hwq
          have hq := Mod.of_drewN hwq
          clear hwq nq
          have HW := Lib.hid (HMr.out.trans' hq)
          clear hq
          go_wp2
          go_roundw
          case rel => exact ⟨j + 1, by omega, by go_num, HW.out, HB2.out (.inr (.inr (by omega)))⟩
          case measure => (simp [RowKit.intOf]; try omega)
    · obtain rfl : j = n := by omega
      have HY : Hid (FreeR L f k own) := fun i P hP hne => hbef i P (by have := (List.getElem?_eq_some_iff.1 hP).1; rw [HN.out] at this; exact this) hP hne
      clear hlt hbef hMr
      go_wp2
      go_ret
      exact ⟨true, rfl, ⟨fun _ => HY.out, fun _ => rfl⟩, HMB.out.trans' HMr.out⟩
end Go.Proofs.YtfmkiioahnphbaaDoor
