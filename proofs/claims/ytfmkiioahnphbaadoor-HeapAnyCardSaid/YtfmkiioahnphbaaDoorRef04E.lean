/- The reference of layer 4 (loftref04): Live, Spare, Numbers, walked. Conditions: the pages in memory are as said. -/
import Derived.Test.YtfmkiioahnphbaaDoorRef04D
set_option linter.unusedVariables false
set_option linter.unusedSimpArgs false
set_option maxRecDepth 100000
namespace Go.Proofs.YtfmkiioahnphbaaDoor
open Go Go.RowKit

variable {F0 : Nat → Prop} {w0 w : World} {Ps : List Res}

theorem infoIntR : (Tryd.prog.info? 3).map (fun i => (i.zero, i.size, i.bytes)) = some (some (.int .i64 0), 1, 8) := by kernel_rfl
theorem tl0 {α : Type} {A B : List α} {i : Nat} : (A ++ B)[A.length + i]? = B[i]? := by rw [List.getElem?_append_right (by omega), Nat.add_sub_cancel_left]
theorem tlset {α : Type} {A : List α} {x y z : α} : (A ++ [x, y]).set (A.length + 1) z = A ++ [x, z] := by
  rw [List.set_append_right _ _ (by omega), Nat.add_sub_cancel_left]; rfl
abbrev intR (v : Value) (l : List Int) : Res := rowAt 3 1 v l.length (l.map (Value.int .i64))
abbrev hbR (m : Nat) (q : Int) (v : Value) : Res := cellsAt m #[.int .i64 q, v] 46

namespace RPg
def liveP (P : RPg) (k : Nat) : List Int := ((List.range k).filter fun j => P.bits.testBit j).map fun j => ((P.place j : Nat) : Int)
def numP (P : RPg) (k : Nat) : List Int := (List.range k).map fun j => ((P.n + j : Nat) : Int)
theorem liveP_succ (P : RPg) (k : Nat) : P.liveP (k + 1) = P.liveP k ++ (if P.bits.testBit k = true then [((P.place k : Nat) : Int)] else []) := by
  unfold liveP
  rw [List.range_succ, List.filter_append, List.map_append]
  by_cases h : P.bits.testBit k = true
  · rw [if_pos h, List.filter_cons_of_pos h]; rfl
  · rw [if_neg h, List.filter_cons_of_neg h]; rfl
theorem liveP_len (P : RPg) (k : Nat) : (P.liveP k).length ≤ k := by
  unfold liveP
  rw [List.length_map]
  have := List.length_filter_le (fun j => P.bits.testBit j) (List.range k)
  rw [List.length_range] at this
  exact this
theorem numP_succ (P : RPg) (k : Nat) : P.numP (k + 1) = P.numP k ++ [((P.n + k : Nat) : Int)] := by unfold numP; rw [List.range_succ, List.map_append]; rfl
theorem numP_len (P : RPg) (k : Nat) : (P.numP k).length = k := by simp [numP]
end RPg
def liveR (L : List RPg) : List Int := L.flatMap fun P => P.liveP P.slots
def numR (L : List RPg) : List Int := L.flatMap fun P => P.numP P.many
theorem liveR_take {L : List RPg} {i : Nat} {P : RPg} (h : L[i]? = some P) : liveR (L.take (i + 1)) = liveR (L.take i) ++ P.liveP P.slots := by
  unfold liveR
  rw [List.take_add_one, h, List.flatMap_append]
  simp
theorem numR_take {L : List RPg} {i : Nat} {P : RPg} (h : L[i]? = some P) : numR (L.take (i + 1)) = numR (L.take i) ++ P.numP P.many := by
  unfold numR
  rw [List.take_add_one, h, List.flatMap_append]
  simp
theorem liveR_len : ∀ {L : List RPg}, (∀ P ∈ L, P.Ok) → (liveR L).length ≤ 31 * L.length
  | [], _ => Nat.le_refl _
  | P :: L, h => by
    have h1 := liveR_len (L := L) (fun Q hQ => h Q (List.mem_cons_of_mem _ hQ))
    have h2 := P.liveP_len P.slots
    have h3 := (h P (by simp)).slots_le
    have e : liveR (P :: L) = P.liveP P.slots ++ liveR L := rfl
    rw [e, List.length_append, List.length_cons]
    omega
theorem numR_len : ∀ {L : List RPg}, (∀ P ∈ L, P.many ≤ 100) → (numR L).length ≤ 100 * L.length
  | [], _ => Nat.le_refl _
  | P :: L, h => by
    have h1 := numR_len (L := L) (fun Q hQ => h Q (List.mem_cons_of_mem _ hQ))
    have h2 := P.numP_len P.many
    have h3 := h P (by simp)
    have e : numR (P :: L) = P.numP P.many ++ numR L := rfl
    rw [e, List.length_append, List.length_cons]
    omega


set_option maxRecDepth 100000 in
set_option maxHeartbeats 2000000 in
theorem rlive_call (h : Sep F0 w0 w Ps) (r : Nat) (q : Int) {v : Value} {L : List RPg} (hr : Ps[r]? = some (pgRow v L)) (hF : Fit4 L) (hO : ∀ P ∈ L, P.Ok) :
    Calls Tryd.prog 30 #[.agg #[.int .i64 q, v]] w fun e w' => ∃ (v' : Value) (m : Nat), e = .returned v' ∧ Sep F0 w0 w' (Ps ++ [hbR m q v, intR v' (liveR L)]) := by
  obtain ⟨sa, cap, rfl⟩ := h.form r hr
  have HR := Lib.hid hr
  have HF := Lib.hid (And.intro hF hO)
  obtain ⟨i0, hi0, hz0, hz1, hz2⟩ := info_parts infoIntR
  have HI := Lib.hid (And.intro hi0 (And.intro hz0 (And.intro hz1 hz2)))
  have hB := h.pushCells #[.int .i64 q, .slice sa L.length cap] 46
  have hmB : Mod No w (w.alloc (.cells #[.int .i64 q, .slice sa L.length cap] 46)) := (Mod.refl No w).alloc _
  obtain ⟨m, hmm⟩ : ∃ m, w.heap.size = m := ⟨_, rfl⟩
  obtain ⟨W, hW⟩ : ∃ W, w.alloc (.cells #[.int .i64 q, .slice sa L.length cap] 46) = W := ⟨_, rfl⟩
  rw [hW, hmm] at hB
  have hB2 := hB.pushNil 3 1
  obtain ⟨n, hn⟩ : ∃ n, L.length = n := ⟨_, rfl⟩
  have HN := Lib.hid hn
  rw [hn] at hB2 hW
  rw [List.append_assoc] at hB2
  have HB : Hid (Sep F0 w0 W (Ps ++ [hbR m q (.slice sa n cap), intR (.slice none 0 0) []])) := hB2
  clear h hB hmB hB2
  have hl := hF.len
  rw [hn] at hl
  clear hr hF hn hO hi0 hz0 hz1 hz2
  rw [HN.out]
  go_enter Tryd.func30, Tryd.ntmps30
  go_wp2_with fail
  go_loopw [3, 4] (fun lv iv wr => ∃ i : Nat, i ≤ n ∧ iv = .int .i64 i ∧ Sep F0 w0 wr (Ps ++ [hbR m q (.slice sa n cap), intR lv (liveR (L.take i))])) (fun _ iv _ => n + 1 - (RowKit.intOf iv).toNat)
  case atStart => exact ⟨0, Nat.zero_le _, rfl, HB.out⟩
  case round =>
    obtain ⟨i, hi, rfl, h⟩ := hrel
    clear HB
    have c1 := (h.cell Ps.length (tl0 (i := 0)) 1 (v := .slice sa n cap) rfl).1
    have Hh := Lib.hid h
    by_cases hlt : i < n
    · obtain ⟨P, hP⟩ : ∃ P, L[i]? = some P := ⟨_, List.getElem?_eq_getElem (by rw [HN.out]; exact hlt)⟩
      have hPm := List.mem_of_getElem? hP
      have hr2 : ∀ X : List Res, (Ps ++ X)[r]? = some (pgRow (.slice sa L.length cap) L) := fun X => getApp HR.out
      obtain ⟨g, rfl, _, _, hA, _⟩ := p4at h r (hr2 _) hP
      obtain ⟨p1, p2⟩ := HF.out.1.pg P hPm
      have hPO := HF.out.2 P hPm
      have hsl := hPO.slots_le
      obtain ⟨C, hC⟩ : ∃ C, P.cells.toArray = C := ⟨_, rfl⟩
      have HC := Lib.hid hC
      have hV : PgV P C := ⟨hC.symm⟩
      have HP := Lib.hid (And.intro hP (And.intro hPO hV))
      have HR2 := Lib.hid hr2
      obtain ⟨sl, hsle⟩ : ∃ sl, P.slots = sl := ⟨_, rfl⟩
      have HSL := Lib.hid hsle
      rw [hsle] at hsl
      have hlen : (liveR (L.take i)).length ≤ 3100000 := by
        have := liveR_len (L := L.take i) (fun Q hQ => HF.out.2 Q (List.mem_of_mem_take hQ))
        rw [List.length_take] at this
        have := HF.out.1.len
        omega
      have HLT : Hid (liveR (L.take (i + 1)) = liveR (L.take i) ++ P.liveP sl) := by
        have := liveR_take hP
        rw [hsle] at this
        exact this
      have H0 : Hid (liveR (L.take i) ++ P.liveP 0 = liveR (L.take i)) := by
        show _ ++ [] = _
        exact List.append_nil _
      generalize liveR (L.take i) = ls at *
      clear hA hP hPm hPO hC hV hsle h hr2
      go_wp2_with fail
      go_loopw [3, 5] (fun lv kv wx => ∃ k : Nat, k ≤ sl ∧ kv = .int .i64 k ∧ Sep F0 w0 wx (Ps ++ [hbR m q (.slice (some ⟨g, 0, none⟩) n cap), intR lv (ls ++ P.liveP k)])) (fun _ kv _ => sl + 1 - (RowKit.intOf kv).toNat)
      case atStart => exact ⟨0, Nat.zero_le _, rfl, by rw [H0.out]; exact Hh.out⟩
      case round =>
        obtain ⟨k, hk, rfl, h⟩ := hrel
        clear Hh c1
        have c1 := (h.cell Ps.length (tl0 (i := 0)) 1 (v := .slice (some ⟨g, 0, none⟩) n cap) rfl).1
        obtain ⟨g2, eg2, _, _, hAx, _⟩ := p4at h r (HR2.out _) HP.out.1
        cases eg2
        have hld : Hid (wr.rangeAt g (i * 36) P.cells) := hAx.all
        have hs := rslots_call HP.out.2.2 HP.out.2.1 wr
        rw [HSL.out] at hs
        have Hh := Lib.hid h
        clear h
        go_wp2_with (first | (refine wpList_load_mid_g (by rfl) 101 _ (by rfl) g (i * 36) (by rfl) P.cells _ hld.out Tryd.underlying101 rfl (p4_size P) ?_; rw [HC.out]))
        refine hs.mono ?_
        rintro e w2 ⟨rfl, hm2⟩
        have h2 := Hh.out.more hm2
        clear hs hm2 c1 hAx hld Hh
        by_cases hkl : k < sl
        · obtain ⟨g2, eg2, _, _, hA2, _⟩ := p4at h2 r (HR2.out _) HP.out.1
          cases eg2
          have c1 := (h2.cell Ps.length (tl0 (i := 0)) 1 (v := .slice (some ⟨g, 0, none⟩) n cap) rfl).1
          have cb := hA2.cb k (by omega)
          have hld : Hid (w2.rangeAt g (i * 36) P.cells) := hA2.all
          have hk31 : (k : Int) < 31 := by omega
          have hk31n : k < 31 := by omega
          have hsucc := P.liveP_succ k
          have H2 := Lib.hid h2
          cases hbit : P.bits.testBit k with
          | false =>
            rw [hbit] at cb
            rw [hbit, if_neg (by decide), List.append_nil] at hsucc
            have HS := Lib.hid hsucc
            clear hA2 hbit h2 hld hsucc
            go_wp2
            go_roundw
            case rel => exact ⟨k + 1, by omega, by go_num, by rw [HS.out]; exact H2.out⟩
            case measure => (simp [RowKit.intOf]; try omega)
          | true =>
            rw [hbit] at cb
            have hpl := rplace_call HP.out.2.2 HP.out.2.1 p1 (show k < P.slots by rw [HSL.out]; exact hkl) w2
            have hsucc2 : ls ++ P.liveP (k + 1) = ls ++ P.liveP k ++ [((P.place k : Nat) : Int)] := by rw [hsucc, hbit, if_pos rfl, List.append_assoc]
            obtain ⟨pl, hple⟩ : ∃ pl, P.place k = pl := ⟨_, rfl⟩
            rw [hple] at hpl hsucc2
            have HS := Lib.hid hsucc2
            have hlen2 : (ls ++ P.liveP k).length ≤ 3100031 := by
              have := P.liveP_len k
              rw [List.length_append]; omega
            generalize ls ++ P.liveP k = lk at *
            clear hA2 hple hbit hsucc h2 hsucc2
            go_wp2_with (first | (refine wpList_load_mid_g (by rfl) 101 _ (by rfl) g (i * 36) (by rfl) P.cells _ hld.out Tryd.underlying101 rfl (p4_size P) ?_; rw [HC.out]))
            refine hpl.mono ?_
            rintro e w3 ⟨rfl, hm3⟩
            have h3 := H2.out.more hm3
            obtain ⟨hi0, hz0, hz1, hz2⟩ := HI.out
            clear hpl hm3 H2 hld c1 cb
            go_wp2_with (at_builtin; refine wpList_append_sep1 h3 (Ps.length + 1) (tl0 (i := 1)) (by rfl) _ _ 22 rfl Tryd.underlying22 hi0 hz0 hz1 hz2 rfl (by rfl) _ _ (by rfl) (by simp) (by rfl) _ (by unfold maxLen; omega) (by omega) ?_)
            intro gg capg w4 h4
            have H4 : Hid (Sep F0 w0 w4 (Ps ++ [hbR m q (.slice (some ⟨g, 0, none⟩) n cap), intR (.slice (some ⟨gg, 0, none⟩) (lk.length + 1) capg) (lk ++ [(pl : Int)])])) := by
              try rw [tlset] at h4
              unfold intR
              rw [List.length_append, List.map_append]
              exact h4
            clear h3 h4 hi0 hz0 hz1 hz2
            go_wp2
            go_roundw
            case rel => exact ⟨k + 1, by omega, by go_num, by rw [HS.out]; exact H4.out⟩
            case measure => (simp [RowKit.intOf]; try omega)
        · obtain rfl : k = sl := by omega
          have H2 := Lib.hid h2
          clear hkl h2
          go_wp2
          go_roundw
          case rel => exact ⟨i + 1, by omega, by go_num, by rw [HLT.out]; exact H2.out⟩
          case measure => (simp [RowKit.intOf]; try omega)
    · obtain rfl : i = n := by omega
      have e : L.take i = L := List.take_of_length_le (by rw [HN.out]; exact Nat.le_refl _)
      rw [e] at h
      have H2 := Lib.hid h
      clear hlt e h Hh
      go_wp2
      go_ret
      exact ⟨_, m, rfl, H2.out⟩

/-- Free slots of a class. -/
def RPg.opn (P : RPg) (k : Nat) : Nat := ((List.range k).filter fun j => !P.bits.testBit j).length
theorem RPg.opn_succ (P : RPg) (k : Nat) : P.opn (k + 1) = P.opn k + (if P.bits.testBit k = true then 0 else 1) := by
  unfold RPg.opn
  rw [List.range_succ, List.filter_append, List.length_append]
  by_cases h : P.bits.testBit k = true
  · rw [if_pos h, List.filter_cons_of_neg (by simp [h])]; rfl
  · rw [if_neg h, List.filter_cons_of_pos (by simpa using h)]; rfl
theorem RPg.opn_le (P : RPg) (k : Nat) : P.opn k ≤ k := by
  unfold RPg.opn
  have := List.length_filter_le (fun j => !P.bits.testBit j) (List.range k)
  rw [List.length_range] at this
  exact this
def RPg.spareP (P : RPg) (c : Int) : Nat := if P.lg = false ∧ (P.cls : Int) = c then P.opn P.slots else 0
def spareR (c : Int) : List RPg → Nat
  | [] => 0
  | P :: L => P.spareP c + spareR c L
theorem spareR_append (c : Int) (A B : List RPg) : spareR c (A ++ B) = spareR c A + spareR c B := by
  induction A with
  | nil => simp [spareR]
  | cons P A ih => simp only [List.cons_append, spareR, ih]; omega
theorem spareR_take {c : Int} {L : List RPg} {i : Nat} {P : RPg} (h : L[i]? = some P) : spareR c (L.take (i + 1)) = spareR c (L.take i) + P.spareP c := by
  rw [List.take_add_one, h, spareR_append]
  simp [spareR]
theorem spareR_le (c : Int) : ∀ {L : List RPg}, (∀ P ∈ L, P.Ok) → spareR c L ≤ 31 * L.length
  | [], _ => Nat.le_refl _
  | P :: L, h => by
    have h1 := spareR_le c (L := L) (fun Q hQ => h Q (List.mem_cons_of_mem _ hQ))
    have h2 := P.opn_le P.slots
    have h3 := (h P (by simp)).slots_le
    have : P.spareP c ≤ 31 := by unfold RPg.spareP; split <;> omega
    simp only [spareR, List.length_cons]
    omega

end Go.Proofs.YtfmkiioahnphbaaDoor
