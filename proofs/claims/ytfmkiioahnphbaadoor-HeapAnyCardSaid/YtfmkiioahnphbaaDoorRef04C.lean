/- The reference of layer 4 (loftref04): Lowest, Find, spot, walked. Conditions: the pages in memory are as said. -/
import Derived.Test.YtfmkiioahnphbaaDoorRef04B
set_option linter.unusedVariables false
set_option linter.unusedSimpArgs false
set_option maxRecDepth 100000
namespace Go.Proofs.YtfmkiioahnphbaaDoor
open Go Go.RowKit

variable {F0 : Nat → Prop} {w0 w : World} {Ps : List Res}
theorem p4_size (P : RPg) : (Tryd.prog.info? 101).map (·.size) = some P.cells.length := by
  rw [P.cells_len]; kernel_rfl

theorem wpList_load_mid_g {P : Program} {ops : Array Oper} {rest : List Oper} {op : Oper} {a : Act} {w : World} {Q : Exit → Act → World → Prop} (hw : Region.wanted op (yielded ops a.tmps) = true) (ty : TypeId) (x : Operand) (ho : op.op = .load ty x)
    (b o : Nat) (hx : a.eval x = .pointer (some ⟨b, o, none⟩)) (cs : List Value) (d : TypeDesc) (hc : w.rangeAt b o cs)
    (hu : P.underlying ty = some d) (hd : d.isRow = true) (hi : (P.info? ty).map (·.size) = some cs.length)
    (h : wpList P ops Q rest (a.put op.dst (.agg cs.toArray)) w) : wpList P ops Q (op :: rest) a w :=
  wpList_step fun _ hK => by rw [if_pos hw]; exact wp_load_mid ty x ho b o hx cs d hc hu hd hi (hK _ _ h)

set_option maxHeartbeats 1000000 in
theorem rlow_call (h : Sep F0 w0 w Ps) (r : Nat) (q : Int) {v : Value} {L : List RPg} (hr : Ps[r]? = some (pgRow v L)) (hF : Fit4 L) (k : Nat) (hk : k ≤ 1000) (own : Int) {f0 : Nat} (hf0 : f0 ≤ 10000000) (hex : FreeR L f0 k own) :
    Calls Tryd.prog 58 #[.agg #[.int .i64 q, v], .int .i64 (k : Nat), .int .i64 own] w fun e w' => ∃ f : Nat, e = .returned (.int .i64 (f : Nat)) ∧ FreeR L f k own ∧ (∀ g, g < f → ¬ FreeR L g k own) ∧ Mod No w w' := by
  obtain ⟨sa, cap, rfl⟩ := h.form r hr
  have HR := Lib.hid hr
  have HF := Lib.hid hF
  obtain ⟨hB, b0, b1, hmB⟩ := hv_box h q (.slice sa L.length cap)
  obtain ⟨m, hmm⟩ : ∃ m, w.heap.size = m := ⟨_, rfl⟩
  obtain ⟨W, hW⟩ : ∃ W, w.alloc (.cells #[.int .i64 q, .slice sa L.length cap] 46) = W := ⟨_, rfl⟩
  rw [hmm] at b0 b1
  rw [hW] at hB b0 b1 hmB
  obtain ⟨n, hn⟩ : ∃ n, L.length = n := ⟨_, rfl⟩
  have HN := Lib.hid hn
  have HMB := Lib.hid hmB
  have HB := Lib.hid hB
  rw [hn] at b1 hW
  clear h hB hmB
  have HX := Lib.hid hex
  clear hr hF hn hex
  rw [HN.out]
  go_enter Tryd.func58, Tryd.ntmps58
  go_wp2_with fail
  go_loopw [7] (fun iv wr => ∃ f : Nat, f ≤ f0 ∧ iv = .int .i64 f ∧ Mod No W wr ∧ ∀ g, g < f → ¬ FreeR L g k own) (fun iv _ => f0 + 1 - (RowKit.intOf iv).toNat)
  case atStart => exact ⟨0, Nat.zero_le _, rfl, Mod.refl _ _, fun g hg => absurd hg (by omega)⟩
  case round =>
    obtain ⟨f, hf, rfl, hMr, hbef⟩ := hrel
    have b0 := hMr.cell b0 (fun x => x)
    have b1 := hMr.cell b1 (fun x => x)
    have hc := rfree_call (HB.out.more hMr) r q HR.out HF.out f k (by omega) hk own
    rw [HN.out] at hc
    have HMr := Lib.hid (And.intro hMr hbef)
    clear hMr hbef
    go_wp2_with fail
    refine hc.mono ?_
    rintro e w2 ⟨c, rfl, hcs, hm⟩
    have HM2 := Lib.hid (And.intro (HMr.out.1.trans' hm) hcs)
    clear hc hm hcs
    cases c with
    | false =>
      have hlt : f < f0 := Nat.lt_of_le_of_ne hf fun e => by
        have := HM2.out.2.2 (by rw [e]; exact HX.out)
        cases this
      have HB3 : Hid (∀ g, g < f + 1 → ¬ FreeR L g k own) := fun g hg hfr => by
        by_cases e : g = f
        · subst e
          have := HM2.out.2.2 hfr
          cases this
        · exact HMr.out.2 g (by omega) hfr
      go_wp2
      go_roundw
      case rel => exact ⟨f + 1, by omega, by go_num, HM2.out.1, HB3.out⟩
      case measure => (simp [RowKit.intOf]; try omega)
    | true =>
      go_wp2
      go_ret
      exact ⟨f, rfl, HM2.out.2.1 (by trivial), HMr.out.2, HMB.out.trans' HM2.out.1⟩

/-- A block that is found, and that there is none. -/
def FindY (L : List RPg) (a : Int) (i k : Nat) : Prop := ∃ P, L[i]? = some P ∧ k < P.slots ∧ P.bits.testBit k = true ∧ ((P.place k : Nat) : Int) = a
def FindN (L : List RPg) (a : Int) : Prop := ∀ (i : Nat) P k, L[i]? = some P → k < P.slots → P.bits.testBit k = true → ((P.place k : Nat) : Int) ≠ a


set_option maxRecDepth 100000 in
set_option maxHeartbeats 2000000 in
theorem rfind_call (h : Sep F0 w0 w Ps) (r : Nat) (q : Int) {v : Value} {L : List RPg} (hr : Ps[r]? = some (pgRow v L)) (hF : Fit4 L) (hO : ∀ P ∈ L, P.Ok) (a : Int) :
    Calls Tryd.prog 60 #[.agg #[.int .i64 q, v], .int .i64 a] w fun e w' => ((∃ i k : Nat, e = .returned (.tuple #[.int .i64 (i : Nat), .int .i64 (k : Nat)]) ∧ FindY L a i k) ∨ (e = .returned (.tuple #[.int .i64 (-1), .int .i64 0]) ∧ FindN L a)) ∧ Mod No w w' := by
  obtain ⟨sa, cap, rfl⟩ := h.form r hr
  have HR := Lib.hid hr
  have HF := Lib.hid (And.intro hF hO)
  obtain ⟨hB, b0, b1, hmB⟩ := hv_box h q (.slice sa L.length cap)
  obtain ⟨m, hmm⟩ : ∃ m, w.heap.size = m := ⟨_, rfl⟩
  obtain ⟨W, hW⟩ : ∃ W, w.alloc (.cells #[.int .i64 q, .slice sa L.length cap] 46) = W := ⟨_, rfl⟩
  rw [hmm] at b0 b1
  rw [hW] at hB b0 b1 hmB
  obtain ⟨n, hn⟩ : ∃ n, L.length = n := ⟨_, rfl⟩
  have HN := Lib.hid hn
  have HMB := Lib.hid hmB
  have HB := Lib.hid hB
  rw [hn] at b1 hW
  clear h hB hmB
  have hl := hF.len
  rw [hn] at hl
  clear hr hF hn hO
  rw [HN.out]
  go_enter Tryd.func60, Tryd.ntmps60
  go_wp2_with fail
  go_loopw [6] (fun iv wr => ∃ i : Nat, i ≤ n ∧ iv = .int .i64 i ∧ Mod No W wr ∧ ∀ (j : Nat) P k, j < i → L[j]? = some P → k < P.slots → P.bits.testBit k = true → ((P.place k : Nat) : Int) ≠ a) (fun iv _ => n + 1 - (RowKit.intOf iv).toNat)
  case atStart => exact ⟨0, Nat.zero_le _, rfl, Mod.refl _ _, fun j P k hj => absurd hj (by omega)⟩
  case round =>
    obtain ⟨i, hi, rfl, hMr, hbef⟩ := hrel
    have c1 := hMr.cell b1 (fun x => x)
    have HMr := Lib.hid (And.intro hMr hbef)
    clear hMr hbef
    by_cases hlt : i < n
    · obtain ⟨P, hP⟩ : ∃ P, L[i]? = some P := ⟨_, List.getElem?_eq_getElem (by rw [HN.out]; exact hlt)⟩
      have hPm := List.mem_of_getElem? hP
      obtain ⟨g, rfl, _, _, hA, _⟩ := p4at (HB.out.more HMr.out.1) r HR.out hP
      obtain ⟨p1, p2⟩ := HF.out.1.pg P hPm
      have hPO := HF.out.2 P hPm
      have hsl := hPO.slots_le
      obtain ⟨C, hC⟩ : ∃ C, P.cells.toArray = C := ⟨_, rfl⟩
      have HC := Lib.hid hC
      have hV : PgV P C := ⟨hC.symm⟩
      have HP := Lib.hid (And.intro hP (And.intro hPO (And.intro hA hV)))
      obtain ⟨sl, hsle⟩ : ∃ sl, P.slots = sl := ⟨_, rfl⟩
      have HSL := Lib.hid hsle
      rw [hsle] at hsl
      clear hA hP hPm hPO hC hV hsle c1
      have c1 := HMr.out.1.cell b1 (fun x => x)
      go_wp2_with fail
      go_loopw [7] (fun kv wx => ∃ k : Nat, k ≤ sl ∧ kv = .int .i64 k ∧ Mod No wr wx ∧ ∀ k', k' < k → P.bits.testBit k' = true → ((P.place k' : Nat) : Int) ≠ a) (fun kv _ => sl + 1 - (RowKit.intOf kv).toNat)
      case atStart => exact ⟨0, Nat.zero_le _, rfl, Mod.refl _ _, fun k' hk => absurd hk (by omega)⟩
      case round =>
        obtain ⟨k, hk, rfl, hMx, hbk⟩ := hrel
        have c1 := hMx.cell c1 (fun x => x)
        have hAx := HP.out.2.2.1.mod hMx
        have hld : Hid (wr.rangeAt g (i * 36) P.cells) := hAx.all
        have hs := rslots_call HP.out.2.2.2 HP.out.2.1 wr
        rw [HSL.out] at hs
        have HMx := Lib.hid (And.intro hMx hbk)
        clear hMx hbk
        go_wp2_with (first | (refine wpList_load_mid_g (by rfl) 101 _ (by rfl) g (i * 36) (by rfl) P.cells _ hld.out Tryd.underlying101 rfl (p4_size P) ?_; rw [HC.out]))
        refine hs.mono ?_
        rintro e w2 ⟨rfl, hm2⟩
        have HM2 := Lib.hid (HMx.out.1.trans' hm2)
        clear hs hm2 c1 hAx hld
        by_cases hkl : k < sl
        · have hA2 := HP.out.2.2.1.mod HM2.out
          have c1 := HM2.out.cell c1 (fun x => x)
          have cb := hA2.cb k (by omega)
          have hld : Hid (w2.rangeAt g (i * 36) P.cells) := hA2.all
          have hk31 : (k : Int) < 31 := by omega
          have hk31n : k < 31 := by omega
          cases hbit : P.bits.testBit k with
          | false =>
            rw [hbit] at cb
            have HB2 : Hid (∀ k', k' < k + 1 → P.bits.testBit k' = true → ((P.place k' : Nat) : Int) ≠ a) := fun k' hk' hb => by
              by_cases e : k' = k
              · subst e; rw [hbit] at hb; cases hb
              · exact HMx.out.2 k' (by omega) hb
            clear hA2 hbit
            go_wp2
            go_roundw
            case rel => exact ⟨k + 1, by omega, by go_num, HM2.out, HB2.out⟩
            case measure => (simp [RowKit.intOf]; try omega)
          | true =>
            rw [hbit] at cb
            have hpl := rplace_call HP.out.2.2.2 HP.out.2.1 p1 (show k < P.slots by rw [HSL.out]; exact hkl) w2
            obtain ⟨pl, hple⟩ : ∃ pl, P.place k = pl := ⟨_, rfl⟩
            rw [hple] at hpl
            have HPL := Lib.hid (And.intro hple hbit)
            clear hA2 hple hbit
            go_wp2_with (first | (refine wpList_load_mid_g (by rfl) 101 _ (by rfl) g (i * 36) (by rfl) P.cells _ hld.out Tryd.underlying101 rfl (p4_size P) ?_; rw [HC.out]))
            refine hpl.mono ?_
            rintro e w3 ⟨rfl, hm3⟩
            have HM3 := Lib.hid (HM2.out.trans' hm3)
            clear hpl hm3
            by_cases ha : (pl : Int) = a
            · have da : ((pl : Int) == a) = true := beqT ha
              have HY : Hid (FindY L a i k) := ⟨P, HP.out.1, by rw [HSL.out]; exact hkl, HPL.out.2, by rw [HPL.out.1]; exact ha⟩
              clear ha
              go_wp2
              go_ret2
              exact ⟨.inl ⟨i, k, rfl, HY.out⟩, HMB.out.trans' (HMr.out.1.trans' HM3.out)⟩
            · have da : ((pl : Int) == a) = false := beqF ha
              have HB2 : Hid (∀ k', k' < k + 1 → P.bits.testBit k' = true → ((P.place k' : Nat) : Int) ≠ a) := fun k' hk' hb => by
                by_cases e : k' = k
                · subst e; rw [HPL.out.1]; exact ha
                · exact HMx.out.2 k' (by omega) hb
              clear ha
              go_wp2
              go_roundw
              case rel => exact ⟨k + 1, by omega, by go_num, HM3.out, HB2.out⟩
              case measure => (simp [RowKit.intOf]; try omega)
        · obtain rfl : k = sl := by omega
          have HB2 : Hid (∀ (j : Nat) P k, j < i + 1 → L[j]? = some P → k < P.slots → P.bits.testBit k = true → ((P.place k : Nat) : Int) ≠ a) := fun j P' k' hj hP' hk' hb => by
            by_cases e : j = i
            · subst e
              rw [HP.out.1] at hP'
              cases hP'
              exact HMx.out.2 k' (by rw [← HSL.out]; exact hk') hb
            · exact HMr.out.2 j P' k' (by omega) hP' hk' hb
          clear hkl
          go_wp2
          go_roundw
          case rel => exact ⟨i + 1, by omega, by go_num, HMr.out.1.trans' HM2.out, HB2.out⟩
          case measure => (simp [RowKit.intOf]; try omega)
    · obtain rfl : i = n := by omega
      have HY : Hid (FindN L a) := fun j P k hP hk hb => HMr.out.2 j P k (by have := (List.getElem?_eq_some_iff.1 hP).1; rw [HN.out] at this; exact this) hP hk hb
      clear hlt
      go_wp2
      go_ret2
      exact ⟨.inr ⟨rfl, HY.out⟩, HMB.out.trans' HMr.out.1⟩
end Go.Proofs.YtfmkiioahnphbaaDoor
