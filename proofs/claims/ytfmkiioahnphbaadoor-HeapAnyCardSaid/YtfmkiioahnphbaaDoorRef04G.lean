/- The reference of layer 4 (loftref04): leave, Free, walked. Conditions: the pages in memory are as said. -/
import Derived.Test.YtfmkiioahnphbaaDoorRef04F
set_option linter.unusedVariables false
set_option linter.unusedSimpArgs false
set_option maxRecDepth 100000
namespace Go.Proofs.YtfmkiioahnphbaaDoor
open Go Go.RowKit

theorem liftC {F0 : Nat → Prop} {w0 w : World} {Ps : List Res} {C : Ending → Prop} (h : Sep F0 w0 w Ps) (i : Nat) {R R' : Res} (hi : Ps[i]? = some R) {P : Program} {f : FuncId} {args : Array Value}
    (hc : ∀ F, Sep F w w [R] → Calls P f args w fun e w' => C e ∧ Sep F w w' [R']) : Calls P f args w fun e w' => C e ∧ Sep F0 w0 w' (Ps.set i R') := by
  obtain ⟨F, h1, back⟩ := h.frame [i] [R] (by simp) (by simp [hi])
  refine (hc F h1).mono fun e w' ⟨he, hs⟩ => ⟨he, ?_⟩
  have := back w' [R'] (Nat.le_refl _) hs
  simpa [setAt] using this

variable {F : Nat → Prop} {w0 w : World} {b : Nat} {q : Int} {L : List RPg}
set_option maxHeartbeats 1000000 in
theorem rslots_callC {P : RPg} {C : Array Value} (h : PgV P C) (hP : P.lg = false → P.cls < 8) (w : World) : Calls Tryd.prog 52 #[.agg C] w fun e w' => e = .returned (.int .i64 (P.slots : Nat)) ∧ Mod No w w' := by
  obtain ⟨hsz, h0, h1, h2, h3, h4⟩ := h.at
  have c4 := h.box w h4
  have c2 := h.box w h2
  have hm : Mod No w (w.alloc (.cells C 101)) := (Mod.refl No w).alloc _
  obtain ⟨m, hmm⟩ : ∃ m, w.heap.size = m := ⟨_, rfl⟩
  rw [hmm] at c4 c2
  cases hl : P.lg with
  | true =>
    have e : P.slots = 1 := by unfold RPg.slots; rw [if_pos hl]
    rw [hl] at c4
    rw [e]
    clear h hP hsz h0 h1 h2 h3 h4 c2 hl e
    go_enter Tryd.func52, Tryd.ntmps52
    go_wp2
    go_ret
    exact ⟨rfl, hm⟩
  | false =>
    have e : P.slots = 62 / csz P.cls := by unfold RPg.slots; rw [if_neg (by rw [hl]; decide)]
    have hs := rslots3_call (hP hl) (w.alloc (.cells C 101))
    rw [hl] at c4
    rw [← e] at hs
    generalize P.slots = sl at *
    have HM := Lib.hid hm
    obtain ⟨W, hW⟩ : ∃ W, w.alloc (.cells C 101) = W := ⟨_, rfl⟩
    rw [hW] at hs c4 c2 HM
    clear h hP hsz h0 h1 h2 h3 h4 hl e hm
    go_enter Tryd.func52, Tryd.ntmps52
    go_wp2_with fail
    refine hs.mono ?_
    rintro e w1 ⟨rfl, hm⟩
    have HM2 := Lib.hid (HM.out.trans' hm)
    clear hs hm
    go_wp2
    go_ret
    exact ⟨rfl, HM2.out⟩


set_option maxRecDepth 100000 in
set_option maxHeartbeats 2000000 in
theorem rleave_call (h : Sep F w w [rheapR b q L]) (hF : Fit4 L) (hO : ∀ P ∈ L, P.Ok) {i k : Nat} {P : RPg} (hP : L[i]? = some P) (hk : k < P.slots) {N' : Nat} (hN' : ∀ j, N'.testBit j = if j = k then false else P.bits.testBit j)
    {E : Bool} (hE1 : E = true → ∀ j, j < P.slots → N'.testBit j = false) (hE2 : (∀ j, j < P.slots → N'.testBit j = false) → E = true) :
    Calls Tryd.prog 61 #[.pointer (some ⟨b, 0, none⟩), .int .i64 (i : Nat), .int .i64 (k : Nat)] w fun e w' => (∃ v, e = .returned v) ∧ Sep F w w' [rheapR b q (if E = true then L.eraseIdx i else L.set i { P with bits := N' })] := by
  obtain ⟨sa, cap, h2⟩ := rh_open h
  obtain ⟨n, hn⟩ : ∃ n, L.length = n := ⟨_, rfl⟩
  have hPO := hO P (List.mem_of_getElem? hP)
  have hil := (List.getElem?_eq_some_iff.1 hP).1
  have hsl := hPO.slots_le
  obtain ⟨sl, hsle⟩ : ∃ sl, P.slots = sl := ⟨_, rfl⟩
  have HSL := Lib.hid hsle
  have HN := Lib.hid hn
  have HP := Lib.hid (And.intro hP (And.intro hPO (And.intro hF hO)))
  have HB := Lib.hid (And.intro hN' (And.intro hE1 hE2))
  have hl := hF.len
  rw [hn] at h2 hl hil
  rw [hsle] at hk hsl
  clear h hF hO hN' hE1 hE2 hn hP hPO hsle
  go_enter Tryd.func61, Tryd.ntmps61
  have hbw := lt_of_at (h2.block 0 rfl)
  have c1 := (h2.cell 0 rfl 1 (v := .slice sa n cap) rfl).1
  have hE : Sep F w (World.alloc w (.cells #[] 101)) [cellsAt b #[.int .i64 q, .slice sa n cap] 46, rowAt 101 36 (.slice sa n cap) n (p4row L), rowAt 101 36 (.slice (some ⟨(w).heap.size, 0, none⟩) 0 0) 0 []] := by
    have hE := h2.pushEmpty 101 36
    unfold pgRow at hE
    rw [HN.out] at hE
    exact hE
  have hsrc := srcOf_row (hE.row 1 rfl) (p4row_one L)
  obtain ⟨i0, hi0, ⟨z0, hz0, hz3⟩, hz1, hz2⟩ := infoPg4
  go_wp2_with (at_builtin; refine wpList_append_src hE 2 rfl (by rfl) _ _ 44 rfl Tryd.underlying44 hi0 hz0 hz1 hz2 hz3 (by decide) (by rfl) _ (by rfl) hsrc (by unfold maxLen; omega) (by omega) ?_)
  intro so co w3 h3
  have h4 : Sep F w w3 [cellsAt b #[.int .i64 q, .slice sa n cap] 46, pgRow (.slice sa n cap) L, pgRow (.slice so n co) L] := by
    unfold pgRow
    rw [HN.out]
    try rw [Nat.zero_add, List.nil_append] at h3
    exact h3
  try rw [Nat.zero_add]
  have q3 := h4.cell 0 rfl 1 (v := .slice sa n cap) rfl
  have q1 := q3.1
  have q2 := q3.2
  have h5 := rh_store h4
  clear hE hsrc h2 h3 h4 q3 hi0 hz0 hz1 hz2 hz3 c1
  have c1 := (h5.cell 0 rfl 1 (v := .slice so n co) rfl).1
  have h5' : Sep F w (w3.setCell ⟨b, 1, none⟩ (.slice so n co)) [cellsAt b #[.int .i64 q, .slice so n co] 46, pgRow (.slice so L.length co) L] := by rw [HN.out]; exact h5
  obtain ⟨g, rfl, _, hgs, hA, hfz⟩ := p4at h5' 1 rfl HP.out.1
  have hfr := hfz (i * 36 + 5 + k)
  have cb := hA.cb k (by omega)
  have hk31 : (k : Int) < 31 := by omega
  have hii : (i : Int) < (n : Int) := by omega
  have h6 : Sep F w ((w3.setCell ⟨b, 1, none⟩ (.slice (some ⟨g, 0, none⟩) n co)).setCell ⟨g, i * 36 + 5 + k, none⟩ (.bool false)) [cellsAt b #[.int .i64 q, .slice (some ⟨g, 0, none⟩) n co] 46, pgRow (.slice (some ⟨g, 0, none⟩) n co) (L.set i { P with bits := N' })] := by
    unfold pgRow at h5
    rw [HN.out] at h5
    have h6 := h5.setItem 1 rfl (i * 36 + (5 + k)) (.bool false)
    unfold pgRow
    rw [List.length_set, p4row_bit HP.out.1 (by omega) HB.out.1, HN.out]
    rw [← Nat.add_assoc] at h6 ⊢
    exact h6
  obtain ⟨W2, hW2⟩ : ∃ W2, (w3.setCell ⟨b, 1, none⟩ (.slice (some ⟨g, 0, none⟩) n co)).setCell ⟨g, i * 36 + 5 + k, none⟩ (.bool false) = W2 := ⟨_, rfl⟩
  rw [hW2] at h6
  have H6 := Lib.hid h6
  clear h5 h5' h6 hA hfz
  go_wp2_with fail
  try rw [hW2]
  clear hW2 c1 cb q1 q2 hfr hk31 hgs hbw
  obtain ⟨P', hP'⟩ : ∃ P', ({ P with bits := N' } : RPg) = P' := ⟨_, rfl⟩
  have HP' := Lib.hid hP'
  have hPi : (L.set i P')[i]? = some P' := by rw [List.getElem?_set_self (by rw [HN.out]; exact hil)]
  rw [hP'] at H6
  have hP'l : P'.slots = sl := by rw [← HSL.out, ← hP']; rfl
  have hP'c : P'.lg = false → P'.cls < 8 := fun e => by rw [← hP'] at e ⊢; exact (HP.out.2.1.cls8 e).1
  have HSL' := Lib.hid hP'l
  have HLS : Hid ((L.set i P').length = n) := by show _ = _; rw [List.length_set, HN.out]
  obtain ⟨C, hC⟩ : ∃ C, P'.cells.toArray = C := ⟨_, rfl⟩
  have HC := Lib.hid hC
  have HV : Hid (PgV P' C) := ⟨hC.symm⟩
  have HPI := Lib.hid (And.intro hPi hP'c)
  have hbits : P'.bits = N' := by rw [← hP']
  have HBI := Lib.hid hbits
  clear hP' hPi hP'l hC hP'c hbits
  go_loopw [6, 7] (fun ev kv wr => ∃ t : Nat, t ≤ sl ∧ kv = .int .i64 t ∧ ev = .bool ((List.range t).all fun j => !N'.testBit j) ∧ Mod No W2 wr) (fun _ kv _ => sl + 1 - (RowKit.intOf kv).toNat)
  case atStart => exact ⟨0, Nat.zero_le _, rfl, rfl, Mod.refl _ _⟩
  case round =>
    obtain ⟨t, ht, rfl, rfl, hm⟩ := hrel
    have hx := H6.out.more hm
    have c1 := (hx.cell 0 rfl 1 (v := .slice (some ⟨g, 0, none⟩) n co) rfl).1
    have hx' : Sep F w wr [cellsAt b #[.int .i64 q, .slice (some ⟨g, 0, none⟩) n co] 46, pgRow (.slice (some ⟨g, 0, none⟩) (L.set i P').length co) (L.set i P')] := by rw [HLS.out]; exact hx
    obtain ⟨g', hg', _, hgs, hA, _⟩ := p4at hx' 1 rfl HPI.out.1
    obtain rfl : g = g' := by
      simp only [Option.some.injEq, Addr.mk.injEq] at hg'
      exact hg'.1
    have HM := Lib.hid (And.intro hm hA)
    have hld : Hid (wr.rangeAt g (i * 36) P'.cells) := hA.all
    have hs := rslots_callC HV.out HPI.out.2 wr
    rw [HSL'.out] at hs
    clear hm hx hx' hg' hA
    go_wp2_with (first | (refine wpList_load_mid_g (by rfl) 101 _ (by rfl) g (i * 36) (by rfl) P'.cells _ hld.out Tryd.underlying101 rfl (p4_size P') ?_; rw [HC.out]))
    refine hs.mono ?_
    rintro e w2 ⟨rfl, hm2⟩
    have HM2 := Lib.hid (HM.out.1.trans' hm2)
    have hA := HM.out.2.mod hm2
    have c1 := hm2.cell c1 (fun x => x)
    clear hs hm2 hld
    by_cases htl : t < sl
    · have cb := hA.cb t (by omega)
      rw [HBI.out] at cb
      have hii : (i : Int) < (n : Int) := by omega
      have htt : (t : Int) < 31 := by omega
      have htt2 : t < 31 := by omega
      have HR : Hid (((List.range (t + 1)).all fun j => !N'.testBit j) = (((List.range t).all fun j => !N'.testBit j) && !N'.testBit t)) := by
        show _ = _
        rw [List.range_succ, List.all_append]
        simp
      obtain ⟨bt, hbt⟩ : ∃ bt, N'.testBit t = bt := ⟨_, rfl⟩
      rw [hbt] at cb HR
      obtain ⟨em, hem⟩ : ∃ em, ((List.range t).all fun j => !N'.testBit j) = em := ⟨_, rfl⟩
      rw [hem] at HR
      rw [hem]
      clear hA hbt hem
      cases em with
      | false =>
        go_wp2
        go_roundw
        case rel => exact ⟨t + 1, by omega, by go_num, by rw [HR.out]; rfl, HM2.out⟩
        case measure => (simp [RowKit.intOf]; try omega)
      | true =>
        go_wp2
        go_roundw
        case rel => exact ⟨t + 1, by omega, by go_num, by rw [HR.out]; simp, HM2.out⟩
        case measure => (simp [RowKit.intOf]; try omega)
    · obtain rfl : t = sl := by omega
      have HE : Hid (((List.range t).all fun j => !N'.testBit j) = E) := by
        show _ = _
        cases hE : E with
        | true =>
          refine List.all_eq_true.2 fun j hj => ?_
          rw [HB.out.2.1 hE j (by rw [HSL.out]; exact List.mem_range.1 hj)]
          rfl
        | false =>
          cases hx : ((List.range t).all fun j => !N'.testBit j) with
          | false => rfl
          | true =>
            have := HB.out.2.2 (fun j hj => by
              have := List.all_eq_true.1 hx j (List.mem_range.2 (by rw [← HSL.out]; exact hj))
              simpa using this)
            rw [hE] at this
            cases this
      rw [HE.out]
      have HS3 : Hid (Sep F w w2 [rheapR b q (L.set i P')]) := by
        refine rh_shut (v := .slice (some ⟨g, 0, none⟩) n co) ?_
        exact H6.out.more HM2.out
      clear htl hA
      cases hE : E with
      | false =>
        go_wp2
        all_goals go_end0
        all_goals refine ⟨⟨_, rfl⟩, ?_⟩
        all_goals have hs3 := HS3.out
        all_goals rw [← HP'.out] at hs3
        all_goals exact hs3
      | true =>
        have hd := liftC HS3.out 0 (R' := rheapR b q ((L.set i P').eraseIdx i)) rfl fun F hs => rdrop_call hs (by rw [HLS.out]; exact hl) (k := i) (by rw [HLS.out]; exact hil)
        go_wp2_with fail
        refine hd.mono ?_
        rintro e w4 ⟨⟨v, rfl⟩, h4⟩
        have h4 : Sep F w w4 [rheapR b q (L.eraseIdx i)] := by
          have e : (L.set i P').eraseIdx i = L.eraseIdx i := List.eraseIdx_set_eq
          rw [← e]; exact h4
        have H4 := Lib.hid h4
        clear hd h4
        go_wp2
        go_end0
        exact ⟨⟨_, rfl⟩, H4.out⟩
end Go.Proofs.YtfmkiioahnphbaaDoor
