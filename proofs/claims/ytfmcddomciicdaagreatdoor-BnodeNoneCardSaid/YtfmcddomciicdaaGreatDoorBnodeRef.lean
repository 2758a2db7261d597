/- The document's bnode, walked: degree, Fits; and the law's long. Conditions: a node's slices hold what is said, and are not long. -/
import Derived.Test.YtfmcddomciicdaaGreatDoorBnodeA
set_option linter.unusedVariables false
set_option linter.unusedSimpArgs false
set_option maxRecDepth 100000
namespace Go.Proofs.YtfmcddomciicdaaGreatDoor
open Go Go.RowKit

variable {F0 : Nat → Prop} {w0 w : World} {Ps : List Res}

theorem rdegree_call (t : Int) (w : World) : Calls Tryz.prog 100 #[.int .i64 t] w fun e w' => e = .returned (.bool (Nd.degB t)) ∧ w = w' := by
  unfold Nd.degB
  by_cases h1 : 2 ≤ t
  · have d1 : decide (2 ≤ t) = true := leT h1
    obtain ⟨d, hd⟩ : ∃ d, decide (t ≤ 16) = d := ⟨_, rfl⟩
    rw [hd, d1]
    clear h1
    go_enter Tryz.func100, Tryz.ntmps100
    go_wp2
    go_ret
    exact ⟨rfl, rfl⟩
  · have d1 : decide (2 ≤ t) = false := leF (by omega)
    rw [d1]
    clear h1
    go_enter Tryz.func100, Tryz.ntmps100
    go_wp2
    go_ret
    exact ⟨rfl, rfl⟩

/-- Are there more in a node than a law takes? -/
def Nd.short (x : Nd) : Prop := x.keys.length ≤ 100 ∧ x.vals.length ≤ 100 ∧ x.kids.length ≤ 100
theorem long_call (sk : Option Addr) (ck : Nat) (sv : Option Addr) (cv : Nat) (sc : Option Addr) (cc : Nat) (x : Nd) (w : World) :
    Calls Tryz.prog 50 #[ndV sk ck sv cv sc cc x] w fun e w' => ∃ c : Bool, e = .returned (.bool c) ∧ (c = false ↔ x.short) ∧ Mod No w w' := by
  have HM : Hid (Mod No w (w.alloc (.cells #[.slice sk x.keys.length ck, .slice sv x.vals.length cv, .slice sc x.kids.length cc, .int .u64 x.size] 117))) := (Mod.refl No w).alloc _
  unfold Nd.short
  unfold ndV
  obtain ⟨nk, hk⟩ : ∃ n, x.keys.length = n := ⟨_, rfl⟩
  obtain ⟨nv, hv⟩ : ∃ n, x.vals.length = n := ⟨_, rfl⟩
  obtain ⟨nc, hc⟩ : ∃ n, x.kids.length = n := ⟨_, rfl⟩
  obtain ⟨sz, hsz⟩ : ∃ v, x.size = v := ⟨_, rfl⟩
  rw [hk, hv, hc, hsz] at HM ⊢
  clear hk hv hc hsz
  by_cases h1 : nk ≤ 100
  · have d1 : decide ((100 : Int) < (nk : Int)) = false := ltF (by omega)
    by_cases h2 : nv ≤ 100
    · have d2 : decide ((100 : Int) < (nv : Int)) = false := ltF (by omega)
      obtain ⟨c, hcd⟩ : ∃ c, decide ((100 : Int) < (nc : Int)) = c := ⟨_, rfl⟩
      have hcc : c = false ↔ nc ≤ 100 := by rw [← hcd]; rw [decide_eq_false_iff_not]; omega
      have HC := Lib.hid (And.intro h1 (And.intro h2 hcc))
      clear h1 h2 hcc
      go_enter Tryz.func50, Tryz.ntmps50
      go_wp2
      go_ret
      exact ⟨c, rfl, ⟨fun h => ⟨HC.out.1, HC.out.2.1, HC.out.2.2.1 h⟩, fun h => HC.out.2.2.2 h.2.2⟩, HM.out⟩
    · have d2 : decide ((100 : Int) < (nv : Int)) = true := ltT (by omega)
      have HC := Lib.hid h2
      clear h1 h2
      go_enter Tryz.func50, Tryz.ntmps50
      go_wp2
      go_ret
      exact ⟨true, rfl, ⟨fun h => (by cases h), fun h => absurd h.2.1 HC.out⟩, HM.out⟩
  · have d1 : decide ((100 : Int) < (nk : Int)) = true := ltT (by omega)
    have HC := Lib.hid h1
    clear h1
    go_enter Tryz.func50, Tryz.ntmps50
    go_wp2
    go_ret
    exact ⟨true, rfl, ⟨fun h => (by cases h), fun h => absurd h.1 HC.out⟩, HM.out⟩


set_option maxHeartbeats 2000000 in
theorem rfits_call {sk sv sc : Option Addr} {ck cv cc : Nat} {x : Nd} (h : HasR w sc x.kids) (hs : x.short) (t : Int) :
    Calls Tryz.prog 51 #[.int .i64 t, ndV sk ck sv cv sc cc x] w fun e w' => e = .returned (.bool (Nd.fitB t x)) ∧ Mod No w w' := by
  obtain ⟨lk, lv, lc⟩ := hs
  have hm : Mod No w (w.alloc (.cells #[.slice sk x.keys.length ck, .slice sv x.vals.length cv, .slice sc x.kids.length cc, .int .u64 x.size] 117)) := (Mod.refl No w).alloc _
  have hB := (Sep.nil w).pushCells #[.slice sk x.keys.length ck, .slice sv x.vals.length cv, .slice sc x.kids.length cc, .int .u64 x.size] 117
  have HK := Lib.hid (h.mod hm)
  have HM := Lib.hid hm
  obtain ⟨W, hW⟩ : ∃ W, w.alloc (.cells #[.slice sk x.keys.length ck, .slice sv x.vals.length cv, .slice sc x.kids.length cc, .int .u64 x.size] 117) = W := ⟨_, rfl⟩
  have hi := rdegree_call t W
  rw [hW] at HK HM hB
  have k0 := (hB.cell 0 rfl 0 (v := .slice sk x.keys.length ck) rfl).1
  have k1 := (hB.cell 0 rfl 1 (v := .slice sv x.vals.length cv) rfl).1
  have k2 := (hB.cell 0 rfl 2 (v := .slice sc x.kids.length cc) rfl).1
  have HR : Hid (Nd.degB t = true → 2 ≤ t ∧ t ≤ 16) := fun h => by simpa [Nd.degB] using h
  unfold ndV
  unfold ndV at *
  obtain ⟨nk, hk⟩ : ∃ n, x.keys.length = n := ⟨_, rfl⟩
  obtain ⟨nv, hv⟩ : ∃ n, x.vals.length = n := ⟨_, rfl⟩
  obtain ⟨nc, hc⟩ : ∃ n, x.kids.length = n := ⟨_, rfl⟩
  have hfit : ∀ c : Bool, (c = true ↔ (Nd.degB t = true ∧ (nk : Int) ≤ 2 * t - 1 ∧ nv = nk ∧ (nc = 0 ∨ (nc = nk + 1 ∧ (0 : Int) ∉ x.kids)))) → c = Nd.fitB t x := fun c hcd => by
    rw [Bool.eq_iff_iff, hcd]
    unfold Nd.fitB Nd.kidsB
    rw [hk, hv, hc]
    simp only [Bool.and_eq_true, decide_eq_true_eq, beq_iff_eq, Bool.or_eq_true, Bool.not_eq_true', decide_eq_false_iff_not, and_assoc]
  have HF := Lib.hid hfit
  have HC := Lib.hid hc
  rw [hk] at lk k0 hW ⊢
  rw [hv] at lv k1 hW ⊢
  rw [hc] at lc k2 hW ⊢
  obtain ⟨sz, hsz⟩ : ∃ v, x.size = v := ⟨_, rfl⟩
  rw [hsz] at hW ⊢
  obtain ⟨dg, hdg⟩ : ∃ b, Nd.degB t = b := ⟨_, rfl⟩
  rw [hdg] at hi
  have HD := Lib.hid hdg
  clear h hm hB hk hv hc hsz hfit hdg
  cases dg with
  | false =>
    go_enter Tryz.func51, Tryz.ntmps51
    go_wp2_with fail
    refine hi.mono ?_
    rintro e w' ⟨rfl, rfl⟩
    clear hi
    go_wp2
    go_ret
    exact ⟨congrArg (fun c => Ending.returned (Value.bool c)) (HF.out false ⟨(fun h => by cases h), fun h => by have h1 := h.1; rw [HD.out] at h1; cases h1⟩), HM.out⟩
  | true =>
    have hr := HR.out HD.out
    have e1 : IntKind.i64.wrap (2 * t) = 2 * t := by rw [IntKind.wrap_i64]; omega
    have e2 : IntKind.i64.wrap (2 * t - 1) = 2 * t - 1 := by rw [IntKind.wrap_i64]; omega
    by_cases h1 : (nk : Int) ≤ 2 * t - 1
    · have d1 : decide (2 * t - 1 < (nk : Int)) = false := ltF (by omega)
      have H1 := Lib.hid h1
      clear h1
      by_cases h2 : nv = nk
      · subst h2
        have d2 : ((nv : Int) != (nv : Int)) = false := bneF rfl
        by_cases h3 : nc = 0
        · have d3 : ((nc : Int) != 0) = false := bneF (by omega)
          have dL : decide ((0 : Int) < (nc : Int)) = false := ltF (by omega)
          have dL2 : decide (0 < nc) = false := decide_eq_false (by omega)
          have H3 := Lib.hid h3
          clear h3 HK
          go_enter Tryz.func51, Tryz.ntmps51
          go_wp2_with fail
          refine hi.mono ?_
          rintro e w' ⟨rfl, rfl⟩
          clear hi
          go_wp2_with fail
          go_loopw [5] (fun iv wr => iv = .int .i64 0 ∧ wr = W) (fun _ _ => 0)
          case atStart => exact ⟨rfl, rfl⟩
          case round =>
            obtain ⟨rfl, rfl⟩ := hrel
            go_wp2
            go_ret
            exact ⟨congrArg (fun c => Ending.returned (Value.bool c)) (HF.out true ⟨fun _ => ⟨HD.out, H1.out, by trivial, .inl H3.out⟩, fun _ => rfl⟩), HM.out⟩
        · have d3 : ((nc : Int) != 0) = true := bneT (by omega)
          have e3 : IntKind.i64.wrap ((nv : Int) + 1) = (nv : Int) + 1 := by rw [IntKind.wrap_i64]; omega
          by_cases h4 : nc = nv + 1
          · have d4 : ((nc : Int) != (nv : Int) + 1) = false := bneF (by omega)
            have H4 := Lib.hid (And.intro h3 h4)
            have hc100 : nc ≤ 100 := lc
            clear h3 h4
            go_enter Tryz.func51, Tryz.ntmps51
            go_wp2_with fail
            refine hi.mono ?_
            rintro e w' ⟨rfl, rfl⟩
            clear hi
            go_wp2_with fail
            go_loopw [5] (fun iv wr => ∃ k : Nat, iv = .int .i64 k ∧ k ≤ nc ∧ wr = W ∧ ∀ i, i < k → x.kids[i]? ≠ some 0) (fun iv _ => nc - (RowKit.intOf iv).toNat)
            case atStart => exact ⟨0, rfl, Nat.zero_le _, rfl, fun i hi => by omega⟩
            case round =>
              obtain ⟨k, rfl, hkc, rfl, hno⟩ := hrel
              by_cases hlt : k < nc
              · obtain ⟨v, hv⟩ : ∃ v, x.kids[k]? = some v := ⟨_, List.getElem?_eq_getElem (by rw [HC.out]; exact hlt)⟩
                obtain ⟨g, o, rfl, hcell⟩ := HK.out k v hv
                have hkn : (k : Int) < (nc : Int) := by omega
                have HNO := Lib.hid (And.intro hno hv)
                clear hno hv
                by_cases hz : v = 0
                · subst hz
                  go_wp2
                  go_ret
                  exact ⟨congrArg (fun c => Ending.returned (Value.bool c)) (HF.out false ⟨(fun h => by cases h), fun h => by
                    rcases h.2.2.2 with h | h
                    · exact absurd h H4.out.1
                    · exact absurd (List.mem_of_getElem? HNO.out.2) h.2⟩), HM.out⟩
                · have dz : (v == 0) = false := beqF hz
                  have HZ := Lib.hid hz
                  clear hz
                  go_wp2
                  go_roundw
                  case rel =>
                    refine ⟨k + 1, by go_num, by omega, by trivial, fun i hi => ?_⟩
                    by_cases e : i = k
                    · subst e
                      rw [HNO.out.2]
                      exact fun h => HZ.out (Option.some.inj h)
                    · exact HNO.out.1 i (by omega)
                  case measure => simp [RowKit.intOf]; omega
              · obtain rfl : k = nc := by omega
                have HNO := Lib.hid hno
                clear hno hlt
                go_wp2
                go_ret
                exact ⟨congrArg (fun c => Ending.returned (Value.bool c)) (HF.out true ⟨fun _ => ⟨HD.out, H1.out, by trivial, .inr ⟨H4.out.2, fun hm => by
                  obtain ⟨i, hi⟩ := List.mem_iff_getElem?.1 hm
                  exact HNO.out i (by rw [← HC.out]; exact (List.getElem?_eq_some_iff.1 hi).1) hi⟩⟩, fun _ => rfl⟩), HM.out⟩
          · have d4 : ((nc : Int) != (nv : Int) + 1) = true := bneT (by omega)
            have H4 := Lib.hid (And.intro h3 h4)
            clear h3 h4 HK
            go_enter Tryz.func51, Tryz.ntmps51
            go_wp2_with fail
            refine hi.mono ?_
            rintro e w' ⟨rfl, rfl⟩
            clear hi
            go_wp2
            go_ret
            exact ⟨congrArg (fun c => Ending.returned (Value.bool c)) (HF.out false ⟨(fun h => by cases h), fun h => by
              rcases h.2.2.2 with h | h
              · exact absurd h H4.out.1
              · exact absurd h.1 H4.out.2⟩), HM.out⟩
      · have d2 : ((nv : Int) != (nk : Int)) = true := bneT (by omega)
        have H2 := Lib.hid h2
        clear h2 HK
        go_enter Tryz.func51, Tryz.ntmps51
        go_wp2_with fail
        refine hi.mono ?_
        rintro e w' ⟨rfl, rfl⟩
        clear hi
        go_wp2
        go_ret
        exact ⟨congrArg (fun c => Ending.returned (Value.bool c)) (HF.out false ⟨(fun h => by cases h), fun h => absurd h.2.2.1 H2.out⟩), HM.out⟩
    · have d1 : decide (2 * t - 1 < (nk : Int)) = true := ltT (by omega)
      have H1 := Lib.hid h1
      clear h1 HK
      go_enter Tryz.func51, Tryz.ntmps51
      go_wp2_with fail
      refine hi.mono ?_
      rintro e w' ⟨rfl, rfl⟩
      clear hi
      go_wp2
      go_ret
      exact ⟨congrArg (fun c => Ending.returned (Value.bool c)) (HF.out false ⟨(fun h => by cases h), fun h => absurd h.2.1 (by have := H1.out; omega)⟩), HM.out⟩
end Go.Proofs.YtfmcddomciicdaaGreatDoor
