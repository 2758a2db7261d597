/- The document's bnode, walked: degree, Fits; and the law's long. Conditions: a node's slices hold what is said, and are not long. | Package bnode, walked: without a store; Get of nothing; the document's Same of nothing. Conditions: there is no store; or the store's records are as said. | The document's words of a node: a plain law, and the walk of loftref15.Words. Conditions: the node fits, is not long, and its slices hold what is said. -/
import Derived.Test.YtfmcddomciicdaaGreatDoorBnodeA
import Derived.Test.YtfmcddomciicdaaGreatDoorStoreNil2
import Derived.Test.YtfmcddomciicdaaGreatDoorSrc
import Derived.Deep.RegionHeld3
import Derived.Deep.DeepCutAuto
set_option linter.unusedVariables false
set_option linter.unusedSimpArgs false
set_option maxRecDepth 100000
namespace Go.Proofs.YtfmcddomciicdaaGreatDoor
open Go Go.RowKit

variable {F0 : Nat → Prop} {w0 w : World} {Ps : List Res}

theorem rdegree_call (t : Int) (w : World) : Calls Tryz.prog 100 #[.int .i64 t] w fun e w' => e = .returned (.bool (Nd.degB t)) ∧ w = w' := by
  unfold Nd.degB
  by_cases h1 : 2 ≤ t
  · have d1 : decide (2 ≤ t) = true := leT h1
    obtain ⟨d, hd⟩ : ∃ d, decide (t ≤ 16) = d := ⟨_, rfl⟩
    rw [hd, d1]
    clear h1
    go_enter Tryz.func100, Tryz.ntmps100
    go_wp2
    go_ret
    exact ⟨rfl, rfl⟩
  · have d1 : decide (2 ≤ t) = false := leF (by omega)
    rw [d1]
    clear h1
    go_enter Tryz.func100, Tryz.ntmps100
    go_wp2
    go_ret
    exact ⟨rfl, rfl⟩

/-- Are there more in a node than a law takes? -/
def Nd.short (x : Nd) : Prop := x.keys.length ≤ 100 ∧ x.vals.length ≤ 100 ∧ x.kids.length ≤ 100
theorem long_call (sk : Option Addr) (ck : Nat) (sv : Option Addr) (cv : Nat) (sc : Option Addr) (cc : Nat) (x : Nd) (w : World) :
    Calls Tryz.prog 50 #[ndV sk ck sv cv sc cc x] w fun e w' => ∃ c : Bool, e = .returned (.bool c) ∧ (c = false ↔ x.short) ∧ Mod No w w' := by
  have HM : Hid (Mod No w (w.alloc (.cells #[.slice sk x.keys.length ck, .slice sv x.vals.length cv, .slice sc x.kids.length cc, .int .u64 x.size] 117))) := (Mod.refl No w).alloc _
  unfold Nd.short
  unfold ndV
  obtain ⟨nk, hk⟩ : ∃ n, x.keys.length = n := ⟨_, rfl⟩
  obtain ⟨nv, hv⟩ : ∃ n, x.vals.length = n := ⟨_, rfl⟩
  obtain ⟨nc, hc⟩ : ∃ n, x.kids.length = n := ⟨_, rfl⟩
  obtain ⟨sz, hsz⟩ : ∃ v, x.size = v := ⟨_, rfl⟩
  rw [hk, hv, hc, hsz] at HM ⊢
  clear hk hv hc hsz
  by_cases h1 : nk ≤ 100
  · have d1 : decide ((100 : Int) < (nk : Int)) = false := ltF (by omega)
    by_cases h2 : nv ≤ 100
    · have d2 : decide ((100 : Int) < (nv : Int)) = false := ltF (by omega)
      obtain ⟨c, hcd⟩ : ∃ c, decide ((100 : Int) < (nc : Int)) = c := ⟨_, rfl⟩
      have hcc : c = false ↔ nc ≤ 100 := by rw [← hcd]; rw [decide_eq_false_iff_not]; omega
      have HC := Lib.hid (And.intro h1 (And.intro h2 hcc))
      clear h1 h2 hcc
      go_enter Tryz.func50, Tryz.ntmps50
      go_wp2
      go_ret
      exact ⟨c, rfl, ⟨fun h => ⟨HC.out.1, HC.out.2.1, HC.out.2.2.1 h⟩, fun h => HC.out.2.2.2 h.2.2⟩, HM.out⟩
    · have d2 : decide ((100 : Int) < (nv : Int)) = true := ltT (by omega)
      have HC := Lib.hid h2
      clear h1 h2
      go_enter Tryz.func50, Tryz.ntmps50
      go_wp2
      go_ret
      exact ⟨true, rfl, ⟨fun h => (by cases h), fun h => absurd h.2.1 HC.out⟩, HM.out⟩
  · have d1 : decide ((100 : Int) < (nk : Int)) = true := ltT (by omega)
    have HC := Lib.hid h1
    clear h1
    go_enter Tryz.func50, Tryz.ntmps50
    go_wp2
    go_ret
    exact ⟨true, rfl, ⟨fun h => (by cases h), fun h => absurd h.1 HC.out⟩, HM.out⟩


set_option maxHeartbeats 2000000 in
theorem rfits_call {sk sv sc : Option Addr} {ck cv cc : Nat} {x : Nd} (h : HasR w sc x.kids) (hs : x.short) (t : Int) :
    Calls Tryz.prog 51 #[.int .i64 t, ndV sk ck sv cv sc cc x] w fun e w' => e = .returned (.bool (Nd.fitB t x)) ∧ Mod No w w' := by
  obtain ⟨lk, lv, lc⟩ := hs
  have hm : Mod No w (w.alloc (.cells #[.slice sk x.keys.length ck, .slice sv x.vals.length cv, .slice sc x.kids.length cc, .int .u64 x.size] 117)) := (Mod.refl No w).alloc _
  have hB := (Sep.nil w).pushCells #[.slice sk x.keys.length ck, .slice sv x.vals.length cv, .slice sc x.kids.length cc, .int .u64 x.size] 117
  have HK := Lib.hid (h.mod hm)
  have HM := Lib.hid hm
  obtain ⟨W, hW⟩ : ∃ W, w.alloc (.cells #[.slice sk x.keys.length ck, .slice sv x.vals.length cv, .slice sc x.kids.length cc, .int .u64 x.size] 117) = W := ⟨_, rfl⟩
  have hi := rdegree_call t W
  rw [hW] at HK HM hB
  have k0 := (hB.cell 0 rfl 0 (v := .slice sk x.keys.length ck) rfl).1
  have k1 := (hB.cell 0 rfl 1 (v := .slice sv x.vals.length cv) rfl).1
  have k2 := (hB.cell 0 rfl 2 (v := .slice sc x.kids.length cc) rfl).1
  have HR : Hid (Nd.degB t = true → 2 ≤ t ∧ t ≤ 16) := fun h => by simpa [Nd.degB] using h
  unfold ndV
  unfold ndV at *
  obtain ⟨nk, hk⟩ : ∃ n, x.keys.length = n := ⟨_, rfl⟩
  obtain ⟨nv, hv⟩ : ∃ n, x.vals.length = n := ⟨_, rfl⟩
  obtain ⟨nc, hc⟩ : ∃ n, x.kids.length = n := ⟨_, rfl⟩
  have hfit : ∀ c : Bool, (c = true ↔ (Nd.degB t = true ∧ (nk : Int) ≤ 2 * t - 1 ∧ nv = nk ∧ (nc = 0 ∨ (nc = nk + 1 ∧ (0 : Int) ∉ x.kids)))) → c = Nd.fitB t x := fun c hcd => by
    rw [Bool.eq_iff_iff, hcd]
    unfold Nd.fitB Nd.kidsB
    rw [hk, hv, hc]
    simp only [Bool.and_eq_true, decide_eq_true_eq, beq_iff_eq, Bool.or_eq_true, Bool.not_eq_true', decide_eq_false_iff_not, and_assoc]
  have HF := Lib.hid hfit
  have HC := Lib.hid hc
  rw [hk] at lk k0 hW ⊢
  rw [hv] at lv k1 hW ⊢
  rw [hc] at lc k2 hW ⊢
  obtain ⟨sz, hsz⟩ : ∃ v, x.size = v := ⟨_, rfl⟩
  rw [hsz] at hW ⊢
  obtain ⟨dg, hdg⟩ : ∃ b, Nd.degB t = b := ⟨_, rfl⟩
  rw [hdg] at hi
  have HD := Lib.hid hdg
  clear h hm hB hk hv hc hsz hfit hdg
  cases dg with
  | false =>
    go_enter Tryz.func51, Tryz.ntmps51
    go_wp2_with fail
    refine hi.mono ?_
    rintro e w' ⟨rfl, rfl⟩
    clear hi
    go_wp2
    go_ret
    exact ⟨congrArg (fun c => Ending.returned (Value.bool c)) (HF.out false ⟨(fun h => by cases h), fun h => by have h1 := h.1; rw [HD.out] at h1; cases h1⟩), HM.out⟩
  | true =>
    have hr := HR.out HD.out
    have e1 : IntKind.i64.wrap (2 * t) = 2 * t := by rw [IntKind.wrap_i64]; omega
    have e2 : IntKind.i64.wrap (2 * t - 1) = 2 * t - 1 := by rw [IntKind.wrap_i64]; omega
    by_cases h1 : (nk : Int) ≤ 2 * t - 1
    · have d1 : decide (2 * t - 1 < (nk : Int)) = false := ltF (by omega)
      have H1 := Lib.hid h1
      clear h1
      by_cases h2 : nv = nk
      · subst h2
        have d2 : ((nv : Int) != (nv : Int)) = false := bneF rfl
        by_cases h3 : nc = 0
        · have d3 : ((nc : Int) != 0) = false := bneF (by omega)
          have dL : decide ((0 : Int) < (nc : Int)) = false := ltF (by omega)
          have dL2 : decide (0 < nc) = false := decide_eq_false (by omega)
          have H3 := Lib.hid h3
          clear h3 HK
          go_enter Tryz.func51, Tryz.ntmps51
          go_wp2_with fail
          refine hi.mono ?_
          rintro e w' ⟨rfl, rfl⟩
          clear hi
          go_wp2_with fail
          go_loopw [5] (fun iv wr => iv = .int .i64 0 ∧ wr = W) (fun _ _ => 0)
          case atStart => exact ⟨rfl, rfl⟩
          case round =>
            obtain ⟨rfl, rfl⟩ := hrel
            go_wp2
            go_ret
            exact ⟨congrArg (fun c => Ending.returned (Value.bool c)) (HF.out true ⟨fun _ => ⟨HD.out, H1.out, by trivial, .inl H3.out⟩, fun _ => rfl⟩), HM.out⟩
        · have d3 : ((nc : Int) != 0) = true := bneT (by omega)
          have e3 : IntKind.i64.wrap ((nv : Int) + 1) = (nv : Int) + 1 := by rw [IntKind.wrap_i64]; omega
          by_cases h4 : nc = nv + 1
          · have d4 : ((nc : Int) != (nv : Int) + 1) = false := bneF (by omega)
            have H4 := Lib.hid (And.intro h3 h4)
            have hc100 : nc ≤ 100 := lc
            clear h3 h4
            go_enter Tryz.func51, Tryz.ntmps51
            go_wp2_with fail
            refine hi.mono ?_
            rintro e w' ⟨rfl, rfl⟩
            clear hi
            go_wp2_with fail
            go_loopw [5] (fun iv wr => ∃ k : Nat, iv = .int .i64 k ∧ k ≤ nc ∧ wr = W ∧ ∀ i, i < k → x.kids[i]? ≠ some 0) (fun iv _ => nc - (RowKit.intOf iv).toNat)
            case atStart => exact ⟨0, rfl, Nat.zero_le _, rfl, fun i hi => by omega⟩
            case round =>
              obtain ⟨k, rfl, hkc, rfl, hno⟩ := hrel
              by_cases hlt : k < nc
              · obtain ⟨v, hv⟩ : ∃ v, x.kids[k]? = some v := ⟨_, List.getElem?_eq_getElem (by rw [HC.out]; exact hlt)⟩
                obtain ⟨g, o, rfl, hcell⟩ := HK.out k v hv
                have hkn : (k : Int) < (nc : Int) := by omega
                have HNO := Lib.hid (And.intro hno hv)
                clear hno hv
                by_cases hz : v = 0
                · subst hz
                  go_wp2
                  go_ret
                  exact ⟨congrArg (fun c => Ending.returned (Value.bool c)) (HF.out false ⟨(fun h => by cases h), fun h => by
                    rcases h.2.2.2 with h | h
                    · exact absurd h H4.out.1
                    · exact absurd (List.mem_of_getElem? HNO.out.2) h.2⟩), HM.out⟩
                · have dz : (v == 0) = false := beqF hz
                  have HZ := Lib.hid hz
                  clear hz
                  go_wp2
                  go_roundw
                  case rel =>
                    refine ⟨k + 1, by go_num, by omega, by trivial, fun i hi => ?_⟩
                    by_cases e : i = k
                    · subst e
                      rw [HNO.out.2]
                      exact fun h => HZ.out (Option.some.inj h)
                    · exact HNO.out.1 i (by omega)
                  case measure => simp [RowKit.intOf]; omega
              · obtain rfl : k = nc := by omega
                have HNO := Lib.hid hno
                clear hno hlt
                go_wp2
                go_ret
                exact ⟨congrArg (fun c => Ending.returned (Value.bool c)) (HF.out true ⟨fun _ => ⟨HD.out, H1.out, by trivial, .inr ⟨H4.out.2, fun hm => by
                  obtain ⟨i, hi⟩ := List.mem_iff_getElem?.1 hm
                  exact HNO.out i (by rw [← HC.out]; exact (List.getElem?_eq_some_iff.1 hi).1) hi⟩⟩, fun _ => rfl⟩), HM.out⟩
          · have d4 : ((nc : Int) != (nv : Int) + 1) = true := bneT (by omega)
            have H4 := Lib.hid (And.intro h3 h4)
            clear h3 h4 HK
            go_enter Tryz.func51, Tryz.ntmps51
            go_wp2_with fail
            refine hi.mono ?_
            rintro e w' ⟨rfl, rfl⟩
            clear hi
            go_wp2
            go_ret
            exact ⟨congrArg (fun c => Ending.returned (Value.bool c)) (HF.out false ⟨(fun h => by cases h), fun h => by
              rcases h.2.2.2 with h | h
              · exact absurd h H4.out.1
              · exact absurd h.1 H4.out.2⟩), HM.out⟩
      · have d2 : ((nv : Int) != (nk : Int)) = true := bneT (by omega)
        have H2 := Lib.hid h2
        clear h2 HK
        go_enter Tryz.func51, Tryz.ntmps51
        go_wp2_with fail
        refine hi.mono ?_
        rintro e w' ⟨rfl, rfl⟩
        clear hi
        go_wp2
        go_ret
        exact ⟨congrArg (fun c => Ending.returned (Value.bool c)) (HF.out false ⟨(fun h => by cases h), fun h => absurd h.2.2.1 H2.out⟩), HM.out⟩
    · have d1 : decide (2 * t - 1 < (nk : Int)) = true := ltT (by omega)
      have H1 := Lib.hid h1
      clear h1 HK
      go_enter Tryz.func51, Tryz.ntmps51
      go_wp2_with fail
      refine hi.mono ?_
      rintro e w' ⟨rfl, rfl⟩
      clear hi
      go_wp2
      go_ret
      exact ⟨congrArg (fun c => Ending.returned (Value.bool c)) (HF.out false ⟨(fun h => by cases h), fun h => absurd h.2.1 (by have := H1.out; omega)⟩), HM.out⟩
end Go.Proofs.YtfmcddomciicdaaGreatDoor

namespace Go.Proofs.YtfmcddomciicdaaGreatDoor
open Go Go.RowKit

/-- No node. -/
abbrev nd0 : Value := .agg #[.slice none 0 0, .slice none 0 0, .slice none 0 0, .int .u64 0]

section
variable {p : Option Addr} {w : World}
theorem zbnMake (hN : NoStore p w) (t : Int) (sk : Option Addr) (nk ck : Nat) (sv : Option Addr) (nv cv : Nat) (sc : Option Addr) (nc cc : Nat) (sz : Int) :
    Calls Tryz.prog 49 #[.pointer p, .int .i64 t, .agg #[.slice sk nk ck, .slice sv nv cv, .slice sc nc cc, .int .u64 sz]] w fun e w' => e = .returned (.tuple #[.int .u64 0, .int .i64 1]) ∧ Mod No w w' := by
  have hm := (Mod.refl No w).alloc (.cells #[.slice sk nk ck, .slice sv nv cv, .slice sc nc cc, .int .u64 sz] 117)
  have hl := zstLen (hN.mod hm) 0
  have HM := Lib.hid hm
  clear hN hm
  go_enter Tryz.func49, Tryz.ntmps49
  go_wp2_with fail
  refine hl.mono ?_
  rintro e w' ⟨rfl, rfl⟩
  clear hl
  go_wp2
  go_ret2
  exact ⟨rfl, HM.out⟩
theorem zbnGet (hN : NoStore p w) (t hh : Int) :
    Calls Tryz.prog 62 #[.pointer p, .int .i64 t, .int .u64 hh] w fun e w' => e = .returned (.tuple #[nd0, .int .i64 1]) ∧ Mod No w w' := by
  have hm0 := ((((Mod.refl No w).alloc (.cells #[.pointer p] 25)).alloc (.cells #[.int .u64 hh] 45)).alloc (.cells #[.slice none 0 0, .slice none 0 0, .slice none 0 0, .int .u64 0] 117)).alloc (.cells #[.int .i64 0] 26)
  have hm1 := ((((Mod.refl No w).alloc (.cells #[.pointer p] 25)).alloc (.cells #[.int .u64 hh] 45)).alloc (.cells #[.slice none 0 0, .slice none 0 0, .slice none 0 0, .int .u64 0] 117)).alloc (.cells #[.int .i64 1] 26)
  have hl := zstLen (hN.mod hm0) 0
  have HM := Lib.hid hm1
  clear hN hm0 hm1
  go_enter Tryz.func62, Tryz.ntmps62
  go_wp2_with fail
  refine hl.mono ?_
  rintro e w' ⟨rfl, rfl⟩
  clear hl
  go_wp2
  refine bodyPost_ret (v := .tuple #[nd0, .int .i64 1]) ?_ rfl ⟨rfl, ?_⟩
  · simp [results, Tryz.f62, go_sem]
  · exact HM.out
theorem zbnPut (hN : NoStore p w) (t hh : Int) (sk : Option Addr) (nk ck : Nat) (sv : Option Addr) (nv cv : Nat) (sc : Option Addr) (nc cc : Nat) (sz : Int) :
    Calls Tryz.prog 63 #[.pointer p, .int .i64 t, .int .u64 hh, .agg #[.slice sk nk ck, .slice sv nv cv, .slice sc nc cc, .int .u64 sz]] w fun e w' => e = .returned (.int .i64 1) ∧ Mod No w w' := by
  have hm := (((Mod.refl No w).alloc (.cells #[.pointer p] 25)).alloc (.cells #[.int .u64 hh] 45)).alloc (.cells #[.slice sk nk ck, .slice sv nv cv, .slice sc nc cc, .int .u64 sz] 117)
  have hl := zstLen (hN.mod hm) 0
  have HM := Lib.hid hm
  clear hN hm
  go_enter Tryz.func63, Tryz.ntmps63
  go_wp2_with fail
  refine hl.mono ?_
  rintro e w' ⟨rfl, rfl⟩
  clear hl
  go_wp2
  go_ret
  exact ⟨rfl, HM.out⟩
theorem zbnDrop (hN : NoStore p w) (t hh : Int) : Calls Tryz.prog 64 #[.pointer p, .int .i64 t, .int .u64 hh] w fun e w' => e = .returned (.int .i64 1) ∧ Mod No w w' := by
  have hl := zbnGet hN t hh
  clear hN
  go_enter Tryz.func64, Tryz.ntmps64
  go_wp2_with fail
  refine hl.mono ?_
  rintro e w' ⟨rfl, hm⟩
  clear hl
  go_wp2
  go_ret
  exact ⟨rfl, hm.alloc _⟩
end

theorem lsame_nil (w : World) : Calls Tryz.prog 103 #[.slice none 0 0, .slice none 0 0] w fun e w' => e = .returned (.bool true) ∧ w = w' := by
  go_enter Tryz.func103, Tryz.ntmps103
  go_wp2_with fail
  go_loopw [5] (fun iv wr => iv = .int .i64 0 ∧ wr = w) (fun _ _ => 0)
  case atStart => exact ⟨rfl, rfl⟩
  case round =>
    obtain ⟨rfl, rfl⟩ := hrel
    go_wp2
    go_ret
    exact ⟨rfl, rfl⟩
theorem rsame_zero (w : World) : Calls Tryz.prog 56 #[nd0, nd0] w fun e w' => e = .returned (.bool true) ∧ Mod No w w' := by
  have hm := ((Mod.refl No w).alloc (.cells #[.slice none 0 0, .slice none 0 0, .slice none 0 0, .int .u64 0] 117)).alloc (.cells #[.slice none 0 0, .slice none 0 0, .slice none 0 0, .int .u64 0] 117)
  have hc := fun W => lsame_nil W
  have HM := Lib.hid hm
  have HC := Lib.hid hc
  clear hm hc
  go_enter Tryz.func56, Tryz.ntmps56
  go_wp2_with fail
  refine (HC.out _).mono ?_
  rintro e w' ⟨rfl, rfl⟩
  go_wp2_with fail
  refine (HC.out _).mono ?_
  rintro e w' ⟨rfl, rfl⟩
  go_wp2_with fail
  refine (HC.out _).mono ?_
  rintro e w' ⟨rfl, rfl⟩
  go_wp2
  go_ret
  exact ⟨rfl, HM.out⟩

section
variable {F0 : Nat → Prop} {w0 w : World} {Ps : List Res} {b : Nat} {m la : Int} {S : Slb} {T : HTbl} {H : List Ent} {R : List Rc}
theorem bnget_arg (h : Sep F0 w0 w Ps) (i : Nat) (hi : Ps[i]? = some (stR b m la S T)) (I : StInv S T H R) (t hh : Int) (hd : Nd.degB t = false) :
    Calls Tryz.prog 62 #[.pointer (some ⟨b, 0, none⟩), .int .i64 t, .int .u64 hh] w fun e w' => e = .returned (.tuple #[nd0, .int .i64 2]) ∧ Mod No w w' := by
  have hm0 := ((((Mod.refl No w).alloc (.cells #[.pointer (some ⟨b, 0, none⟩)] 25)).alloc (.cells #[.int .u64 hh] 45)).alloc (.cells #[.slice none 0 0, .slice none 0 0, .slice none 0 0, .int .u64 0] 117)).alloc (.cells #[.int .i64 0] 26)
  have hm1 := ((((Mod.refl No w).alloc (.cells #[.pointer (some ⟨b, 0, none⟩)] 25)).alloc (.cells #[.int .u64 hh] 45)).alloc (.cells #[.slice none 0 0, .slice none 0 0, .slice none 0 0, .int .u64 0] 117)).alloc (.cells #[.int .i64 2] 26)
  have hl := stlen_call (h.more hm0) i hi I (hh := 0) (by omega) (.stale T.at_zero)
  have hs := fun W => is_call t W
  rw [hd] at hs
  have HM := Lib.hid hm1
  have HSS := Lib.hid hs
  clear h hi I hm0 hm1 hd hs
  go_enter Tryz.func62, Tryz.ntmps62
  go_wp2_with fail
  refine hl.mono ?_
  rintro e w' ⟨rfl, rfl⟩
  clear hl
  go_wp2_with fail
  refine (HSS.out _).mono ?_
  rintro e w' ⟨rfl, rfl⟩
  go_wp2
  refine bodyPost_ret (v := .tuple #[nd0, .int .i64 2]) ?_ rfl ⟨rfl, ?_⟩
  · simp [results, Tryz.f62, go_sem]
  · exact HM.out
theorem bnget_stale (h : Sep F0 w0 w Ps) (i : Nat) (hi : Ps[i]? = some (stR b m la S T)) (I : StInv S T H R) (t : Int) (hd : Nd.degB t = true) :
    Calls Tryz.prog 62 #[.pointer (some ⟨b, 0, none⟩), .int .i64 t, .int .u64 0] w fun e w' => e = .returned (.tuple #[nd0, .int .i64 7]) ∧ Mod No w w' := by
  have hm0 := ((((Mod.refl No w).alloc (.cells #[.pointer (some ⟨b, 0, none⟩)] 25)).alloc (.cells #[.int .u64 0] 45)).alloc (.cells #[.slice none 0 0, .slice none 0 0, .slice none 0 0, .int .u64 0] 117)).alloc (.cells #[.int .i64 0] 26)
  have hm1 := ((((Mod.refl No w).alloc (.cells #[.pointer (some ⟨b, 0, none⟩)] 25)).alloc (.cells #[.int .u64 0] 45)).alloc (.cells #[.slice none 0 0, .slice none 0 0, .slice none 0 0, .int .u64 0] 117)).alloc (.cells #[.int .i64 7] 26)
  have hl := stlen_call (h.more hm0) i hi I (hh := 0) (by omega) (.stale T.at_zero)
  have hs := fun W => is_call t W
  rw [hd] at hs
  have HM := Lib.hid hm1
  have HSS := Lib.hid hs
  have HL := Lib.hid hl
  clear h hi I hm0 hm1 hd hs hl
  go_enter Tryz.func62, Tryz.ntmps62
  go_wp2_with fail
  refine HL.out.mono ?_
  rintro e w' ⟨rfl, rfl⟩
  go_wp2_with fail
  refine (HSS.out _).mono ?_
  rintro e w' ⟨rfl, rfl⟩
  go_wp2_with fail
  refine HL.out.mono ?_
  rintro e w' ⟨rfl, rfl⟩
  go_wp2
  refine bodyPost_ret (v := .tuple #[nd0, .int .i64 7]) ?_ rfl ⟨rfl, ?_⟩
  · simp [results, Tryz.f62, go_sem]
  · exact HM.out
end
end Go.Proofs.YtfmcddomciicdaaGreatDoor

namespace Go.Proofs.YtfmcddomciicdaaGreatDoor
open Go Go.RowKit

namespace Nd
def prs (x : Nd) (n : Nat) : List Int := (List.range n).flatMap fun i => [x.keys.getD i 0, x.vals.getD i 0]
def kds (x : Nd) (n : Nat) : List Int := (List.range n).map fun i => x.kids.getD i 0
/-- What the document lays: the head, some pairs, some kids. -/
def rw1 (x : Nd) (n : Nat) : List Int := [(x.keys.length : Int), x.size] ++ prs x n
def rw2 (t : Nat) (x : Nd) (n : Nat) : List Int := rw1 x (2 * t - 1) ++ kds x n
theorem prs_succ (x : Nd) (n : Nat) : prs x (n + 1) = prs x n ++ [x.keys.getD n 0, x.vals.getD n 0] := by
  unfold prs
  rw [List.range_succ, List.flatMap_append]
  rfl
theorem kds_succ (x : Nd) (n : Nat) : kds x (n + 1) = kds x n ++ [x.kids.getD n 0] := by
  unfold kds
  rw [List.range_succ, List.map_append]
  rfl
theorem prs_len (x : Nd) : ∀ n, (prs x n).length = 2 * n
  | 0 => rfl
  | n + 1 => by rw [prs_succ, List.length_append, prs_len x n]; rfl
theorem kds_len (x : Nd) (n : Nat) : (kds x n).length = n := by simp [kds]
theorem rw1_len (x : Nd) (n : Nat) : (rw1 x n).length = 2 + 2 * n := by unfold rw1; rw [List.length_append, prs_len]; rfl
theorem rw1_succ (x : Nd) (n : Nat) : rw1 x (n + 1) = rw1 x n ++ [x.keys.getD n 0, x.vals.getD n 0] := by unfold rw1; rw [prs_succ, List.append_assoc]
theorem rw2_succ (t : Nat) (x : Nd) (n : Nat) : rw2 t x (n + 1) = rw2 t x n ++ [x.kids.getD n 0] := by unfold rw2; rw [kds_succ, List.append_assoc]
theorem rw2_len (t : Nat) (ht : 1 ≤ t) (x : Nd) (n : Nat) : (rw2 t x n).length = 4 * t + n := by unfold rw2; rw [List.length_append, rw1_len, kds_len]; omega
theorem wK_eq {t : Nat} (x : Nd) : ∀ k, 2 + 2 * k ≤ 6 * t → wK t x k = rw1 x k ++ List.replicate (6 * t - (2 + 2 * k)) 0
  | 0, h => by
    unfold wK w0 rw1 prs
    obtain ⟨m, hm⟩ : ∃ m, 6 * t = m + 2 := ⟨6 * t - 2, by omega⟩
    rw [hm, show m + 2 - (2 + 2 * 0) = m by omega, List.replicate_succ, List.replicate_succ]
    rfl
  | k + 1, h => by
    unfold wK
    rw [wK_eq x k (by omega)]
    obtain ⟨m, hm⟩ : ∃ m, 6 * t - (2 + 2 * k) = m + 2 := ⟨6 * t - (2 + 2 * k) - 2, by omega⟩
    rw [hm, show 6 * t - (2 + 2 * (k + 1)) = m by omega, List.replicate_succ, List.replicate_succ, List.set_append_right _ _ (by rw [rw1_len]; omega), rw1_len,
      show 2 + 2 * k - (2 + 2 * k) = 0 by omega, List.set_cons_zero, List.set_append_right _ _ (by rw [rw1_len]; omega), rw1_len, show 2 + 2 * k + 1 - (2 + 2 * k) = 1 by omega, List.set_cons_succ, List.set_cons_zero, rw1_succ, List.append_assoc]
    rfl
theorem rw1_pad (x : Nd) (hv : x.vals.length = x.keys.length) : ∀ d, rw1 x (x.keys.length + d) = rw1 x x.keys.length ++ List.replicate (2 * d) 0
  | 0 => by simp
  | d + 1 => by
    rw [← Nat.add_assoc, rw1_succ, rw1_pad x hv d, List.append_assoc]
    congr 1
    have h1 : x.keys.getD (x.keys.length + d) 0 = 0 := by rw [List.getD_eq_getElem?_getD, List.getElem?_eq_none (by omega)]; rfl
    have h2 : x.vals.getD (x.keys.length + d) 0 = 0 := by rw [List.getD_eq_getElem?_getD, List.getElem?_eq_none (by omega)]; rfl
    rw [h1, h2, show 2 * (d + 1) = 2 * d + 2 by omega, ← List.replicate_append_replicate]
    rfl
theorem kds_pad (x : Nd) : ∀ d, kds x (x.kids.length + d) = kds x x.kids.length ++ List.replicate d 0
  | 0 => by simp
  | d + 1 => by
    rw [← Nat.add_assoc, kds_succ, kds_pad x d, List.append_assoc]
    congr 1
    have h1 : x.kids.getD (x.kids.length + d) 0 = 0 := by rw [List.getD_eq_getElem?_getD, List.getElem?_eq_none (by omega)]; rfl
    rw [h1, ← List.replicate_append_replicate]
    rfl
theorem wC_eq {t : Nat} {x : Nd} (F : Fits t x) : ∀ k, k ≤ 2 * t → wC t x k = rw2 t x k ++ List.replicate (2 * t - k) 0
  | 0, _ => by
    have h1 := F.t2
    have h2 := F.keys
    unfold wC
    rw [wK_eq x _ (by omega)]
    obtain ⟨d, hd⟩ : ∃ d, 2 * t - 1 = x.keys.length + d := ⟨2 * t - 1 - x.keys.length, by omega⟩
    unfold rw2 kds
    rw [hd, rw1_pad x F.vals d, List.range_zero, List.map_nil, List.append_nil, List.append_assoc]
    congr 1
    rw [List.replicate_append_replicate]
    congr 1
    omega
  | k + 1, h => by
    have h1 := F.t2
    unfold wC
    rw [wC_eq F k (by omega)]
    obtain ⟨m, hm⟩ : ∃ m, 2 * t - k = m + 1 := ⟨2 * t - k - 1, by omega⟩
    rw [hm, show 2 * t - (k + 1) = m by omega, List.replicate_succ, List.set_append_right _ _ (by rw [rw2_len t (by omega)]; omega), rw2_len t (by omega), show 4 * t + k - (4 * t + k) = 0 by omega, List.set_cons_zero, rw2_succ, List.append_assoc]
    rfl
/-- The document's words are the program's. -/
theorem ws_eq {t : Nat} {x : Nd} (F : Fits t x) : rw2 t x (2 * t) = ws t x := by
  have h1 := F.t2
  have h2 := F.keys
  have hc : x.kids.length ≤ 2 * t := by rcases F.kids with h | h <;> omega
  unfold ws
  rw [wC_eq F _ hc]
  obtain ⟨d, hd⟩ : ∃ d, 2 * t = x.kids.length + d := ⟨2 * t - x.kids.length, by omega⟩
  unfold rw2
  rw [List.append_assoc]
  congr 1
  conv => lhs; rw [hd, kds_pad]
  congr 1
  congr 1
  omega
end Nd

theorem infoU64R : (Tryz.prog.info? 30).map (fun i => (i.zero, i.size, i.bytes)) = some (some (.int .u64 0), 1, 8) := by kernel_rfl
theorem src_two (w : World) (a b : Int) : SrcOf (w.alloc (.cells #[.int .u64 a, .int .u64 b] 30)) 1 (.slice (some ⟨w.heap.size, 0, none⟩) 2 2) 2 [.int .u64 a, .int .u64 b] :=
  srcOf_row (e := 30) (World.ownsRow_lit (base := 0) w #[.int .u64 a, .int .u64 b] 2 (Nat.zero_le _) (by unfold maxLen; omega) rfl) (fun u hu => by
    simp only [List.mem_cons, List.not_mem_nil, or_false] at hu
    rcases hu with rfl | rfl <;> rfl)
abbrev rwR (lv : Value) (n : Nat) (l : List Int) : Res := rowAt 30 1 lv n (l.map (Value.int .u64))


set_option maxRecDepth 100000 in
set_option maxHeartbeats 4000000 in
theorem rwords_call {sk sv sc : Option Addr} {ck cv cc : Nat} {x : Nd} {w : World} (h : NdAt w sk sv sc x) (hs : x.short) {t : Nat} (F : Nd.Fits t x) :
    Calls Tryz.prog 53 #[.int .i64 (t : Nat), ndV sk ck sv cv sc cc x] w fun e w' => ∃ sa cap, e = .returned (.slice sa (6 * t) cap) ∧ Sep No w w' [rwR (.slice sa (6 * t) cap) (6 * t) (Nd.ws t x)] := by
  have HX := Lib.hid (And.intro h F)
  have ht2 := F.t2
  have ht16 := F.t16
  obtain ⟨nk, hk⟩ : ∃ n, x.keys.length = n := ⟨_, rfl⟩
  have hv : x.vals.length = nk := F.vals.trans hk
  obtain ⟨nc, hc⟩ : ∃ n, x.kids.length = n := ⟨_, rfl⟩
  obtain ⟨sz, hsz⟩ : ∃ v, x.size = v := ⟨_, rfl⟩
  have hV : ndV sk ck sv cv sc cc x = .agg #[.slice sk nk ck, .slice sv nk cv, .slice sc nc cc, .int .u64 sz] := by unfold ndV; rw [hk, hv, hc, hsz]
  rw [hV]
  have hlk : nk ≤ 100 := by rw [← hk]; exact hs.1
  have hlc : nc ≤ 100 := by rw [← hc]; exact hs.2.2
  have HL := Lib.hid (And.intro hk (And.intro hv (And.intro hc hsz)))
  have h1 := (Sep.nil w).pushCells #[.slice sk nk ck, .slice sv nk cv, .slice sc nc cc, .int .u64 sz] 117
  obtain ⟨B, hB⟩ : ∃ B, w.heap.size = B := ⟨_, rfl⟩
  have h2 : Sep No w ((w.alloc (.cells #[.slice sk nk ck, .slice sv nk cv, .slice sc nc cc, .int .u64 sz] 117)).alloc (.cells #[.int .u64 (nk : Int), .int .u64 sz] 30)) [cellsAt B #[.slice sk nk ck, .slice sv nk cv, .slice sc nc cc, .int .u64 sz] 117, rwR (.slice (some ⟨B + 1, 0, none⟩) 2 2) 2 (Nd.rw1 x 0)] := by
    rw [hB] at h1
    have h1 : Sep No w (w.alloc (.cells #[.slice sk nk ck, .slice sv nk cv, .slice sc nc cc, .int .u64 sz] 117)) [cellsAt B #[.slice sk nk ck, .slice sv nk cv, .slice sc nc cc, .int .u64 sz] 117] := h1
    have e1 : (w.alloc (.cells #[.slice sk nk ck, .slice sv nk cv, .slice sc nc cc, .int .u64 sz] 117)).heap.size = B + 1 := by simp [hB]
    have := h1.push (rowAt 30 1 (.slice (some ⟨B + 1, 0, none⟩) 2 2) 2 [.int .u64 (nk : Int), .int .u64 sz]) (fun k => (Value.slice (some ⟨B + 1, 0, none⟩) 2 2).ownBlock = some k) ⟨by
      have := World.ownsRow_lit (base := 0) (size := 1) (e := 30) (w.alloc (.cells #[.slice sk nk ck, .slice sv nk cv, .slice sc nc cc, .int .u64 sz] 117)) #[.int .u64 (nk : Int), .int .u64 sz] 2 (Nat.zero_le _) (by unfold maxLen; omega) rfl
      rw [e1] at this
      exact this, rfl⟩ ((Mod.refl No _).alloc (.cells #[.int .u64 (nk : Int), .int .u64 sz] 30)) (fun k hk => by
      simp only [Value.ownBlock, Option.some.injEq] at hk
      rw [e1]
      omega)
    have e2 : (Nd.rw1 x 0).map (Value.int .u64) = [.int .u64 (nk : Int), .int .u64 sz] := by
      unfold Nd.rw1 Nd.prs
      rw [hk, hsz]
      rfl
    unfold rwR
    rw [e2]
    exact this
  have ec : IntKind.u64.wrap (nk : Int) = (nk : Int) := by rw [IntKind.wrap_u64]; omega
  have e1 : IntKind.i64.wrap (2 * (t : Int)) = 2 * (t : Int) := by rw [IntKind.wrap_i64]; omega
  have e2 : IntKind.i64.wrap (2 * (t : Int) - 1) = 2 * (t : Int) - 1 := by rw [IntKind.wrap_i64]; omega
  obtain ⟨i0, hi0, hz0, hz1, hz2⟩ := info_parts infoU64R
  have HI := Lib.hid (And.intro hi0 (And.intro hz0 (And.intro hz1 hz2)))
  have H2 := Lib.hid h2
  clear h F hs hk hv hc hsz hV h1 h2 hi0 hz0 hz1 hz2
  go_enter Tryz.func53, Tryz.ntmps53
  go_wp2_with fail
  go_loopw [5, 6] (fun lv iv wr => ∃ k : Nat, iv = .int .i64 k ∧ k ≤ 2 * t - 1 ∧ Sep No w wr [cellsAt B #[.slice sk nk ck, .slice sv nk cv, .slice sc nc cc, .int .u64 sz] 117, rwR lv (2 + 2 * k) (Nd.rw1 x k)]) (fun _ iv _ => 2 * t - 1 - (RowKit.intOf iv).toNat)
  case atStart => exact ⟨0, rfl, Nat.zero_le _, H2.out⟩
  case round =>
    obtain ⟨k, rfl, hk, h⟩ := hrel
    clear H2
    obtain ⟨sl, cl, rfl⟩ := h.form 1 rfl
    have p0 := (h.cell 0 rfl 0 (v := .slice sk nk ck) rfl).1
    have p1 := (h.cell 0 rfl 1 (v := .slice sv nk cv) rfl).1
    have p2 := (h.cell 0 rfl 2 (v := .slice sc nc cc) rfl).1
    by_cases hlt : k < 2 * t - 1
    · have dI : decide ((k : Int) < 2 * (t : Int) - 1) = true := ltT (by omega)
      obtain ⟨hi0, hz0, hz1, hz2⟩ := HI.out
      have hkb : k ≤ 31 := by omega
      have HK1 : Hid (k + 1 ≤ 2 * t - 1 ∧ 2 * t - 1 - (k + 1) < 2 * t - 1 - k) := by exact Lib.hid ⟨by omega, by omega⟩
      by_cases hkk : k < nk
      · have dK : decide ((k : Int) < (nk : Int)) = true := ltT (by omega)
        obtain ⟨kx, hkx⟩ : ∃ v, x.keys[k]? = some v := ⟨_, List.getElem?_eq_getElem (by rw [HL.out.1]; exact hkk)⟩
        obtain ⟨vx, hvx⟩ : ∃ v, x.vals[k]? = some v := ⟨_, List.getElem?_eq_getElem (by rw [HL.out.2.1]; exact hkk)⟩
        obtain ⟨gk, ok, rfl, ck0⟩ := HX.out.1.keys k kx hkx
        obtain ⟨gv, ov, rfl, cv0⟩ := HX.out.1.vals k vx hvx
        have q0 := h.mod.cell ck0 (fun x => x)
        have q1 := h.mod.cell cv0 (fun x => x)
        have hki : (k : Int) < (nk : Int) := by omega
        have hg0 : x.keys.getD k 0 = kx := by rw [List.getD_eq_getElem?_getD, hkx]; rfl
        have hg1 : x.vals.getD k 0 = vx := by rw [List.getD_eq_getElem?_getD, hvx]; rfl
        have hA := (h.drew).alloc (.cells #[.int .u64 kx, .int .u64 vx] 30)
        have hsrc := src_two wr.drew kx vx
        have HG := Lib.hid (And.intro hg0 hg1)
        have HR2 := Lib.hid (And.intro (hA.cell 0 rfl 0 (v := .slice (some ⟨gk, ok, none⟩) nk ck) rfl).1 (And.intro (hA.cell 0 rfl 1 (v := .slice (some ⟨gv, ov, none⟩) nk cv) rfl).1 (And.intro (hA.mod.cell ck0 (fun x => x)) (hA.mod.cell cv0 (fun x => x)))))
        have HC := Lib.hid (And.intro ck0 cv0)
        clear h hlt hkk hkx hvx ck0 cv0 hg0 hg1 p2
        go_wp2_with fail
        refine wp_region_held_drew (S := fun w' => w'.cell? ⟨B, 0, none⟩ = some (.slice (some ⟨gk, ok, none⟩) nk ck) ∧ w'.cell? ⟨B, 1, none⟩ = some (.slice (some ⟨gv, ov, none⟩) nk cv) ∧ w'.cell? ⟨gk, ok + k, none⟩ = some (.int .u64 kx) ∧ w'.cell? ⟨gv, ov + k, none⟩ = some (.int .u64 vx)) (by kernel_rfl) ⟨p0, p1, q0, q1⟩ (fun hHeld => ?_)
        clear p0 p1 q0 q1
        refine wpAnyH_takeD (i := 0) (v := ?_) (some 27) rfl (by rfl) (by kernel_rfl) (by kernel_rfl) (by kernel_rfl) (fun _ _ _ h => h) (Or.inl ⟨by rfl, ?_⟩) (by assumption) ?_
        rotate_left
        · intro w hSw
          try dsimp only at hSw
          go_simp
          try with_reducible rfl
        simp only [Act.put, List.setIfInBounds_toArray, List.set_cons_zero, List.set_cons_succ]
        refine wpAnyH_takeD (i := 1) (v := ?_) (some 28) rfl (by rfl) (by kernel_rfl) (by kernel_rfl) (by kernel_rfl) (fun _ _ _ h => h) (Or.inl ⟨by rfl, ?_⟩) (by assumption) ?_
        rotate_left
        · intro w hSw
          try dsimp only at hSw
          go_simp
          try with_reducible rfl
        simp only [Act.put, List.setIfInBounds_toArray, List.set_cons_zero, List.set_cons_succ]
        refine wpAnyH_takeD (i := 2) (v := ?_) (some 29) rfl (by rfl) (by kernel_rfl) (by kernel_rfl) (by kernel_rfl) (fun _ _ _ h => h) (Or.inl ⟨by rfl, ?_⟩) (by assumption) ?_
        rotate_left
        · intro w hSw
          try dsimp only at hSw
          go_simp
          try with_reducible rfl
        simp only [Act.put, List.setIfInBounds_toArray, List.set_cons_zero, List.set_cons_succ]
        refine wpAnyH_takeD (i := 3) (v := ?_) (some 30) rfl (by rfl) (by kernel_rfl) (by kernel_rfl) (by kernel_rfl) (fun _ _ _ h => h) (Or.inl ⟨by rfl, ?_⟩) (by assumption) ?_
        rotate_left
        · intro w hSw
          try dsimp only at hSw
          go_simp
          try with_reducible rfl
        simp only [Act.put, List.setIfInBounds_toArray, List.set_cons_zero, List.set_cons_succ]
        refine wpAnyH_takeD (i := 4) (v := ?_) (some 31) rfl (by rfl) (by kernel_rfl) (by kernel_rfl) (by kernel_rfl) (fun _ _ _ h => h) (Or.inl ⟨by rfl, ?_⟩) (by assumption) ?_
        rotate_left
        · intro w hSw
          try dsimp only at hSw
          go_simp
          try with_reducible rfl
        simp only [Act.put, List.setIfInBounds_toArray, List.set_cons_zero, List.set_cons_succ]
        refine wpAnyH_takeD (i := 5) (v := ?_) (some 32) rfl (by rfl) (by kernel_rfl) (by kernel_rfl) (by kernel_rfl) (fun _ _ _ h => h) (Or.inl ⟨by rfl, ?_⟩) (by assumption) ?_
        rotate_left
        · intro w hSw
          try dsimp only at hSw
          go_simp
          try with_reducible rfl
        simp only [Act.put, List.setIfInBounds_toArray, List.set_cons_zero, List.set_cons_succ]
        refine wpAnyH_takeD (i := 6) (v := ?_) (some 33) rfl (by rfl) (by kernel_rfl) (by kernel_rfl) (by kernel_rfl) (fun _ _ _ h => h) (Or.inl ⟨by rfl, ?_⟩) (by assumption) ?_
        rotate_left
        · intro w hSw
          try dsimp only at hSw
          go_simp
          try with_reducible rfl
        simp only [Act.put, List.setIfInBounds_toArray, List.set_cons_zero, List.set_cons_succ]
        refine wpAnyH_takeD (i := 7) (v := ?_) (some 34) rfl (by rfl) (by kernel_rfl) (by kernel_rfl) (by kernel_rfl) (fun _ _ _ h => h) (Or.inl ⟨by rfl, ?_⟩) (by assumption) ?_
        rotate_left
        · intro w hSw
          try dsimp only at hSw
          go_simp
          try with_reducible rfl
        simp only [Act.put, List.setIfInBounds_toArray, List.set_cons_zero, List.set_cons_succ]
        refine wpAnyH_takeD (i := 8) (v := ?_) (some 35) rfl (by rfl) (by kernel_rfl) (by kernel_rfl) (by kernel_rfl) (fun _ _ _ h => h) (Or.inl ⟨by rfl, ?_⟩) (by assumption) ?_
        rotate_left
        · intro w hSw
          try dsimp only at hSw
          go_simp
          try with_reducible rfl
        simp only [Act.put, List.setIfInBounds_toArray, List.set_cons_zero, List.set_cons_succ]
        refine wpAnyH_takeD (i := 9) (v := ?_) (some 36) rfl (by rfl) (by kernel_rfl) (by kernel_rfl) (by kernel_rfl) (fun _ _ _ h => h) (Or.inl ⟨by rfl, ?_⟩) (by assumption) ?_
        rotate_left
        · intro w hSw
          try dsimp only at hSw
          go_simp
          try with_reducible rfl
        simp only [Act.put, List.setIfInBounds_toArray, List.set_cons_zero, List.set_cons_succ]
        refine wpAnyH_takeD (i := 10) (v := ?_) (some 37) rfl (by rfl) (by kernel_rfl) (by kernel_rfl) (by kernel_rfl) (fun _ _ _ h => h) (Or.inl ⟨by rfl, ?_⟩) (by assumption) ?_
        rotate_left
        · intro w hSw
          try dsimp only at hSw
          go_simp
          try with_reducible rfl
        simp only [Act.put, List.setIfInBounds_toArray, List.set_cons_zero, List.set_cons_succ]
        refine wpAnyH_ready (rs := [11]) (by kernel_rfl) (by simp) ?_
        refine AllReadyH.cons rfl (fun K0 hK => ?_) AllReadyH.nil
        go_simp
        refine hK.out _ _ HR2.out (fun _ => ?_)
        clear hK K0
        try simp only [Act.put, List.setIfInBounds_toArray, List.set_cons_zero, List.set_cons_succ]
        refine wpAnyH_ready (rs := [12]) (by kernel_rfl) (by simp) ?_
        refine AllReadyH.cons rfl (fun K0 hK => ?_) AllReadyH.nil
        refine oper_append_src hA 1 rfl _ _ 100 (by rfl) Tryz.underlying100 hi0 hz0 hz1 hz2 rfl (by decide) (by rfl) _ (by rfl) hsrc (by unfold maxLen; omega) (by omega) ?_
        intro sb cb w3 h3
        have H3 : Hid (Sep No w w3 [cellsAt B #[.slice (some ⟨gk, ok, none⟩) nk ck, .slice (some ⟨gv, ov, none⟩) nk cv, .slice sc nc cc, .int .u64 sz] 117, rwR (.slice sb (2 + 2 * (k + 1)) cb) (2 + 2 * (k + 1)) (Nd.rw1 x (k + 1))]) := by
          rw [Nd.rw1_succ]
          unfold rwR
          rw [List.map_append]
          exact (by rw [HG.out.1, HG.out.2]; exact Lib.hid h3)
        clear h3 hA hsrc hi0 hz0 hz1 hz2
        refine hK.out _ _ ⟨(H3.out.cell 0 rfl 0 rfl).1, (H3.out.cell 0 rfl 1 rfl).1, H3.out.mod.cell HC.out.1 (fun x => x), H3.out.mod.cell HC.out.2 (fun x => x)⟩ (fun _ => ?_)
        clear hK K0
        try simp only [Act.put, List.setIfInBounds_toArray, List.set_cons_zero, List.set_cons_succ]
        refine wpAnyH_takeD (i := 13) (v := ?_) (some 5) rfl (by rfl) (by kernel_rfl) (by kernel_rfl) (by kernel_rfl) (fun _ _ _ h => h) (Or.inl ⟨by rfl, ?_⟩) (by assumption) ?_
        rotate_left
        · intro w hSw
          try dsimp only at hSw
          go_simp
          try with_reducible rfl
        simp only [Act.put, List.setIfInBounds_toArray, List.set_cons_zero, List.set_cons_succ]
        refine wpAnyH_done (by kernel_rfl) ?_ _
        go_wp2_with fail
        go_roundw
        case rel => exact ⟨k + 1, by go_num, HK1.out.1, H3.out⟩
        case measure => have := HK1.out.2; simp [RowKit.intOf]; omega
      · have dK : decide ((k : Int) < (nk : Int)) = false := ltF (by omega)
        have dK2 : decide (k < nk) = false := decide_eq_false hkk
        have hA := h.alloc (.cells #[.int .u64 0, .int .u64 0] 30)
        have hsrc := src_two wr 0 0
        have hg0 : x.keys.getD k 0 = 0 := by rw [List.getD_eq_getElem?_getD, List.getElem?_eq_none (by rw [HL.out.1]; omega)]; rfl
        have hg1 : x.vals.getD k 0 = 0 := by rw [List.getD_eq_getElem?_getD, List.getElem?_eq_none (by rw [HL.out.2.1]; omega)]; rfl
        have HG := Lib.hid (And.intro hg0 hg1)
        clear h hlt hkk hg0 hg1
        go_wp2_with (at_builtin; refine wpList_append_src hA 1 rfl (by rfl) _ _ 100 rfl Tryz.underlying100 hi0 hz0 hz1 hz2 rfl (by decide) (by rfl) _ (by rfl) hsrc (by unfold maxLen; omega) (by omega) ?_)
        intro sb cb w3 h3
        have H3 : Hid (Sep No w w3 [cellsAt B #[.slice sk nk ck, .slice sv nk cv, .slice sc nc cc, .int .u64 sz] 117, rwR (.slice sb (2 + 2 * (k + 1)) cb) (2 + 2 * (k + 1)) (Nd.rw1 x (k + 1))]) := by
          rw [Nd.rw1_succ]
          unfold rwR
          rw [List.map_append]
          exact (by rw [HG.out.1, HG.out.2]; exact Lib.hid h3)
        clear h3 hA hsrc hi0 hz0 hz1 hz2 p0 p1 p2
        go_wp2_with fail
        go_roundw
        case rel => exact ⟨k + 1, by go_num, HK1.out.1, H3.out⟩
        case measure => have := HK1.out.2; simp [RowKit.intOf]; omega
    · obtain rfl : k = 2 * t - 1 := by omega
      have dI : decide (((2 * t - 1 : Nat) : Int) < 2 * (t : Int) - 1) = false := ltF (by omega)
      have H2 : Hid (Sep No w wr [cellsAt B #[.slice sk nk ck, .slice sv nk cv, .slice sc nc cc, .int .u64 sz] 117, rwR (.slice sl (4 * t + 0) cl) (4 * t + 0) (Nd.rw2 t x 0)]) := by
        have e3 : Nd.rw2 t x 0 = Nd.rw1 x (2 * t - 1) := by unfold Nd.rw2 Nd.kds; simp
        have e4 : 4 * t + 0 = 2 + 2 * (2 * t - 1) := by omega
        rw [e3, e4]
        exact h
      have e4 : 2 + 2 * (2 * t - 1) = 4 * t + 0 := by omega
      rw [e4]
      clear h hlt hk p0 p1 p2 e4
      go_wp2_with fail
      go_loopw [5, 7] (fun lv iv wr => ∃ k : Nat, iv = .int .i64 k ∧ k ≤ 2 * t ∧ Sep No w wr [cellsAt B #[.slice sk nk ck, .slice sv nk cv, .slice sc nc cc, .int .u64 sz] 117, rwR lv (4 * t + k) (Nd.rw2 t x k)]) (fun _ iv _ => 2 * t - (RowKit.intOf iv).toNat)
      case atStart => exact ⟨0, rfl, Nat.zero_le _, H2.out⟩
      case round =>
        obtain ⟨k, rfl, hk, h⟩ := hrel
        clear H2
        obtain ⟨sl, cl, rfl⟩ := h.form 1 rfl
        have p2 := (h.cell 0 rfl 2 (v := .slice sc nc cc) rfl).1
        by_cases hlt : k < 2 * t
        · have dI : decide ((k : Int) < 2 * (t : Int)) = true := ltT (by omega)
          obtain ⟨hi0, hz0, hz1, hz2⟩ := HI.out
          have hkb : k ≤ 32 := by omega
          have HK1 : Hid (k + 1 ≤ 2 * t ∧ 2 * t - (k + 1) < 2 * t - k) := by exact Lib.hid ⟨by omega, by omega⟩
          by_cases hkk : k < nc
          · have dK : decide ((k : Int) < (nc : Int)) = true := ltT (by omega)
            obtain ⟨kx, hkx⟩ : ∃ v, x.kids[k]? = some v := ⟨_, List.getElem?_eq_getElem (by rw [HL.out.2.2.1]; exact hkk)⟩
            obtain ⟨gk, ok, rfl, ck0⟩ := HX.out.1.kids k kx hkx
            have q0 := h.mod.cell ck0 (fun x => x)
            have hki : (k : Int) < (nc : Int) := by omega
            have hg0 : x.kids.getD k 0 = kx := by rw [List.getD_eq_getElem?_getD, hkx]; rfl
            have H := Lib.hid h
            have HG := Lib.hid hg0
            clear h hlt hkk hkx ck0 hg0
            go_wp2_with (at_builtin; refine wpList_append_sep1 H.out 1 rfl (by rfl) _ _ 100 rfl Tryz.underlying100 hi0 hz0 hz1 hz2 rfl (by rfl) _ _ (by rfl) (by simp) (by rfl) _ (by unfold maxLen; omega) (by omega) ?_)
            intro g3 cb w3 h3
            have H3 : Hid (Sep No w w3 [cellsAt B #[.slice sk nk ck, .slice sv nk cv, .slice (some ⟨gk, ok, none⟩) nc cc, .int .u64 sz] 117, rwR (.slice (some ⟨g3, 0, none⟩) (4 * t + (k + 1)) cb) (4 * t + (k + 1)) (Nd.rw2 t x (k + 1))]) := by
              rw [Nd.rw2_succ, HG.out]
              unfold rwR
              rw [List.map_append]
              exact h3
            clear h3 hi0 hz0 hz1 hz2
            go_wp2_with fail
            go_roundw
            case rel => exact ⟨k + 1, by go_num, HK1.out.1, H3.out⟩
            case measure => have := HK1.out.2; simp [RowKit.intOf]; omega
          · have dK : decide ((k : Int) < (nc : Int)) = false := ltF (by omega)
            have dK2 : decide (k < nc) = false := decide_eq_false hkk
            have hg0 : x.kids.getD k 0 = 0 := by rw [List.getD_eq_getElem?_getD, List.getElem?_eq_none (by rw [HL.out.2.2.1]; omega)]; rfl
            have H := Lib.hid h
            have HG := Lib.hid hg0
            clear h hlt hkk hg0
            go_wp2_with (at_builtin; refine wpList_append_sep1 H.out 1 rfl (by rfl) _ _ 100 rfl Tryz.underlying100 hi0 hz0 hz1 hz2 rfl (by rfl) _ _ (by rfl) (by simp) (by rfl) _ (by unfold maxLen; omega) (by omega) ?_)
            intro g3 cb w3 h3
            have H3 : Hid (Sep No w w3 [cellsAt B #[.slice sk nk ck, .slice sv nk cv, .slice sc nc cc, .int .u64 sz] 117, rwR (.slice (some ⟨g3, 0, none⟩) (4 * t + (k + 1)) cb) (4 * t + (k + 1)) (Nd.rw2 t x (k + 1))]) := by
              rw [Nd.rw2_succ, HG.out]
              unfold rwR
              rw [List.map_append]
              exact h3
            clear h3 hi0 hz0 hz1 hz2
            go_wp2_with fail
            go_roundw
            case rel => exact ⟨k + 1, by go_num, HK1.out.1, H3.out⟩
            case measure => have := HK1.out.2; simp [RowKit.intOf]; omega
        · obtain rfl : k = 2 * t := by omega
          have dI : decide (((2 * t : Nat) : Int) < 2 * (t : Int)) = false := ltF (by omega)
          have H3 : Hid (Sep No w wr [rwR (.slice sl (6 * t) cl) (6 * t) (Nd.ws t x)]) := by
            have e4 : 4 * t + 2 * t = 6 * t := by omega
            rw [← Nd.ws_eq HX.out.2, ← e4]
            exact Sep.right (Ps := [_]) h
          clear h hlt hk p2
          go_wp2_with fail
          go_ret
          exact ⟨sl, cl, by have e4 : 4 * t + 2 * t = 6 * t := by omega
                            rw [e4]; rfl, H3.out⟩
end Go.Proofs.YtfmcddomciicdaaGreatDoor
