/- Package bnode, walked: without a store; Get of nothing; the document's Same of nothing. Conditions: there is no store; or the store's records are as said. -/
import Derived.Test.YtfmcddomciicdaaGreatDoorBnodeRef
import Derived.Test.YtfmcddomciicdaaGreatDoorBnodeA
import Derived.Test.YtfmcddomciicdaaGreatDoorStoreNil2
set_option linter.unusedVariables false
set_option linter.unusedSimpArgs false
set_option maxRecDepth 100000
namespace Go.Proofs.YtfmcddomciicdaaGreatDoor
open Go Go.RowKit

/-- No node. -/
abbrev nd0 : Value := .agg #[.slice none 0 0, .slice none 0 0, .slice none 0 0, .int .u64 0]

section
variable {p : Option Addr} {w : World}
theorem zbnMake (hN : NoStore p w) (t : Int) (sk : Option Addr) (nk ck : Nat) (sv : Option Addr) (nv cv : Nat) (sc : Option Addr) (nc cc : Nat) (sz : Int) :
    Calls Tryz.prog 49 #[.pointer p, .int .i64 t, .agg #[.slice sk nk ck, .slice sv nv cv, .slice sc nc cc, .int .u64 sz]] w fun e w' => e = .returned (.tuple #[.int .u64 0, .int .i64 1]) ∧ Mod No w w' := by
  have hm := (Mod.refl No w).alloc (.cells #[.slice sk nk ck, .slice sv nv cv, .slice sc nc cc, .int .u64 sz] 117)
  have hl := zstLen (hN.mod hm) 0
  have HM := Lib.hid hm
  clear hN hm
  go_enter Tryz.func49, Tryz.ntmps49
  go_wp2_with fail
  refine hl.mono ?_
  rintro e w' ⟨rfl, rfl⟩
  clear hl
  go_wp2
  go_ret2
  exact ⟨rfl, HM.out⟩
theorem zbnGet (hN : NoStore p w) (t hh : Int) :
    Calls Tryz.prog 62 #[.pointer p, .int .i64 t, .int .u64 hh] w fun e w' => e = .returned (.tuple #[nd0, .int .i64 1]) ∧ Mod No w w' := by
  have hm0 := ((((Mod.refl No w).alloc (.cells #[.pointer p] 25)).alloc (.cells #[.int .u64 hh] 45)).alloc (.cells #[.slice none 0 0, .slice none 0 0, .slice none 0 0, .int .u64 0] 117)).alloc (.cells #[.int .i64 0] 26)
  have hm1 := ((((Mod.refl No w).alloc (.cells #[.pointer p] 25)).alloc (.cells #[.int .u64 hh] 45)).alloc (.cells #[.slice none 0 0, .slice none 0 0, .slice none 0 0, .int .u64 0] 117)).alloc (.cells #[.int .i64 1] 26)
  have hl := zstLen (hN.mod hm0) 0
  have HM := Lib.hid hm1
  clear hN hm0 hm1
  go_enter Tryz.func62, Tryz.ntmps62
  go_wp2_with fail
  refine hl.mono ?_
  rintro e w' ⟨rfl, rfl⟩
  clear hl
  go_wp2
  refine bodyPost_ret (v := .tuple #[nd0, .int .i64 1]) ?_ rfl ⟨rfl, ?_⟩
  · simp [results, Tryz.f62, go_sem]
  · exact HM.out
theorem zbnPut (hN : NoStore p w) (t hh : Int) (sk : Option Addr) (nk ck : Nat) (sv : Option Addr) (nv cv : Nat) (sc : Option Addr) (nc cc : Nat) (sz : Int) :
    Calls Tryz.prog 63 #[.pointer p, .int .i64 t, .int .u64 hh, .agg #[.slice sk nk ck, .slice sv nv cv, .slice sc nc cc, .int .u64 sz]] w fun e w' => e = .returned (.int .i64 1) ∧ Mod No w w' := by
  have hm := (((Mod.refl No w).alloc (.cells #[.pointer p] 25)).alloc (.cells #[.int .u64 hh] 45)).alloc (.cells #[.slice sk nk ck, .slice sv nv cv, .slice sc nc cc, .int .u64 sz] 117)
  have hl := zstLen (hN.mod hm) 0
  have HM := Lib.hid hm
  clear hN hm
  go_enter Tryz.func63, Tryz.ntmps63
  go_wp2_with fail
  refine hl.mono ?_
  rintro e w' ⟨rfl, rfl⟩
  clear hl
  go_wp2
  go_ret
  exact ⟨rfl, HM.out⟩
theorem zbnDrop (hN : NoStore p w) (t hh : Int) : Calls Tryz.prog 64 #[.pointer p, .int .i64 t, .int .u64 hh] w fun e w' => e = .returned (.int .i64 1) ∧ Mod No w w' := by
  have hl := zbnGet hN t hh
  clear hN
  go_enter Tryz.func64, Tryz.ntmps64
  go_wp2_with fail
  refine hl.mono ?_
  rintro e w' ⟨rfl, hm⟩
  clear hl
  go_wp2
  go_ret
  exact ⟨rfl, hm.alloc _⟩
end

theorem lsame_nil (w : World) : Calls Tryz.prog 103 #[.slice none 0 0, .slice none 0 0] w fun e w' => e = .returned (.bool true) ∧ w = w' := by
  go_enter Tryz.func103, Tryz.ntmps103
  go_wp2_with fail
  go_loopw [5] (fun iv wr => iv = .int .i64 0 ∧ wr = w) (fun _ _ => 0)
  case atStart => exact ⟨rfl, rfl⟩
  case round =>
    obtain ⟨rfl, rfl⟩ := hrel
    go_wp2
    go_ret
    exact ⟨rfl, rfl⟩
theorem rsame_zero (w : World) : Calls Tryz.prog 56 #[nd0, nd0] w fun e w' => e = .returned (.bool true) ∧ Mod No w w' := by
  have hm := ((Mod.refl No w).alloc (.cells #[.slice none 0 0, .slice none 0 0, .slice none 0 0, .int .u64 0] 117)).alloc (.cells #[.slice none 0 0, .slice none 0 0, .slice none 0 0, .int .u64 0] 117)
  have hc := fun W => lsame_nil W
  have HM := Lib.hid hm
  have HC := Lib.hid hc
  clear hm hc
  go_enter Tryz.func56, Tryz.ntmps56
  go_wp2_with fail
  refine (HC.out _).mono ?_
  rintro e w' ⟨rfl, rfl⟩
  go_wp2_with fail
  refine (HC.out _).mono ?_
  rintro e w' ⟨rfl, rfl⟩
  go_wp2_with fail
  refine (HC.out _).mono ?_
  rintro e w' ⟨rfl, rfl⟩
  go_wp2
  go_ret
  exact ⟨rfl, HM.out⟩

section
variable {F0 : Nat → Prop} {w0 w : World} {Ps : List Res} {b : Nat} {m la : Int} {S : Slb} {T : HTbl} {H : List Ent} {R : List Rc}
theorem bnget_arg (h : Sep F0 w0 w Ps) (i : Nat) (hi : Ps[i]? = some (stR b m la S T)) (I : StInv S T H R) (t hh : Int) (hd : Nd.degB t = false) :
    Calls Tryz.prog 62 #[.pointer (some ⟨b, 0, none⟩), .int .i64 t, .int .u64 hh] w fun e w' => e = .returned (.tuple #[nd0, .int .i64 2]) ∧ Mod No w w' := by
  have hm0 := ((((Mod.refl No w).alloc (.cells #[.pointer (some ⟨b, 0, none⟩)] 25)).alloc (.cells #[.int .u64 hh] 45)).alloc (.cells #[.slice none 0 0, .slice none 0 0, .slice none 0 0, .int .u64 0] 117)).alloc (.cells #[.int .i64 0] 26)
  have hm1 := ((((Mod.refl No w).alloc (.cells #[.pointer (some ⟨b, 0, none⟩)] 25)).alloc (.cells #[.int .u64 hh] 45)).alloc (.cells #[.slice none 0 0, .slice none 0 0, .slice none 0 0, .int .u64 0] 117)).alloc (.cells #[.int .i64 2] 26)
  have hl := stlen_call (h.more hm0) i hi I (hh := 0) (by omega) (.stale T.at_zero)
  have hs := fun W => is_call t W
  rw [hd] at hs
  have HM := Lib.hid hm1
  have HSS := Lib.hid hs
  clear h hi I hm0 hm1 hd hs
  go_enter Tryz.func62, Tryz.ntmps62
  go_wp2_with fail
  refine hl.mono ?_
  rintro e w' ⟨rfl, rfl⟩
  clear hl
  go_wp2_with fail
  refine (HSS.out _).mono ?_
  rintro e w' ⟨rfl, rfl⟩
  go_wp2
  refine bodyPost_ret (v := .tuple #[nd0, .int .i64 2]) ?_ rfl ⟨rfl, ?_⟩
  · simp [results, Tryz.f62, go_sem]
  · exact HM.out
theorem bnget_stale (h : Sep F0 w0 w Ps) (i : Nat) (hi : Ps[i]? = some (stR b m la S T)) (I : StInv S T H R) (t : Int) (hd : Nd.degB t = true) :
    Calls Tryz.prog 62 #[.pointer (some ⟨b, 0, none⟩), .int .i64 t, .int .u64 0] w fun e w' => e = .returned (.tuple #[nd0, .int .i64 7]) ∧ Mod No w w' := by
  have hm0 := ((((Mod.refl No w).alloc (.cells #[.pointer (some ⟨b, 0, none⟩)] 25)).alloc (.cells #[.int .u64 0] 45)).alloc (.cells #[.slice none 0 0, .slice none 0 0, .slice none 0 0, .int .u64 0] 117)).alloc (.cells #[.int .i64 0] 26)
  have hm1 := ((((Mod.refl No w).alloc (.cells #[.pointer (some ⟨b, 0, none⟩)] 25)).alloc (.cells #[.int .u64 0] 45)).alloc (.cells #[.slice none 0 0, .slice none 0 0, .slice none 0 0, .int .u64 0] 117)).alloc (.cells #[.int .i64 7] 26)
  have hl := stlen_call (h.more hm0) i hi I (hh := 0) (by omega) (.stale T.at_zero)
  have hs := fun W => is_call t W
  rw [hd] at hs
  have HM := Lib.hid hm1
  have HSS := Lib.hid hs
  have HL := Lib.hid hl
  clear h hi I hm0 hm1 hd hs hl
  go_enter Tryz.func62, Tryz.ntmps62
  go_wp2_with fail
  refine HL.out.mono ?_
  rintro e w' ⟨rfl, rfl⟩
  go_wp2_with fail
  refine (HSS.out _).mono ?_
  rintro e w' ⟨rfl, rfl⟩
  go_wp2_with fail
  refine HL.out.mono ?_
  rintro e w' ⟨rfl, rfl⟩
  go_wp2
  refine bodyPost_ret (v := .tuple #[nd0, .int .i64 7]) ?_ rfl ⟨rfl, ?_⟩
  · simp [results, Tryz.f62, go_sem]
  · exact HM.out
end
end Go.Proofs.YtfmcddomciicdaaGreatDoor
