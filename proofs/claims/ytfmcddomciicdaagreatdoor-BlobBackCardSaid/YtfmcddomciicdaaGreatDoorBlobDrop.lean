/- Package blob, walked: Drop. Conditions: the store's records are as said; a blob's text is of at most 1000 bytes. -/
import Derived.Test.YtfmcddomciicdaaGreatDoorBlobWalk
import Derived.Test.YtfmcddomciicdaaGreatDoorApartSpec
set_option linter.unusedVariables false
set_option linter.unusedSimpArgs false
set_option maxRecDepth 100000
namespace Go.Proofs.YtfmcddomciicdaaGreatDoor
open Go Go.RowKit

variable {F0 : Nat → Prop} {w0 w : World} {Ps : List Res}
section
variable {b : Nat} {m la : Int} {S S' : Slb} {T T' : HTbl} {H H' : List Ent} {R R' : List Rc}
theorem bdrop_no (h : Sep F0 w0 w Ps) (i : Nat) (hi : Ps[i]? = some (stR b m la S T)) (I : StInv S T H R) {hh : Int} (h0 : 0 ≤ hh ∧ hh < 18446744073709551616) (e : T.at' hh = (0, 7)) :
    Calls Tryz.prog 61 #[.pointer (some ⟨b, 0, none⟩), .int .u64 hh] w fun e w' => e = .returned (.int .i64 7) ∧ w = w' := by
  have hg := bget_no h i hi I h0 e
  clear h I hi e h0
  go_enter Tryz.func61, Tryz.ntmps61
  go_wp2_with fail
  refine hg.mono ?_
  rintro e w' ⟨rfl, rfl⟩
  clear hg
  go_wp2
  go_ret
  exact ⟨rfl, rfl⟩
theorem bdrop_ok (h : Sep F0 w0 w Ps) (i : Nat) (hi : Ps[i]? = some (stR b m la S T)) (I : StInv S T H R) {hh : Int} (h0 : 0 ≤ hh ∧ hh < 18446744073709551616) {j : Nat} {r : Rc} (L : Rec R hh j r) {s : ByteArray} (hs : s.size ≤ 1000) (hw : r.w = Txt.tw s) (D : Drops S T H R hh 0 S' T' H' R') :
    Calls Tryz.prog 61 #[.pointer (some ⟨b, 0, none⟩), .int .u64 hh] w fun e w' => e = .returned (.int .i64 0) ∧ Sep F0 w0 w' (Ps.set i (stR b m la S' T')) := by
  have hg := bget_ok h i hi I h0 L hs hw
  have HD : Hid (∀ w', Mod No w w' → Calls Tryz.prog 31 #[.pointer (some ⟨b, 0, none⟩), .int .u64 hh] w' fun e w1 => e = .returned (.int .i64 0) ∧ Sep F0 w0 w1 (Ps.set i (stR b m la S' T'))) := fun w' hm => stdrop_call (h.more hm) i hi I h0 D
  clear h I hi h0 L hs hw D
  go_enter Tryz.func61, Tryz.ntmps61
  go_wp2_with fail
  refine hg.mono ?_
  rintro e w1 ⟨rfl, hm⟩
  have hd := HD.out w1 hm
  clear hg hm HD
  go_wp2_with fail
  refine hd.mono ?_
  rintro e w2 ⟨rfl, h2⟩
  have H2 := Lib.hid h2
  clear hd h2
  go_wp2
  go_ret
  exact ⟨rfl, H2.out⟩
end
end Go.Proofs.YtfmcddomciicdaaGreatDoor
