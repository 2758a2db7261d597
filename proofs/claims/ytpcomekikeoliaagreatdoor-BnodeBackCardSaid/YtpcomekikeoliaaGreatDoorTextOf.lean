/- Package text, walked: Of a text's own words; slices.Equal of equal words. Conditions: as each says. -/
import Derived.Test.YtpcomekikeoliaaGreatDoorTextWalk
set_option linter.unusedVariables false
set_option linter.unusedSimpArgs false
set_option maxRecDepth 100000
namespace Go.Proofs.YtpcomekikeoliaaGreatDoor
open Go Go.RowKit

variable {F0 : Nat → Prop} {w0 w : World} {Ps : List Res}

theorem infoByte : (Tryz.prog.info? 5).map (fun i => (i.zero, i.size, i.bytes)) = some (some (.int .u8 0), 1, 1) := by kernel_rfl

/-- A text's first bytes. -/
def bl (s : ByteArray) (i : Nat) : List Int := (List.range i).map fun t => (Txt.byteAt s t : Int)
theorem bl_succ (s : ByteArray) (i : Nat) : bl s (i + 1) = bl s i ++ [(Txt.byteAt s i : Int)] := by unfold bl; rw [List.range_succ, List.map_append]; rfl
theorem bl_len (s : ByteArray) (i : Nat) : (bl s i).length = i := by simp [bl]
theorem bl_str (s : ByteArray) : strOfNums (bl s s.size) = s := by
  have : (bl s s.size).map (fun n => UInt8.ofNat n.toNat) = s.data.toList := by
    apply List.ext_getElem?
    intro i
    unfold bl
    rw [List.map_map, List.getElem?_map]
    by_cases h : i < s.size
    · have h' : i < s.data.size := h
      rw [List.getElem?_range h, Array.getElem?_toList, Array.getElem?_eq_getElem h']
      simp only [Option.map_some, Function.comp, Int.toNat_natCast, Option.some.injEq]
      unfold Txt.byteAt
      rw [Array.getElem?_eq_getElem h']
      simp
    · have h' : s.data.size ≤ i := by have : s.data.size = s.size := rfl; omega
      rw [List.getElem?_eq_none (by simp; omega), Array.getElem?_toList, Array.getElem?_eq_none h']
      rfl
  unfold strOfNums
  rw [this]

def OfRel (F : Nat → Prop) (w : World) (v : Value) (L : Nat) (s : ByteArray) (i : Nat) (u : Value) (wr : World) : Prop :=
  Sep F w wr [u64Row v L (Txt.tw s), rowAt 5 1 u i ((bl s i).map (Value.int .u8))]

end Go.Proofs.YtpcomekikeoliaaGreatDoor
