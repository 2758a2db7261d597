/- Package bnode, walked: is, Words, fits; slices.Index, Contains, All. Conditions: a node's slices hold what is said. -/
import Derived.Test.YtfmcddomciicdaaDoorBnodeSpec
import Derived.Test.YtfmcddomciicdaaDoorBlobWalk
set_option linter.unusedVariables false
set_option linter.unusedSimpArgs false
set_option maxRecDepth 100000
namespace Go.Proofs.YtfmcddomciicdaaDoor
open Go Go.RowKit

variable {F0 : Nat → Prop} {w0 w : World} {Ps : List Res}

/-- A slice's array holds these words. -/
def HasR (w : World) (s : Option Addr) (xs : List Int) : Prop := ∀ (k : Nat) (x : Int), xs[k]? = some x → ∃ g o, s = some ⟨g, o, none⟩ ∧ w.cell? ⟨g, o + k, none⟩ = some (.int .u64 x)
theorem HasR.nil (w : World) (s : Option Addr) : HasR w s [] := fun k x h => by simp at h
theorem HasR.mod {w w' : World} {s : Option Addr} {xs : List Int} (h : HasR w s xs) (hm : Mod No w w') : HasR w' s xs := fun k x hx => by
  obtain ⟨g, o, e, hc⟩ := h k x hx
  exact ⟨g, o, e, hm.cell hc (fun x => x)⟩
/-- A node's value. -/
abbrev ndV (sk : Option Addr) (ck : Nat) (sv : Option Addr) (cv : Nat) (sc : Option Addr) (cc : Nat) (x : Nd) : Value := .agg #[.slice sk x.keys.length ck, .slice sv x.vals.length cv, .slice sc x.kids.length cc, .int .u64 x.size]
structure NdAt (w : World) (sk sv sc : Option Addr) (x : Nd) : Prop where
  keys : HasR w sk x.keys
  vals : HasR w sv x.vals
  kids : HasR w sc x.kids
theorem NdAt.mod {w w' : World} {sk sv sc : Option Addr} {x : Nd} (h : NdAt w sk sv sc x) (hm : Mod No w w') : NdAt w' sk sv sc x := ⟨h.keys.mod hm, h.vals.mod hm, h.kids.mod hm⟩

theorem is_call (t : Int) (w : World) : Calls Tryd.prog 101 #[.int .i64 t] w fun e w' => e = .returned (.bool (Nd.degB t)) ∧ w = w' := by
  unfold Nd.degB
  by_cases h1 : 2 ≤ t
  · have d1 : decide (2 ≤ t) = true := leT h1
    obtain ⟨d, hd⟩ : ∃ d, decide (t ≤ 16) = d := ⟨_, rfl⟩
    rw [hd, d1]
    clear h1
    go_enter Tryd.func101, Tryd.ntmps101
    go_wp2
    go_ret
    exact ⟨rfl, rfl⟩
  · have d1 : decide (2 ≤ t) = false := leF (by omega)
    rw [d1]
    clear h1
    go_enter Tryd.func101, Tryd.ntmps101
    go_wp2
    go_ret
    exact ⟨rfl, rfl⟩

theorem bnwords_call (t : Int) (w : World) : Calls Tryd.prog 67 #[.int .i64 t] w fun e w' => e = .returned (.int .i64 (if Nd.degB t then 6 * t else 0)) ∧ w = w' := by
  have hi := is_call t w
  by_cases h : Nd.degB t = true
  · rw [if_pos h]
    rw [h] at hi
    have hr : 2 ≤ t ∧ t ≤ 16 := by simpa [Nd.degB] using h
    have e6 : IntKind.i64.wrap (6 * t) = 6 * t := by rw [IntKind.wrap_i64]; omega
    clear h
    go_enter Tryd.func67, Tryd.ntmps67
    go_wp2_with fail
    refine hi.mono ?_
    rintro e w' ⟨rfl, rfl⟩
    clear hi
    go_wp2
    go_ret
    exact ⟨by go_num, rfl⟩
  · rw [if_neg h]
    rw [Bool.not_eq_true] at h
    rw [h] at hi
    clear h
    go_enter Tryd.func67, Tryd.ntmps67
    go_wp2_with fail
    refine hi.mono ?_
    rintro e w' ⟨rfl, rfl⟩
    clear hi
    go_wp2
    go_ret
    exact ⟨rfl, rfl⟩

theorem index_call {s : Option Addr} {n c : Nat} {xs : List Int} (hn : xs.length = n) (hl : n ≤ maxLen) (h : HasR w s xs) (v : Int) :
    Calls Tryd.prog 118 #[.slice s n c, .int .u64 v] w fun e w' => (∃ k : Int, e = .returned (.int .i64 k) ∧ decide (0 ≤ k) = decide (v ∈ xs)) ∧ w = w' := by
  have hl2 : n ≤ 9223372036854775807 := by unfold maxLen at hl; omega
  have H := Lib.hid (And.intro h hn)
  clear h hn hl
  go_enter Tryd.func118, Tryd.ntmps118
  go_wp2_with fail
  go_loopw [8] (fun iv wr => ∃ k : Nat, iv = .int .i64 k ∧ k ≤ n ∧ v ∉ xs.take k ∧ w = wr) (fun iv _ => n - (RowKit.intOf iv).toNat)
  case atStart => exact ⟨0, rfl, Nat.zero_le _, (by simp : v ∉ xs.take 0), rfl⟩
  case round =>
    obtain ⟨k, rfl, hk, hno, rfl⟩ := hrel
    by_cases hlt : k < n
    · obtain ⟨x, hx⟩ : ∃ x, xs[k]? = some x := ⟨_, List.getElem?_eq_getElem (by rw [H.out.2]; exact hlt)⟩
      obtain ⟨g, o, rfl, cx⟩ := H.out.1 k x hx
      have hlt' : (k : Int) < (n : Int) := by omega
      have HX := Lib.hid (And.intro hx hno)
      clear hx hno
      by_cases he : v = x
      · have d : (v == x) = true := beqT he
        have HE := Lib.hid he
        clear he
        go_wp2
        go_ret
        refine ⟨⟨_, rfl, ?_⟩, rfl⟩
        rw [decide_eq_true (by omega : (0 : Int) ≤ (k : Int)), decide_eq_true]
        rw [HE.out]
        exact List.mem_of_getElem? HX.out.1
      · have d : (v == x) = false := beqF he
        have HE := Lib.hid he
        clear he
        go_wp2
        go_roundw
        case rel =>
          refine ⟨k + 1, by go_num, by omega, ?_, trivial⟩
          rw [List.take_add_one, HX.out.1]
          simp only [Option.toList_some, List.mem_append, List.mem_singleton, not_or]
          exact ⟨HX.out.2, HE.out⟩
        case measure => simp [RowKit.intOf]; omega
    · obtain rfl : k = n := by omega
      have HN : Hid (v ∉ xs) := by
        show v ∉ xs
        rw [List.take_of_length_le (by rw [H.out.2]; exact Nat.le_refl _)] at hno
        exact hno
      clear hno hlt
      go_wp2
      go_ret
      exact ⟨⟨_, rfl, by rw [decide_eq_false HN.out]; rfl⟩, rfl⟩

theorem contains_call {s : Option Addr} {n c : Nat} {xs : List Int} (hn : xs.length = n) (hl : n ≤ maxLen) (h : HasR w s xs) (v : Int) :
    Calls Tryd.prog 102 #[.slice s n c, .int .u64 v] w fun e w' => e = .returned (.bool (decide (v ∈ xs))) ∧ w = w' := by
  have hi := index_call (c := c) hn hl h v
  clear h hn hl
  go_enter Tryd.func102, Tryd.ntmps102
  go_wp2_with fail
  refine hi.mono ?_
  rintro e w' ⟨⟨k, rfl, hk⟩, rfl⟩
  have HK := Lib.hid hk
  clear hi hk
  go_wp2
  go_ret
  exact ⟨by rw [← HK.out]; rfl, rfl⟩
end Go.Proofs.YtfmcddomciicdaaDoor
