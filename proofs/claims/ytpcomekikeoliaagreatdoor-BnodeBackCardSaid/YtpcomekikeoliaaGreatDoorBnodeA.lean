/- The plain law of package bnode: a B-tree's node, and its words. No program stands here. No condition. | Package bnode, walked: is, Words, fits; slices.Index, Contains, All. Conditions: a node's slices hold what is said. | Package bnode, walked: fits; slices.All over words. Conditions: a node's slices hold what is said. | slices.All over words, walked: its contract. Condition: the words lie where the box says. | Package bnode, walked: words, a node's words by their places. Conditions: a node's slices hold what is said; the node fits. | Package store, walked: Put changes one cell and lays no block. And objects whose blocks lie below a bound. Conditions: the store's records are as said. | Package bnode, walked: Put and Make. Conditions: the store's records are as said; a node's slices hold what is said. | Package bnode, walked: Make. Conditions: the store's records are as said; a node's slices hold what is said; the table of math/bits holds what its initialiser lays. -/
import Derived.Test.YtpcomekikeoliaaGreatDoorGround
import Derived.Test.YtpcomekikeoliaaGreatDoorBlobWalk
import Derived.Test.YtpcomekikeoliaaGreatDoorCollect
import Derived.Test.YtpcomekikeoliaaGreatDoorHeapB
import Derived.Test.YtpcomekikeoliaaGreatDoorNodeWalk
import Derived.RangeFuncFrom
set_option linter.unusedVariables false
set_option linter.unusedSimpArgs false
set_option maxRecDepth 100000
namespace Go.Proofs.YtpcomekikeoliaaGreatDoor
open Go

/-- A node. -/
structure Nd where
  keys : List Int
  vals : List Int
  kids : List Int
  size : Int

namespace Nd
def kidsB (x : Nd) : Bool := (x.kids.length == 0) || ((x.kids.length == x.keys.length + 1) && !decide ((0 : Int) ∈ x.kids))
def degB (t : Int) : Bool := decide (2 ≤ t) && decide (t ≤ 16)
def fitB (t : Int) (x : Nd) : Bool := degB t && decide ((x.keys.length : Int) ≤ 2 * t - 1) && (x.vals.length == x.keys.length) && x.kidsB
/-- Its words: what stands when so much is laid. -/
def w0 (t : Nat) (x : Nd) : List Int := ((List.replicate (6 * t) 0).set 0 (x.keys.length : Int)).set 1 x.size
def wK (t : Nat) (x : Nd) : Nat → List Int
  | 0 => w0 t x
  | k + 1 => ((wK t x k).set (2 + 2 * k) (x.keys.getD k 0)).set (2 + 2 * k + 1) (x.vals.getD k 0)
def wC (t : Nat) (x : Nd) : Nat → List Int
  | 0 => wK t x x.keys.length
  | k + 1 => (wC t x k).set (4 * t + k) (x.kids.getD k 0)
def ws (t : Nat) (x : Nd) : List Int := wC t x x.kids.length
theorem w0_len (t : Nat) (x : Nd) : (w0 t x).length = 6 * t := by simp [w0]
theorem wK_len (t : Nat) (x : Nd) : ∀ k, (wK t x k).length = 6 * t
  | 0 => w0_len t x
  | k + 1 => by simp [wK, wK_len t x k]
theorem wC_len (t : Nat) (x : Nd) : ∀ k, (wC t x k).length = 6 * t
  | 0 => wK_len t x _
  | k + 1 => by simp [wC, wC_len t x k]
theorem ws_len (t : Nat) (x : Nd) : (ws t x).length = 6 * t := wC_len t x _
/-- All its words are words. -/
structure Ok (x : Nd) : Prop where
  keys : ∀ k ∈ x.keys, 0 ≤ k ∧ k < 18446744073709551616
  vals : ∀ k ∈ x.vals, 0 ≤ k ∧ k < 18446744073709551616
  kids : ∀ k ∈ x.kids, 0 ≤ k ∧ k < 18446744073709551616
  size : 0 ≤ x.size ∧ x.size < 18446744073709551616
theorem getD_ok {l : List Int} (h : ∀ k ∈ l, 0 ≤ k ∧ k < 18446744073709551616) (j : Nat) : 0 ≤ l.getD j 0 ∧ l.getD j 0 < 18446744073709551616 := by
  rw [List.getD_eq_getElem?_getD]
  cases e : l[j]? with
  | none => exact ⟨Int.le_refl _, by show (0 : Int) < _; omega⟩
  | some v => exact h v (List.mem_of_getElem? e)
theorem set_ok {l : List Int} (h : ∀ k ∈ l, 0 ≤ k ∧ k < 18446744073709551616) (j : Nat) {v : Int} (hv : 0 ≤ v ∧ v < 18446744073709551616) : ∀ k ∈ l.set j v, 0 ≤ k ∧ k < 18446744073709551616 := fun k hk => by
  rcases List.mem_or_eq_of_mem_set hk with h1 | rfl
  · exact h k h1
  · exact hv
theorem ws_ok {t : Nat} {x : Nd} (h : Ok x) (hl : x.keys.length < 18446744073709551616) : ∀ v ∈ ws t x, 0 ≤ v ∧ v < 18446744073709551616 := by
  have h0 : ∀ v ∈ w0 t x, 0 ≤ v ∧ v < 18446744073709551616 := set_ok (set_ok (fun v hv => by rw [List.eq_of_mem_replicate hv]; omega) _ (by omega)) _ h.size
  have hK : ∀ k, ∀ v ∈ wK t x k, 0 ≤ v ∧ v < 18446744073709551616 := fun k => by
    induction k with
    | zero => exact h0
    | succ k ih => exact set_ok (set_ok ih _ (getD_ok h.keys k)) _ (getD_ok h.vals k)
  have hC : ∀ k, ∀ v ∈ wC t x k, 0 ≤ v ∧ v < 18446744073709551616 := fun k => by
    induction k with
    | zero => exact hK _
    | succ k ih => exact set_ok ih _ (getD_ok h.kids k)
  exact hC _
end Nd
end Go.Proofs.YtpcomekikeoliaaGreatDoor

namespace Go.Proofs.YtpcomekikeoliaaGreatDoor
open Go Go.RowKit

variable {F0 : Nat → Prop} {w0 w : World} {Ps : List Res}

/-- A slice's array holds these words. -/
def HasR (w : World) (s : Option Addr) (xs : List Int) : Prop := ∀ (k : Nat) (x : Int), xs[k]? = some x → ∃ g o, s = some ⟨g, o, none⟩ ∧ w.cell? ⟨g, o + k, none⟩ = some (.int .u64 x)
theorem HasR.nil (w : World) (s : Option Addr) : HasR w s [] := fun k x h => by simp at h
theorem HasR.mod {w w' : World} {s : Option Addr} {xs : List Int} (h : HasR w s xs) (hm : Mod No w w') : HasR w' s xs := fun k x hx => by
  obtain ⟨g, o, e, hc⟩ := h k x hx
  exact ⟨g, o, e, hm.cell hc (fun x => x)⟩
/-- A node's value. -/
abbrev ndV (sk : Option Addr) (ck : Nat) (sv : Option Addr) (cv : Nat) (sc : Option Addr) (cc : Nat) (x : Nd) : Value := .agg #[.slice sk x.keys.length ck, .slice sv x.vals.length cv, .slice sc x.kids.length cc, .int .u64 x.size]
structure NdAt (w : World) (sk sv sc : Option Addr) (x : Nd) : Prop where
  keys : HasR w sk x.keys
  vals : HasR w sv x.vals
  kids : HasR w sc x.kids
theorem NdAt.mod {w w' : World} {sk sv sc : Option Addr} {x : Nd} (h : NdAt w sk sv sc x) (hm : Mod No w w') : NdAt w' sk sv sc x := ⟨h.keys.mod hm, h.vals.mod hm, h.kids.mod hm⟩

theorem is_call (t : Int) (w : World) : Calls Tryz.prog 58 #[.int .i64 t] w fun e w' => e = .returned (.bool (Nd.degB t)) ∧ w = w' := by
  unfold Nd.degB
  by_cases h1 : 2 ≤ t
  · have d1 : decide (2 ≤ t) = true := leT h1
    obtain ⟨d, hd⟩ : ∃ d, decide (t ≤ 16) = d := ⟨_, rfl⟩
    rw [hd, d1]
    clear h1
    go_enter Tryz.func58, Tryz.ntmps58
    go_wp2
    go_ret
    exact ⟨rfl, rfl⟩
  · have d1 : decide (2 ≤ t) = false := leF (by omega)
    rw [d1]
    clear h1
    go_enter Tryz.func58, Tryz.ntmps58
    go_wp2
    go_ret
    exact ⟨rfl, rfl⟩

theorem bnwords_call (t : Int) (w : World) : Calls Tryz.prog 50 #[.int .i64 t] w fun e w' => e = .returned (.int .i64 (if Nd.degB t then 6 * t else 0)) ∧ w = w' := by
  have hi := is_call t w
  by_cases h : Nd.degB t = true
  · rw [if_pos h]
    rw [h] at hi
    have hr : 2 ≤ t ∧ t ≤ 16 := by simpa [Nd.degB] using h
    have e6 : IntKind.i64.wrap (6 * t) = 6 * t := by rw [IntKind.wrap_i64]; omega
    clear h
    go_enter Tryz.func50, Tryz.ntmps50
    go_wp2_with fail
    refine hi.mono ?_
    rintro e w' ⟨rfl, rfl⟩
    clear hi
    go_wp2
    go_ret
    exact ⟨by go_num, rfl⟩
  · rw [if_neg h]
    rw [Bool.not_eq_true] at h
    rw [h] at hi
    clear h
    go_enter Tryz.func50, Tryz.ntmps50
    go_wp2_with fail
    refine hi.mono ?_
    rintro e w' ⟨rfl, rfl⟩
    clear hi
    go_wp2
    go_ret
    exact ⟨rfl, rfl⟩

theorem index_call {s : Option Addr} {n c : Nat} {xs : List Int} (hn : xs.length = n) (hl : n ≤ maxLen) (h : HasR w s xs) (v : Int) :
    Calls Tryz.prog 116 #[.slice s n c, .int .u64 v] w fun e w' => (∃ k : Int, e = .returned (.int .i64 k) ∧ decide (0 ≤ k) = decide (v ∈ xs)) ∧ w = w' := by
  have hl2 : n ≤ 9223372036854775807 := by unfold maxLen at hl; omega
  have H := Lib.hid (And.intro h hn)
  clear h hn hl
  go_enter Tryz.func116, Tryz.ntmps116
  go_wp2_with fail
  go_loopw [8] (fun iv wr => ∃ k : Nat, iv = .int .i64 k ∧ k ≤ n ∧ v ∉ xs.take k ∧ w = wr) (fun iv _ => n - (RowKit.intOf iv).toNat)
  case atStart => exact ⟨0, rfl, Nat.zero_le _, (by simp : v ∉ xs.take 0), rfl⟩
  case round =>
    obtain ⟨k, rfl, hk, hno, rfl⟩ := hrel
    by_cases hlt : k < n
    · obtain ⟨x, hx⟩ : ∃ x, xs[k]? = some x := ⟨_, List.getElem?_eq_getElem (by rw [H.out.2]; exact hlt)⟩
      obtain ⟨g, o, rfl, cx⟩ := H.out.1 k x hx
      have hlt' : (k : Int) < (n : Int) := by omega
      have HX := Lib.hid (And.intro hx hno)
      clear hx hno
      by_cases he : v = x
      · have d : (v == x) = true := beqT he
        have HE := Lib.hid he
        clear he
        go_wp2
        go_ret
        refine ⟨⟨_, rfl, ?_⟩, rfl⟩
        rw [decide_eq_true (by omega : (0 : Int) ≤ (k : Int)), decide_eq_true]
        rw [HE.out]
        exact List.mem_of_getElem? HX.out.1
      · have d : (v == x) = false := beqF he
        have HE := Lib.hid he
        clear he
        go_wp2
        go_roundw
        case rel =>
          refine ⟨k + 1, by go_num, by omega, ?_, trivial⟩
          rw [List.take_add_one, HX.out.1]
          simp only [Option.toList_some, List.mem_append, List.mem_singleton, not_or]
          exact ⟨HX.out.2, HE.out⟩
        case measure => simp [RowKit.intOf]; omega
    · obtain rfl : k = n := by omega
      have HN : Hid (v ∉ xs) := by
        show v ∉ xs
        rw [List.take_of_length_le (by rw [H.out.2]; exact Nat.le_refl _)] at hno
        exact hno
      clear hno hlt
      go_wp2
      go_ret
      exact ⟨⟨_, rfl, by rw [decide_eq_false HN.out]; rfl⟩, rfl⟩

theorem contains_call {s : Option Addr} {n c : Nat} {xs : List Int} (hn : xs.length = n) (hl : n ≤ maxLen) (h : HasR w s xs) (v : Int) :
    Calls Tryz.prog 95 #[.slice s n c, .int .u64 v] w fun e w' => e = .returned (.bool (decide (v ∈ xs))) ∧ w = w' := by
  have hi := index_call (c := c) hn hl h v
  clear h hn hl
  go_enter Tryz.func95, Tryz.ntmps95
  go_wp2_with fail
  refine hi.mono ?_
  rintro e w' ⟨⟨k, rfl, hk⟩, rfl⟩
  have HK := Lib.hid hk
  clear hi hk
  go_wp2
  go_ret
  exact ⟨by rw [← HK.out]; rfl, rfl⟩
end Go.Proofs.YtpcomekikeoliaaGreatDoor

namespace Go.Proofs.YtpcomekikeoliaaGreatDoor
open Go Go.RowKit

variable {F0 : Nat → Prop} {w0 w : World} {Ps : List Res}


set_option maxHeartbeats 2000000 in
theorem fits_call {sk sv sc : Option Addr} {ck cv cc : Nat} {x : Nd} (h : HasR w sc x.kids) (lk : x.keys.length ≤ maxLen) (lc : x.kids.length ≤ maxLen) (t : Int) :
    Calls Tryz.prog 52 #[.int .i64 t, ndV sk ck sv cv sc cc x] w fun e w' => e = .returned (.bool (Nd.fitB t x)) ∧ Mod No w w' := by
  have hm : Mod No w (w.alloc (.cells #[.slice sk x.keys.length ck, .slice sv x.vals.length cv, .slice sc x.kids.length cc, .int .u64 x.size] 54)) := (Mod.refl No w).alloc _
  have hcc := contains_call (c := cc) (n := x.kids.length) rfl lc (h.mod hm) 0
  have hi := is_call t (w.alloc (.cells #[.slice sk x.keys.length ck, .slice sv x.vals.length cv, .slice sc x.kids.length cc, .int .u64 x.size] 54))
  have HM := Lib.hid hm
  have HR : Hid (Nd.degB t = true → 2 ≤ t ∧ t ≤ 16) := fun h => by simpa [Nd.degB] using h
  unfold Nd.fitB Nd.kidsB
  unfold ndV
  obtain ⟨nk, hk⟩ : ∃ n, x.keys.length = n := ⟨_, rfl⟩
  obtain ⟨nv, hv⟩ : ∃ n, x.vals.length = n := ⟨_, rfl⟩
  obtain ⟨nc, hc⟩ : ∃ n, x.kids.length = n := ⟨_, rfl⟩
  rw [hk, hv, hc] at hcc hi HM ⊢
  rw [hk] at lk
  obtain ⟨kz, hkz⟩ : ∃ b, decide ((0 : Int) ∈ x.kids) = b := ⟨_, rfl⟩
  rw [hkz] at hcc ⊢
  obtain ⟨dg, hdg⟩ : ∃ b, Nd.degB t = b := ⟨_, rfl⟩
  rw [hdg] at hi HR ⊢
  obtain ⟨a, ha⟩ : ∃ b, decide ((nk : Int) ≤ 2 * t - 1) = b := ⟨_, rfl⟩
  rw [ha]
  obtain ⟨bq, hb⟩ : ∃ b, (nv == nk) = b := ⟨_, rfl⟩
  rw [hb]
  have hb' : ((nv : Int) == (nk : Int)) = bq := by
    rw [← hb]
    by_cases e : nv = nk
    · rw [beqT (by omega)]; exact (beq_iff_eq.2 e).symm
    · rw [beqF (by omega)]; exact (beq_eq_false_iff_ne.2 e).symm
  have hl : nk ≤ 9223372036854775807 := by unfold maxLen at lk; omega
  have hl2 : nc ≤ 9223372036854775807 := by rw [hc] at lc; unfold maxLen at lc; omega
  obtain ⟨wv, e1⟩ : ∃ v, IntKind.i64.wrap ((nk : Int) + 1) = v := ⟨_, rfl⟩
  have hwv : ((nc : Int) == wv) = (nc == nk + 1) := by
    rw [← e1, IntKind.wrap_i64]
    by_cases e : nc = nk + 1
    · rw [beqT (by omega)]; exact (beq_iff_eq.2 e).symm
    · rw [beqF (by omega)]; exact (beq_eq_false_iff_ne.2 e).symm
  obtain ⟨sz, hsz⟩ : ∃ v, x.size = v := ⟨_, rfl⟩
  rw [hsz] at hcc hi HM ⊢
  clear h lk lc hm hk hv hc hkz hdg hb hsz
  by_cases h1 : nc = 0
  · subst h1
    rw [show (0 == 0) = true from rfl, Bool.true_or]
    clear hcc hwv
    go_enter Tryz.func52, Tryz.ntmps52
    go_wp2_with fail
    cases dg with
    | false =>
      go_wp2_with fail
      refine hi.mono ?_
      rintro e w' ⟨rfl, rfl⟩
      clear hi
      go_wp2
      go_ret
      exact ⟨by simp, HM.out⟩
    | true =>
      have hr := HR.out rfl
      have e2 : IntKind.i64.wrap (2 * t) = 2 * t := by rw [IntKind.wrap_i64]; omega
      have e3 : IntKind.i64.wrap (2 * t - 1) = 2 * t - 1 := by rw [IntKind.wrap_i64]; omega
      cases a with
      | false =>
        go_wp2_with fail
        refine hi.mono ?_
        rintro e w' ⟨rfl, rfl⟩
        clear hi
        go_wp2
        go_ret
        exact ⟨by simp, HM.out⟩
      | true =>
        cases bq with
        | false =>
          go_wp2_with fail
          refine hi.mono ?_
          rintro e w' ⟨rfl, rfl⟩
          clear hi
          go_wp2
          go_ret
          exact ⟨by simp, HM.out⟩
        | true =>
          go_wp2_with fail
          refine hi.mono ?_
          rintro e w' ⟨rfl, rfl⟩
          clear hi
          go_wp2
          go_ret
          exact ⟨by simp, HM.out⟩
  · have a1 : ((nc : Int) == 0) = false := beqF (by omega)
    rw [show (nc == 0) = false by simp [h1], Bool.false_or]
    by_cases h2 : nc = nk + 1
    · have a2 : ((nc : Int) == wv) = true := by rw [hwv]; exact beq_iff_eq.2 h2
      rw [show (nc == nk + 1) = true by simp [h2], Bool.true_and]
      clear h1 h2 hwv
      cases kz with
      | true =>
        go_enter Tryz.func52, Tryz.ntmps52
        go_wp2_with fail
        refine hcc.mono ?_
        rintro e w' ⟨rfl, rfl⟩
        clear hcc
        go_wp2_with fail
        cases dg with
        | false =>
          go_wp2_with fail
          refine hi.mono ?_
          rintro e w' ⟨rfl, rfl⟩
          clear hi
          go_wp2
          go_ret
          exact ⟨by simp, HM.out⟩
        | true =>
          have hr := HR.out rfl
          have e2 : IntKind.i64.wrap (2 * t) = 2 * t := by rw [IntKind.wrap_i64]; omega
          have e3 : IntKind.i64.wrap (2 * t - 1) = 2 * t - 1 := by rw [IntKind.wrap_i64]; omega
          cases a with
          | false =>
            go_wp2_with fail
            refine hi.mono ?_
            rintro e w' ⟨rfl, rfl⟩
            clear hi
            go_wp2
            go_ret
            exact ⟨by simp, HM.out⟩
          | true =>
            cases bq with
            | false =>
              go_wp2_with fail
              refine hi.mono ?_
              rintro e w' ⟨rfl, rfl⟩
              clear hi
              go_wp2
              go_ret
              exact ⟨by simp, HM.out⟩
            | true =>
              go_wp2_with fail
              refine hi.mono ?_
              rintro e w' ⟨rfl, rfl⟩
              clear hi
              go_wp2
              go_ret
              exact ⟨by simp, HM.out⟩
      | false =>
        go_enter Tryz.func52, Tryz.ntmps52
        go_wp2_with fail
        refine hcc.mono ?_
        rintro e w' ⟨rfl, rfl⟩
        clear hcc
        go_wp2_with fail
        cases dg with
        | false =>
          go_wp2_with fail
          refine hi.mono ?_
          rintro e w' ⟨rfl, rfl⟩
          clear hi
          go_wp2
          go_ret
          exact ⟨by simp, HM.out⟩
        | true =>
          have hr := HR.out rfl
          have e2 : IntKind.i64.wrap (2 * t) = 2 * t := by rw [IntKind.wrap_i64]; omega
          have e3 : IntKind.i64.wrap (2 * t - 1) = 2 * t - 1 := by rw [IntKind.wrap_i64]; omega
          cases a with
          | false =>
            go_wp2_with fail
            refine hi.mono ?_
            rintro e w' ⟨rfl, rfl⟩
            clear hi
            go_wp2
            go_ret
            exact ⟨by simp, HM.out⟩
          | true =>
            cases bq with
            | false =>
              go_wp2_with fail
              refine hi.mono ?_
              rintro e w' ⟨rfl, rfl⟩
              clear hi
              go_wp2
              go_ret
              exact ⟨by simp, HM.out⟩
            | true =>
              go_wp2_with fail
              refine hi.mono ?_
              rintro e w' ⟨rfl, rfl⟩
              clear hi
              go_wp2
              go_ret
              exact ⟨by simp, HM.out⟩
    · have a2 : ((nc : Int) == wv) = false := by rw [hwv]; exact beq_eq_false_iff_ne.2 h2
      rw [show (nc == nk + 1) = false by simp [h2], Bool.false_and]
      clear h1 h2 hcc hwv
      go_enter Tryz.func52, Tryz.ntmps52
      go_wp2_with fail
      cases dg with
      | false =>
        go_wp2_with fail
        refine hi.mono ?_
        rintro e w' ⟨rfl, rfl⟩
        clear hi
        go_wp2
        go_ret
        exact ⟨by simp, HM.out⟩
      | true =>
        have hr := HR.out rfl
        have e2 : IntKind.i64.wrap (2 * t) = 2 * t := by rw [IntKind.wrap_i64]; omega
        have e3 : IntKind.i64.wrap (2 * t - 1) = 2 * t - 1 := by rw [IntKind.wrap_i64]; omega
        cases a with
        | false =>
          go_wp2_with fail
          refine hi.mono ?_
          rintro e w' ⟨rfl, rfl⟩
          clear hi
          go_wp2
          go_ret
          exact ⟨by simp, HM.out⟩
        | true =>
          cases bq with
          | false =>
            go_wp2_with fail
            refine hi.mono ?_
            rintro e w' ⟨rfl, rfl⟩
            clear hi
            go_wp2
            go_ret
            exact ⟨by simp, HM.out⟩
          | true =>
            go_wp2_with fail
            refine hi.mono ?_
            rintro e w' ⟨rfl, rfl⟩
            clear hi
            go_wp2
            go_ret
            exact ⟨by simp, HM.out⟩
end Go.Proofs.YtpcomekikeoliaaGreatDoor

namespace Go.Proofs.YtpcomekikeoliaaGreatDoor
open Go Go.RowKit Go.Shelf

attribute [local go_sem] Oper.semAt_some

/-- A word at a place below n. -/
abbrev WordIn (n : Nat) := { p : Nat × Int // p.1 < n ∧ 0 ≤ p.2 ∧ p.2 < 18446744073709551616 }
abbrev encP {n : Nat} (p : WordIn n) : Array Value := #[.int .i64 (p.1.1 : Nat), .int .u64 p.1.2]
def pairs (xs : List Int) (k : Nat) : List (Nat × Int) := (List.range k).map fun i => (i, xs.getD i 0)
theorem pairs_succ (xs : List Int) (k : Nat) : pairs xs (k + 1) = pairs xs k ++ [(k, xs.getD k 0)] := by simp [pairs, List.range_succ]
theorem pairs_len (xs : List Int) (k : Nat) : (pairs xs k).length = k := by simp [pairs]
/-- Words put one by one. -/
def putL (w : List Int) (l : List (Nat × Int)) : List Int := l.foldl (fun w p => w.set p.1 p.2) w
theorem putL_snoc (w : List Int) (l : List (Nat × Int)) (p : Nat × Int) : putL w (l ++ [p]) = (putL w l).set p.1 p.2 := by simp [putL]
theorem putL_len (l : List (Nat × Int)) : ∀ w : List Int, (putL w l).length = w.length := by
  induction l with
  | nil => intro w; rfl
  | cons p l ih =>
    intro w
    show (putL (w.set p.1 p.2) l).length = _
    rw [ih, List.length_set]
theorem putL_pairs {xs w : List Int} (hl : xs.length = w.length) : ∀ k, k ≤ xs.length → putL w (pairs xs k) = xs.take k ++ w.drop k
  | 0, _ => by simp [putL, pairs]
  | k + 1, hk => by
    rw [pairs_succ, putL_snoc, putL_pairs hl k (by omega)]
    have hx : xs[k]? = some xs[k] := List.getElem?_eq_getElem (by omega)
    have hg : xs.getD k 0 = xs[k] := by rw [List.getD_eq_getElem?_getD, hx]; rfl
    rw [hg, List.take_add_one, hx]
    have hd : w.drop k = w[k] :: w.drop (k + 1) := List.drop_eq_getElem_cons (by omega)
    rw [hd, List.set_append_right _ _ (by simp; omega)]
    rw [show k - (xs.take k).length = 0 by rw [List.length_take]; omega, List.set_cons_zero, Option.toList_some, List.append_assoc]
    rfl
theorem putL_all {xs w : List Int} (hl : xs.length = w.length) : putL w (pairs xs xs.length) = xs := by
  rw [putL_pairs hl _ (Nat.le_refl _), List.take_length, hl, List.drop_length, List.append_nil]
/-- A box that holds a slice of these words. -/
structure AllAt (B g n : Nat) (xs : List Int) (W : World) : Prop where
  box : W.cell? ⟨B, 0, none⟩ = some (.slice (some ⟨g, 0, none⟩) n n)
  row : ∀ (k : Nat) (x : Int), xs[k]? = some x → W.cell? ⟨g, k, none⟩ = some (.int .u64 x)
theorem AllAt.below {B g n : Nat} {xs : List Int} {w W : World} (h : AllAt B g n xs w) (hb : Below w.heap.size w W) : AllAt B g n xs W :=
  ⟨(hb.cell (p := ⟨B, 0, none⟩) (World.block_lt_of_cell? w ⟨B, 0, none⟩ h.box)).trans h.box, fun k x hx => (hb.cell (p := ⟨g, k, none⟩) (World.block_lt_of_cell? w ⟨g, k, none⟩ (h.row k x hx))).trans (h.row k x hx)⟩

theorem all_call (s : Option Addr) (n c : Nat) (w : World) : Calls Tryz.prog 100 #[.slice s n c] w fun e w' => e = .returned (.func (.func 118) #[] #[.pointer (some ⟨w.heap.size, 0, none⟩)]) ∧ w.alloc (.cells #[.slice s n c] 154) = w' := by
  go_enter Tryz.func100, Tryz.ntmps100
  go_wp2
  go_ret
  exact ⟨rfl, rfl⟩

set_option maxRecDepth 100000 in
set_option maxHeartbeats 2000000 in
theorem all_stops {B g n : Nat} {xs : List Int} (hn : xs.length = n) (hl : n ≤ 1000000) (hx0 : ∀ v ∈ xs, 0 ≤ v ∧ v < 18446744073709551616) (w : World) (hP : AllAt B g n xs w) (m : Nat) (hm : 1 ≤ m) :
    SeqStopsK Fence.wide m Tryz.prog 118 #[.pointer (some ⟨B, 0, none⟩)] (encP (n := n)) (fun X Y => AllAt B g n xs X → AllAt B g n xs Y) (fun ps => ps.map (·.1) = pairs xs n) (fun pre => ∃ k, pre.map (·.1) = pairs xs k) n w := fun l J Jx W hW hJ hJx hY hJ0 => by
  have hA := hP.below hW
  have c0 := hA.box
  have HN := Lib.hid hn
  have HX0 := Lib.hid hx0
  have HY := Lib.hid hY
  have HJ0 := Lib.hid (And.intro hA hJ0)
  clear hP hW hJ hJx hY hJ0 hA hn hx0
  refine callsIn_of_wp Tryz.func118 rfl trivial ?_ rfl
  simp only [Tryz.ntmps118, List.size_toArray, List.length_cons, List.length_nil, Nat.reduceAdd, Nat.reduceSub, Array.replicate_succ, Array.replicate_zero, List.push_toArray, List.append_toArray, List.nil_append, List.cons_append]
  gi_wp2_with fail
  gi_loopw [7] (fun iv wr => ∃ (k : Nat) (pre : List (WordIn n)), k ≤ n ∧ iv = .int .i64 k ∧ pre.map (·.1) = pairs xs k ∧ J pre wr ∧ AllAt B g n xs wr) (fun iv _ => n - (RowKit.intOf iv).toNat)
  case atStart => exact ⟨0, [], Nat.zero_le _, rfl, rfl, HJ0.out.2, HJ0.out.1⟩
  case round =>
    obtain ⟨k, pre, hk, rfl, hpre, hJr, hA⟩ := hrel
    clear HJ0 c0
    by_cases hlt : k < n
    · obtain ⟨x, hx⟩ : ∃ x, xs[k]? = some x := ⟨_, List.getElem?_eq_getElem (by rw [HN.out]; exact hlt)⟩
      have cx := hA.row k x hx
      have hgd : xs.getD k 0 = x := by rw [List.getD_eq_getElem?_getD, hx]; rfl
      obtain ⟨fn, tmps, assign, body, hy, hR⟩ := HY.out pre ⟨(k, x), hlt, HX0.out x (List.mem_of_getElem? hx)⟩ wr hJr (by have := congrArg List.length hpre; rw [List.length_map, pairs_len] at this; omega)
      dsimp only [encP] at hy
      have HA := Lib.hid hA
      have HT : Hid ((pre ++ [(⟨(k, x), hlt, HX0.out x (List.mem_of_getElem? hx)⟩ : WordIn n)]).map (·.1) = pairs xs (k + 1)) := by
        show _ = _
        rw [pairs_succ, hgd, List.map_append, hpre]
        rfl
      have hlt' : (k : Int) < (n : Int) := by omega
      clear hJr hA hgd hpre
      gi_wp2
      refine hR.mono ?_
      rintro e W5 (⟨rfl, hJ5, hK5⟩ | ⟨rfl, hx5⟩)
      · have H5 := Lib.hid (And.intro hJ5 (hK5 HA.out))
        clear hJ5 hK5
        gi_wp2
        go_roundw
        case rel => exact ⟨k + 1, _, by omega, by go_num, HT.out, H5.out.1, H5.out.2⟩
        case measure => simp [RowKit.intOf]; omega
      · have H5 := Lib.hid hx5
        clear hx5
        gi_wp2
        refine bodyPost_ret (results_none rfl _ _ _) rfl ?_
        exact ⟨⟨_, rfl⟩, .inr ⟨_, ⟨k + 1, HT.out⟩, H5.out⟩⟩
    · obtain rfl : k = n := by omega
      have HQ := Lib.hid (And.intro hpre hJr)
      clear hJr hA hlt hpre
      gi_wp2
      go_end0
      exact ⟨⟨_, rfl⟩, .inl ⟨_, HQ.out.1, HQ.out.2⟩⟩
end Go.Proofs.YtpcomekikeoliaaGreatDoor

namespace Go.Proofs.YtpcomekikeoliaaGreatDoor
open Go Go.RowKit

variable {F0 : Nat → Prop} {w0 w : World} {Ps : List Res}

/-- A region, and what it leaves, said of whichever order. -/
theorem region_cut {P : Program} {id : Nat} {ops : Array Oper} {Q : Exit → Act → World → Prop} {a : Act} {w : World} (K' : Act → World → Prop) (h : (Code.region id ops true).wp P (fun e a w => match e with | .normal => K' a w | _ => False) a w) (h2 : ∀ a w, K' a w → Q .normal a w) : (Code.region id ops true).wp P Q a w :=
  wp_mono h (fun e a w q => by cases e <;> first | exact h2 _ _ q | exact q.elim)

abbrev ndCells (sk : Option Addr) (nk ck : Nat) (sv : Option Addr) (nv cv : Nat) (sc : Option Addr) (nc cc : Nat) (sz : Int) : Array Value := #[.slice sk nk ck, .slice sv nv cv, .slice sc nc cc, .int .u64 sz]
def NW (w : World) (bx : Nat) (cs : Array Value) (g n6 : Nat) (l : List Int) (wr : World) : Prop := Sep No w wr [cellsAt bx cs 54, u64Row (.slice (some ⟨g, 0, none⟩) n6 n6) n6 l]
theorem NW.set {bx : Nat} {cs : Array Value} {g n6 : Nat} {l : List Int} {W : World} (h : NW w bx cs g n6 l W) (k : Nat) (v : Int) : NW w bx cs g n6 (l.set k v) (W.setCell ⟨g, k, none⟩ (.int .u64 v)) := by
  have h2 := Sep.setItem h 1 rfl k (.int .u64 v)
  unfold NW
  show Sep No w _ [_, rowAt _ 1 _ n6 _]
  rw [List.map_set]
  exact h2
theorem NW.item {bx : Nat} {cs : Array Value} {g n6 : Nat} {l : List Int} {W : World} (h : NW w bx cs g n6 l W) (k : Nat) (hk : k < l.length) : ∃ x, W.cell? ⟨g, k, none⟩ = some (.int .u64 x) ∧ W.frozen? ⟨g, k, none⟩ = false := by
  obtain ⟨g1, eg, c, f⟩ := Sep.item h 1 rfl (o := k) (x := .int .u64 l[k]) (by rw [List.getElem?_map, List.getElem?_eq_getElem hk]; rfl)
  cases eg
  exact ⟨_, c, f k⟩
theorem NW.drew {bx : Nat} {cs : Array Value} {g n6 : Nat} {l : List Int} {W : World} (h : NW w bx cs g n6 l W) : NW w bx cs g n6 l W.drew := Sep.drew h

theorem Sep.right {F0 : Nat → Prop} {w0 w : World} {Ps Qs : List Res} (h : Sep F0 w0 w (Ps ++ Qs)) : Sep F0 w0 w Qs :=
  h.pick (fun i => Ps.length + i) (fun i hi => by rw [List.getElem?_append_right (Nat.le_add_right _ _), Nat.add_sub_cancel_left]) (fun _ _ _ _ h => by omega)

set_option maxHeartbeats 4000000 in
theorem nwords_call {sk sv sc : Option Addr} {ck cv cc : Nat} {x : Nd} (h : NdAt w sk sv sc x) {t : Nat} (ht : 2 ≤ t ∧ t ≤ 16) (hk : x.keys.length ≤ 2 * t - 1) (hv : x.vals.length = x.keys.length) (hc : x.kids.length = 0 ∨ x.kids.length = x.keys.length + 1) :
    Calls Tryz.prog 54 #[.int .i64 (t : Nat), ndV sk ck sv cv sc cc x] w fun e w' => ∃ B g : Nat, e = .returned (.func (.func 118) #[] #[.pointer (some ⟨B, 0, none⟩)]) ∧
      Sep No w w' [u64Row (.slice (some ⟨g, 0, none⟩) (6 * t) (6 * t)) (6 * t) (Nd.ws t x), cellsAt B #[.slice (some ⟨g, 0, none⟩) (6 * t) (6 * t)] 154] := by
  have hb := (Sep.nil w).pushCells #[.slice sk x.keys.length ck, .slice sv x.vals.length cv, .slice sc x.kids.length cc, .int .u64 x.size] 54
  obtain ⟨n6, hn6⟩ : ∃ n, 6 * t = n := ⟨_, rfl⟩
  obtain ⟨bx, hbx⟩ : ∃ b, w.heap.size = b := ⟨_, rfl⟩
  obtain ⟨nk, hnk⟩ : ∃ n, x.keys.length = n := ⟨_, rfl⟩
  obtain ⟨nv, hnv⟩ : ∃ n, x.vals.length = n := ⟨_, rfl⟩
  obtain ⟨nc, hnc⟩ : ∃ n, x.kids.length = n := ⟨_, rfl⟩
  obtain ⟨sz, hsz⟩ : ∃ n, x.size = n := ⟨_, rfl⟩
  obtain ⟨W1, hW1⟩ : ∃ W, w.alloc (.cells #[.slice sk nk ck, .slice sv nv cv, .slice sc nc cc, .int .u64 sz] 54) = W := ⟨_, rfl⟩
  unfold ndV
  rw [hnk, hnv, hnc, hsz] at hb ⊢
  rw [hW1, hbx] at hb
  rw [hn6]
  have hs0 : Sep No w W1 [cellsAt bx (ndCells sk nk ck sv nv cv sc nc cc sz) 54] := hb
  have HD := Lib.hid (And.intro h (And.intro hnk (And.intro hnv (And.intro hnc hsz))))
  have HT := Lib.hid hn6
  rw [hnk] at hk hv hc
  rw [hnv] at hv
  rw [hnc] at hc
  have hn : n6 ≤ 96 ∧ 12 ≤ n6 ∧ 2 + 2 * nk ≤ 4 * t ∧ 6 * t = n6 ∧ nv = nk ∧ (nc = 0 ∨ nc = nk + 1) := by omega
  have HN := Lib.hid hn
  have hnl : n6 ≤ 96 ∧ 12 ≤ n6 ∧ nk ≤ 31 := by omega
  have q0 : 0 < n6 := by omega
  have q1 : 1 < n6 := by omega
  have q1' : (1 : Int) < (n6 : Int) := by omega
  have e6 : IntKind.i64.wrap (6 * (t : Int)) = (n6 : Int) := by rw [IntKind.wrap_i64]; omega
  have ek : IntKind.u64.wrap (nk : Int) = (nk : Int) := by rw [IntKind.wrap_u64]; omega
  have hmx : Tryz.prog.follows .mixedOrders = true := by kernel_rfl
  obtain ⟨i0, hi0, hz0, hz1, hz2⟩ := info_parts infoU64
  clear hb h hk hv hc hn hnk hnv hnc hsz hn6
  go_enter Tryz.func54, Tryz.ntmps54
  go_wp2_with (at_make; refine wpList_make_sep hs0 (by rfl) _ _ 154 rfl 52 Tryz.underlying154 hi0 hz0 hz1 rfl _ _ n6 (by rfl) (by rfl) rfl rfl (by rw [hz2]; omega) (by unfold maxLen; omega) ?_)
  intro w1 h1
  obtain ⟨g, hg⟩ : ∃ x, W1.heap.size = x := ⟨_, rfl⟩
  rw [hg] at h1 ⊢
  have H1 : Hid (NW w bx (ndCells sk nk ck sv nv cv sc nc cc sz) g n6 (List.replicate n6 0) w1) := by
    show NW _ _ _ _ _ _ _
    unfold NW u64Row
    rw [List.map_replicate]
    exact h1
  clear h1 hs0 hi0 hz0 hz1 hz2 hW1 hg
  go_wp2_with fail
  have b0 := (Sep.cell H1.out.drew 0 rfl 0 (v := .slice sk nk ck) rfl).1
  have b3 := (Sep.cell H1.out.drew 0 rfl 3 (v := .int .u64 sz) rfl).1
  refine wp_region_held_drew (S := fun w' => w'.cell? ⟨bx, 0, none⟩ = some (.slice sk nk ck) ∧ w'.cell? ⟨bx, 3, none⟩ = some (.int .u64 sz)) (by kernel_rfl) ⟨b0, b3⟩ (fun hHeld => ?_)
  clear b0 b3
  refine wpAnyH_takeD (i := 0) (v := ?_) (some 12) rfl (by rfl) (by kernel_rfl) (by kernel_rfl) (by kernel_rfl) (fun _ _ _ h => h) (Or.inl ⟨by rfl, ?_⟩) (by assumption) ?_
  rotate_left
  · intro w hSw
    try dsimp only at hSw
    go_simp
    try with_reducible rfl
  simp only [Act.put, List.setIfInBounds_toArray, List.set_cons_zero, List.set_cons_succ]
  refine wpAnyH_takeD (i := 1) (v := ?_) (some 13) rfl (by rfl) (by kernel_rfl) (by kernel_rfl) (by kernel_rfl) (fun _ _ _ h => h) (Or.inl ⟨by rfl, ?_⟩) (by assumption) ?_
  rotate_left
  · intro w hSw
    try dsimp only at hSw
    go_simp
    try with_reducible rfl
  simp only [Act.put, List.setIfInBounds_toArray, List.set_cons_zero, List.set_cons_succ]
  refine wpAnyH_takeD (i := 2) (v := ?_) (some 14) rfl (by rfl) (by kernel_rfl) (by kernel_rfl) (by kernel_rfl) (fun _ _ _ h => h) (Or.inl ⟨by rfl, ?_⟩) (by assumption) ?_
  rotate_left
  · intro w hSw
    try dsimp only at hSw
    go_simp
    try with_reducible rfl
  simp only [Act.put, List.setIfInBounds_toArray, List.set_cons_zero, List.set_cons_succ]
  refine wpAnyH_takeD (i := 3) (v := ?_) (some 15) rfl (by rfl) (by kernel_rfl) (by kernel_rfl) (by kernel_rfl) (fun _ _ _ h => h) (Or.inl ⟨by rfl, ?_⟩) (by assumption) ?_
  rotate_left
  · intro w hSw
    try dsimp only at hSw
    go_simp
    try with_reducible rfl
  simp only [Act.put, List.setIfInBounds_toArray, List.set_cons_zero, List.set_cons_succ]
  refine wpAnyH_takeD (i := 4) (v := ?_) (some 16) rfl (by rfl) (by kernel_rfl) (by kernel_rfl) (by kernel_rfl) (fun _ _ _ h => h) (Or.inl ⟨by rfl, ?_⟩) (by assumption) ?_
  rotate_left
  · intro w hSw
    try dsimp only at hSw
    go_simp
    try with_reducible rfl
  simp only [Act.put, List.setIfInBounds_toArray, List.set_cons_zero, List.set_cons_succ]
  refine wpAnyH_takeD (i := 5) (v := ?_) (some 17) rfl (by rfl) (by kernel_rfl) (by kernel_rfl) (by kernel_rfl) (fun _ _ _ h => h) (Or.inl ⟨by rfl, ?_⟩) (by assumption) ?_
  rotate_left
  · intro w hSw
    try dsimp only at hSw
    go_simp
    try with_reducible rfl
  simp only [Act.put, List.setIfInBounds_toArray, List.set_cons_zero, List.set_cons_succ]
  refine wpAnyH_takeD (i := 6) (v := ?_) (some 18) rfl (by rfl) (by kernel_rfl) (by kernel_rfl) (by kernel_rfl) (fun _ _ _ h => h) (Or.inl ⟨by rfl, ?_⟩) (by assumption) ?_
  rotate_left
  · intro w hSw
    try dsimp only at hSw
    go_simp
    try with_reducible rfl
  simp only [Act.put, List.setIfInBounds_toArray, List.set_cons_zero, List.set_cons_succ]
  refine wpAnyH_takeD (i := 7) (v := ?_) (some 19) rfl (by rfl) (by kernel_rfl) (by kernel_rfl) (by kernel_rfl) (fun _ _ _ h => h) (Or.inl ⟨by rfl, ?_⟩) (by assumption) ?_
  rotate_left
  · intro w hSw
    try dsimp only at hSw
    go_simp
    try with_reducible rfl
  simp only [Act.put, List.setIfInBounds_toArray, List.set_cons_zero, List.set_cons_succ]
  refine wpAnyH_takeD (i := 8) (v := ?_) (some 20) rfl (by rfl) (by kernel_rfl) (by kernel_rfl) (by kernel_rfl) (fun _ _ _ h => h) (Or.inl ⟨by rfl, ?_⟩) (by assumption) ?_
  rotate_left
  · intro w hSw
    try dsimp only at hSw
    go_simp
    try with_reducible rfl
  simp only [Act.put, List.setIfInBounds_toArray, List.set_cons_zero, List.set_cons_succ]
  have h2 := (H1.out.set 0 (nk : Int)).drew
  obtain ⟨y, c0, f0⟩ := H1.out.drew.item 0 (by rw [List.length_replicate]; omega)
  have HX := And.intro (Sep.cell h2 0 rfl 0 (v := .slice sk nk ck) rfl).1 (Sep.cell h2 0 rfl 3 (v := .int .u64 sz) rfl).1
  have H2 := Lib.hid h2
  clear h2
  refine wpAnyH_ready (rs := [9]) (by kernel_rfl) (by simp) ?_
  refine AllReadyH.cons rfl (fun K hK => ?_) AllReadyH.nil
  go_simp
  have hHeld := HX
  refine hK.out _ _ hHeld (fun _ => ?_)
  clear hK K
  clear HX c0 f0
  refine wpAnyH_takeD (i := 10) (v := ?_) (some 21) rfl (by rfl) (by kernel_rfl) (by kernel_rfl) (by kernel_rfl) (fun _ _ _ h => h) (Or.inl ⟨by rfl, ?_⟩) (by assumption) ?_
  rotate_left
  · intro w hSw
    try dsimp only at hSw
    go_simp
    try with_reducible rfl
  simp only [Act.put, List.setIfInBounds_toArray, List.set_cons_zero, List.set_cons_succ]
  have h3 := ((H1.out.set 0 (nk : Int)).set 1 sz).drew
  obtain ⟨y1, c1, f1⟩ := H2.out.item 1 (by rw [List.length_set, List.length_replicate]; omega)
  have HX := And.intro (Sep.cell h3 0 rfl 0 (v := .slice sk nk ck) rfl).1 (Sep.cell h3 0 rfl 3 (v := .int .u64 sz) rfl).1
  have e0 : Nd.wK t x 0 = ((List.replicate n6 0).set 0 (nk : Int)).set 1 sz := by
    show Nd.w0 t x = _
    unfold Nd.w0
    rw [HT.out, HD.out.2.1, HD.out.2.2.2.2]
  rw [← e0] at h3
  have H3 := Lib.hid h3
  clear e0
  clear h3 H2
  refine wpAnyH_ready (rs := [11]) (by kernel_rfl) (by simp) ?_
  refine AllReadyH.cons rfl (fun K hK => ?_) AllReadyH.nil
  go_simp
  have hHeld := HX
  refine hK.out _ _ hHeld (fun _ => ?_)
  clear hK K
  refine wpAnyH_done (by kernel_rfl) ?_ _
  clear hHeld HX c1 f1
  have b0 := (Sep.cell H3.out 0 rfl 0 (v := .slice sk nk ck) rfl).1
  go_wp2_with fail
  go_loopw [25] (fun iv wr => ∃ k : Nat, iv = .int .i64 k ∧ k ≤ nk ∧ NW w bx (ndCells sk nk ck sv nv cv sc nc cc sz) g n6 (Nd.wK t x k) wr) (fun iv _ => nk - (RowKit.intOf iv).toNat)
  case atStart => exact ⟨0, rfl, Nat.zero_le _, H3.out⟩
  case round =>
    obtain ⟨k, rfl, hk, hr⟩ := hrel
    clear H3 b0
    have HR := Lib.hid hr
    by_cases hlt : k < nk
    · obtain ⟨a, hak⟩ : ∃ a, x.keys[k]? = some a := ⟨_, List.getElem?_eq_getElem (by rw [HD.out.2.1]; exact hlt)⟩
      obtain ⟨v, hvk⟩ : ∃ a, x.vals[k]? = some a := ⟨_, List.getElem?_eq_getElem (by have := HD.out.2.2.1; have := HN.out; omega)⟩
      obtain ⟨gk, ok, rfl, ck0⟩ := HD.out.1.keys k a hak
      obtain ⟨gv, ov, rfl, cv0⟩ := HD.out.1.vals k v hvk
      have HC := Lib.hid (And.intro ck0 cv0)
      have b0 := (Sep.cell hr.drew 0 rfl 0 (v := .slice (some ⟨gk, ok, none⟩) nk ck) rfl).1
      have b1 := (Sep.cell hr.drew 0 rfl 1 (v := .slice (some ⟨gv, ov, none⟩) nv cv) rfl).1
      have b2 := hr.drew.mod.cell ck0 (fun x => x)
      have b3 := hr.drew.mod.cell cv0 (fun x => x)
      have hkv : k < nv := by have := HN.out; omega
      have hlt' : (k : Int) < (nk : Int) := by omega
      have hkv' : (k : Int) < (nv : Int) := by omega
      obtain ⟨j0, hj0⟩ : ∃ j, 2 * k = j := ⟨_, rfl⟩
      obtain ⟨j1, hj1⟩ : ∃ j, 2 + j0 = j := ⟨_, rfl⟩
      obtain ⟨j2, hj2⟩ : ∃ j, j1 + 1 = j := ⟨_, rfl⟩
      have e1 : IntKind.i64.wrap (2 * (k : Int)) = (j0 : Int) := by rw [IntKind.wrap_i64]; omega
      have e1' : 2 * (k : Int) = (j0 : Int) := by omega
      have e2 : IntKind.i64.wrap (2 + (j0 : Int)) = (j1 : Int) := by rw [IntKind.wrap_i64]; omega
      have e2' : 2 + (j0 : Int) = (j1 : Int) := by omega
      have e3 : IntKind.i64.wrap ((j1 : Int) + 1) = (j2 : Int) := by rw [IntKind.wrap_i64]; omega
      have e3' : (j1 : Int) + 1 = (j2 : Int) := by omega
      have v0 : IntKind.i64.wrap (j0 : Int) = (j0 : Int) := by rw [IntKind.wrap_i64]; omega
      have v1 : IntKind.i64.wrap (j1 : Int) = (j1 : Int) := by rw [IntKind.wrap_i64]; omega
      have v2 : IntKind.i64.wrap (j2 : Int) = (j2 : Int) := by rw [IntKind.wrap_i64]; omega
      have hN := HN.out
      have hj1l : j1 < n6 := by omega
      have hj2l : j2 < n6 := by omega
      have hj1l' : (j1 : Int) < (n6 : Int) := by omega
      have hj2l' : (j2 : Int) < (n6 : Int) := by omega
      have HW : Hid (Nd.wK t x (k + 1) = ((Nd.wK t x k).set j1 a).set j2 v) := by
        show Nd.wK t x (k + 1) = _
        rw [Nd.wK, List.getD_eq_getElem?_getD, List.getD_eq_getElem?_getD, hak, hvk, hj0, hj1, hj2]
        rfl
      clear hj0 hj1 hj2 hN hak hvk hr ck0 cv0
      go_wp2_with fail
      refine wp_region_held_drew (S := fun w' => w'.cell? ⟨bx, 0, none⟩ = some (.slice (some ⟨gk, ok, none⟩) nk ck) ∧ w'.cell? ⟨bx, 1, none⟩ = some (.slice (some ⟨gv, ov, none⟩) nv cv) ∧ w'.cell? ⟨gk, ok + k, none⟩ = some (.int .u64 a) ∧ w'.cell? ⟨gv, ov + k, none⟩ = some (.int .u64 v)) (by kernel_rfl) ⟨b0, b1, b2, b3⟩ (fun hHeld => ?_)
      clear b0 b1 b2 b3
      refine wpAnyH_takeD (i := 0) (v := ?_) (some 28) rfl (by rfl) (by kernel_rfl) (by kernel_rfl) (by kernel_rfl) (fun _ _ _ h => h) (Or.inl ⟨by rfl, ?_⟩) (by assumption) ?_
      rotate_left
      · intro w hSw
        try dsimp only at hSw
        go_simp
        try with_reducible rfl
      simp only [Act.put, List.setIfInBounds_toArray, List.set_cons_zero, List.set_cons_succ]
      refine wpAnyH_takeD (i := 1) (v := ?_) (some 29) rfl (by rfl) (by kernel_rfl) (by kernel_rfl) (by kernel_rfl) (fun _ _ _ h => h) (Or.inl ⟨by rfl, ?_⟩) (by assumption) ?_
      rotate_left
      · intro w hSw
        try dsimp only at hSw
        go_simp
        try with_reducible rfl
      simp only [Act.put, List.setIfInBounds_toArray, List.set_cons_zero, List.set_cons_succ]
      refine wpAnyH_takeD (i := 2) (v := ?_) (some 30) rfl (by rfl) (by kernel_rfl) (by kernel_rfl) (by kernel_rfl) (fun _ _ _ h => h) (Or.inl ⟨by rfl, ?_⟩) (by assumption) ?_
      rotate_left
      · intro w hSw
        try dsimp only at hSw
        go_simp
        try with_reducible rfl
      simp only [Act.put, List.setIfInBounds_toArray, List.set_cons_zero, List.set_cons_succ]
      refine wpAnyH_takeD (i := 3) (v := ?_) (some 31) rfl (by rfl) (by kernel_rfl) (by kernel_rfl) (by kernel_rfl) (fun _ _ _ h => h) (Or.inl ⟨by rfl, ?_⟩) (by assumption) ?_
      rotate_left
      · intro w hSw
        try dsimp only at hSw
        go_simp
        try with_reducible rfl
      simp only [Act.put, List.setIfInBounds_toArray, List.set_cons_zero, List.set_cons_succ]
      refine wpAnyH_takeD (i := 4) (v := ?_) (some 32) rfl (by rfl) (by kernel_rfl) (by kernel_rfl) (by kernel_rfl) (fun _ _ _ h => h) (Or.inl ⟨by rfl, ?_⟩) (by assumption) ?_
      rotate_left
      · intro w hSw
        try dsimp only at hSw
        go_simp
        try with_reducible rfl
      simp only [Act.put, List.setIfInBounds_toArray, List.set_cons_zero, List.set_cons_succ]
      refine wpAnyH_takeD (i := 5) (v := ?_) (some 33) rfl (by rfl) (by kernel_rfl) (by kernel_rfl) (by kernel_rfl) (fun _ _ _ h => h) (Or.inl ⟨by rfl, ?_⟩) (by assumption) ?_
      rotate_left
      · intro w hSw
        try dsimp only at hSw
        go_simp
        try with_reducible rfl
      simp only [Act.put, List.setIfInBounds_toArray, List.set_cons_zero, List.set_cons_succ]
      refine wpAnyH_takeD (i := 6) (v := ?_) (some 34) rfl (by rfl) (by kernel_rfl) (by kernel_rfl) (by kernel_rfl) (fun _ _ _ h => h) (Or.inl ⟨by rfl, ?_⟩) (by assumption) ?_
      rotate_left
      · intro w hSw
        try dsimp only at hSw
        go_simp
        try with_reducible rfl
      simp only [Act.put, List.setIfInBounds_toArray, List.set_cons_zero, List.set_cons_succ]
      refine wpAnyH_takeD (i := 7) (v := ?_) (some 35) rfl (by rfl) (by kernel_rfl) (by kernel_rfl) (by kernel_rfl) (fun _ _ _ h => h) (Or.inl ⟨by rfl, ?_⟩) (by assumption) ?_
      rotate_left
      · intro w hSw
        try dsimp only at hSw
        go_simp
        try with_reducible rfl
      simp only [Act.put, List.setIfInBounds_toArray, List.set_cons_zero, List.set_cons_succ]
      refine wpAnyH_takeD (i := 8) (v := ?_) (some 36) rfl (by rfl) (by kernel_rfl) (by kernel_rfl) (by kernel_rfl) (fun _ _ _ h => h) (Or.inl ⟨by rfl, ?_⟩) (by assumption) ?_
      rotate_left
      · intro w hSw
        try dsimp only at hSw
        go_simp
        try with_reducible rfl
      simp only [Act.put, List.setIfInBounds_toArray, List.set_cons_zero, List.set_cons_succ]
      refine wpAnyH_takeD (i := 9) (v := ?_) (some 37) rfl (by rfl) (by kernel_rfl) (by kernel_rfl) (by kernel_rfl) (fun _ _ _ h => h) (Or.inl ⟨by rfl, ?_⟩) (by assumption) ?_
      rotate_left
      · intro w hSw
        try dsimp only at hSw
        go_simp
        try with_reducible rfl
      simp only [Act.put, List.setIfInBounds_toArray, List.set_cons_zero, List.set_cons_succ]
      refine wpAnyH_takeD (i := 10) (v := ?_) (some 38) rfl (by rfl) (by kernel_rfl) (by kernel_rfl) (by kernel_rfl) (fun _ _ _ h => h) (Or.inl ⟨by rfl, ?_⟩) (by assumption) ?_
      rotate_left
      · intro w hSw
        try dsimp only at hSw
        go_simp
        try with_reducible rfl
      simp only [Act.put, List.setIfInBounds_toArray, List.set_cons_zero, List.set_cons_succ]
      refine wpAnyH_takeD (i := 11) (v := ?_) (some 39) rfl (by rfl) (by kernel_rfl) (by kernel_rfl) (by kernel_rfl) (fun _ _ _ h => h) (Or.inl ⟨by rfl, ?_⟩) (by assumption) ?_
      rotate_left
      · intro w hSw
        try dsimp only at hSw
        go_simp
        try with_reducible rfl
      simp only [Act.put, List.setIfInBounds_toArray, List.set_cons_zero, List.set_cons_succ]
      refine wpAnyH_takeD (i := 12) (v := ?_) (some 40) rfl (by rfl) (by kernel_rfl) (by kernel_rfl) (by kernel_rfl) (fun _ _ _ h => h) (Or.inl ⟨by rfl, ?_⟩) (by assumption) ?_
      rotate_left
      · intro w hSw
        try dsimp only at hSw
        go_simp
        try with_reducible rfl
      simp only [Act.put, List.setIfInBounds_toArray, List.set_cons_zero, List.set_cons_succ]
      refine wpAnyH_takeD (i := 13) (v := ?_) (some 41) rfl (by rfl) (by kernel_rfl) (by kernel_rfl) (by kernel_rfl) (fun _ _ _ h => h) (Or.inl ⟨by rfl, ?_⟩) (by assumption) ?_
      rotate_left
      · intro w hSw
        try dsimp only at hSw
        go_simp
        try with_reducible rfl
      simp only [Act.put, List.setIfInBounds_toArray, List.set_cons_zero, List.set_cons_succ]
      refine wpAnyH_takeD (i := 14) (v := ?_) (some 42) rfl (by rfl) (by kernel_rfl) (by kernel_rfl) (by kernel_rfl) (fun _ _ _ h => h) (Or.inl ⟨by rfl, ?_⟩) (by assumption) ?_
      rotate_left
      · intro w hSw
        try dsimp only at hSw
        go_simp
        try with_reducible rfl
      simp only [Act.put, List.setIfInBounds_toArray, List.set_cons_zero, List.set_cons_succ]
      refine wpAnyH_takeD (i := 15) (v := ?_) (some 43) rfl (by rfl) (by kernel_rfl) (by kernel_rfl) (by kernel_rfl) (fun _ _ _ h => h) (Or.inl ⟨by rfl, ?_⟩) (by assumption) ?_
      rotate_left
      · intro w hSw
        try dsimp only at hSw
        go_simp
        try with_reducible rfl
      simp only [Act.put, List.setIfInBounds_toArray, List.set_cons_zero, List.set_cons_succ]
      refine wpAnyH_takeD (i := 16) (v := ?_) (some 44) rfl (by rfl) (by kernel_rfl) (by kernel_rfl) (by kernel_rfl) (fun _ _ _ h => h) (Or.inl ⟨by rfl, ?_⟩) (by assumption) ?_
      rotate_left
      · intro w hSw
        try dsimp only at hSw
        go_simp
        try with_reducible rfl
      simp only [Act.put, List.setIfInBounds_toArray, List.set_cons_zero, List.set_cons_succ]
      refine wpAnyH_takeD (i := 17) (v := ?_) (some 45) rfl (by rfl) (by kernel_rfl) (by kernel_rfl) (by kernel_rfl) (fun _ _ _ h => h) (Or.inl ⟨by rfl, ?_⟩) (by assumption) ?_
      rotate_left
      · intro w hSw
        try dsimp only at hSw
        go_simp
        try with_reducible rfl
      simp only [Act.put, List.setIfInBounds_toArray, List.set_cons_zero, List.set_cons_succ]
      refine wpAnyH_takeD (i := 18) (v := ?_) (some 46) rfl (by rfl) (by kernel_rfl) (by kernel_rfl) (by kernel_rfl) (fun _ _ _ h => h) (Or.inl ⟨by rfl, ?_⟩) (by assumption) ?_
      rotate_left
      · intro w hSw
        try dsimp only at hSw
        go_simp
        try with_reducible rfl
      simp only [Act.put, List.setIfInBounds_toArray, List.set_cons_zero, List.set_cons_succ]
      refine wpAnyH_takeD (i := 19) (v := ?_) (some 47) rfl (by rfl) (by kernel_rfl) (by kernel_rfl) (by kernel_rfl) (fun _ _ _ h => h) (Or.inl ⟨by rfl, ?_⟩) (by assumption) ?_
      rotate_left
      · intro w hSw
        try dsimp only at hSw
        go_simp
        try with_reducible rfl
      simp only [Act.put, List.setIfInBounds_toArray, List.set_cons_zero, List.set_cons_succ]
      have h2 := (HR.out.set j1 a).drew
      obtain ⟨y, c0, f0⟩ := HR.out.drew.item j1 (by rw [Nd.wK_len]; have := HT.out; omega)
      have HX := And.intro (Sep.cell h2 0 rfl 0 (v := .slice (some ⟨gk, ok, none⟩) nk ck) rfl).1 (And.intro (Sep.cell h2 0 rfl 1 (v := .slice (some ⟨gv, ov, none⟩) nv cv) rfl).1 (And.intro (h2.mod.cell HC.out.1 (fun x => x)) (h2.mod.cell HC.out.2 (fun x => x))))
      have H2 := Lib.hid h2
      clear h2
      refine wpAnyH_ready (rs := [20]) (by kernel_rfl) (by simp) ?_
      refine AllReadyH.cons rfl (fun K hK => ?_) AllReadyH.nil
      go_simp
      have hHeld := HX
      refine hK.out _ _ hHeld (fun _ => ?_)
      clear hK K
      clear HX c0 f0
      refine wpAnyH_takeD (i := 21) (v := ?_) (some 48) rfl (by rfl) (by kernel_rfl) (by kernel_rfl) (by kernel_rfl) (fun _ _ _ h => h) (Or.inl ⟨by rfl, ?_⟩) (by assumption) ?_
      rotate_left
      · intro w hSw
        try dsimp only at hSw
        go_simp
        try with_reducible rfl
      simp only [Act.put, List.setIfInBounds_toArray, List.set_cons_zero, List.set_cons_succ]
      have h3 := ((HR.out.set j1 a).set j2 v).drew
      obtain ⟨y1, c1, f1⟩ := H2.out.item j2 (by rw [List.length_set, Nd.wK_len]; have := HT.out; omega)
      have HX := And.intro (Sep.cell h3 0 rfl 0 (v := .slice (some ⟨gk, ok, none⟩) nk ck) rfl).1 (And.intro (Sep.cell h3 0 rfl 1 (v := .slice (some ⟨gv, ov, none⟩) nv cv) rfl).1 (And.intro (h3.mod.cell HC.out.1 (fun x => x)) (h3.mod.cell HC.out.2 (fun x => x))))
      have H3 := Lib.hid h3
      clear h3 H2
      refine wpAnyH_ready (rs := [22]) (by kernel_rfl) (by simp) ?_
      refine AllReadyH.cons rfl (fun K hK => ?_) AllReadyH.nil
      go_simp
      have hHeld := HX
      refine hK.out _ _ hHeld (fun _ => ?_)
      clear hK K
      refine wpAnyH_done (by kernel_rfl) ?_ _
      clear hHeld HX c1 f1
      go_wp2
      go_roundw
      case rel => exact ⟨k + 1, by go_num, by omega, by rw [HW.out]; exact H3.out⟩
      case measure => simp [RowKit.intOf]; omega
    · obtain rfl : k = nk := by omega
      have b2 := (Sep.cell hr 0 rfl 2 (v := .slice sc nc cc) rfl).1
      have HS : Hid (NW w bx (ndCells sk k ck sv nv cv sc nc cc sz) g n6 (Nd.wC t x 0) wr) := by
        show NW _ _ _ _ _ (Nd.wC t x 0) _
        rw [Nd.wC, HD.out.2.1]
        exact hr
      clear hr hlt HR
      go_wp2_with fail
      go_loopw [53] (fun iv wr => ∃ j : Nat, iv = .int .i64 j ∧ j ≤ nc ∧ NW w bx (ndCells sk k ck sv nv cv sc nc cc sz) g n6 (Nd.wC t x j) wr) (fun iv _ => nc - (RowKit.intOf iv).toNat)
      case atStart => exact ⟨0, rfl, Nat.zero_le _, HS.out⟩
      case round =>
        obtain ⟨j, rfl, hj, hr⟩ := hrel
        clear HS b2
        have HR := Lib.hid hr
        by_cases hlt : j < nc
        · obtain ⟨a, hak⟩ : ∃ a, x.kids[j]? = some a := ⟨_, List.getElem?_eq_getElem (by rw [HD.out.2.2.2.1]; exact hlt)⟩
          obtain ⟨gk, ok, rfl, ck0⟩ := HD.out.1.kids j a hak
          have b2 := hr.mod.cell ck0 (fun x => x)
          have hlt' : (j : Int) < (nc : Int) := by omega
          have hN := HN.out
          obtain ⟨t4, ht4⟩ : ∃ j, 4 * t = j := ⟨_, rfl⟩
          obtain ⟨j1, hj1⟩ : ∃ i, t4 + j = i := ⟨_, rfl⟩
          have e1 : IntKind.i64.wrap (4 * (t : Int)) = (t4 : Int) := by rw [IntKind.wrap_i64]; omega
          have e1' : 4 * (t : Int) = (t4 : Int) := by omega
          have e2 : IntKind.i64.wrap ((t4 : Int) + (j : Int)) = (j1 : Int) := by rw [IntKind.wrap_i64]; omega
          have e2' : (t4 : Int) + (j : Int) = (j1 : Int) := by omega
          have hj1l : j1 < n6 := by omega
          have hj1l' : (j1 : Int) < (n6 : Int) := by omega
          have HW : Hid (Nd.wC t x (j + 1) = (Nd.wC t x j).set j1 a) := by
            show Nd.wC t x (j + 1) = _
            rw [Nd.wC, List.getD_eq_getElem?_getD, hak, ht4, hj1]
            rfl
          obtain ⟨y, c0, f0⟩ := hr.item j1 (by rw [Nd.wC_len]; omega)
          have H2 := Lib.hid (hr.set j1 a)
          clear hj1 ht4 hN hak hr ck0
          go_wp2
          go_roundw
          case rel => exact ⟨j + 1, by go_num, by omega, by rw [HW.out]; exact H2.out⟩
          case measure => simp [RowKit.intOf]; omega
        · obtain rfl : j = nc := by omega
          have hac := all_call (some ⟨g, 0, none⟩) n6 n6 wr
          clear hr hlt
          go_wp2_with fail
          refine hac.mono ?_
          rintro e w5 ⟨rfl, rfl⟩
          clear hac
          go_wp2
          go_ret
          refine ⟨_, g, rfl, ?_⟩
          have h9 : Sep No w _ ([cellsAt bx (ndCells sk k ck sv nv cv sc j cc sz) 54] ++ [u64Row (.slice (some ⟨g, 0, none⟩) n6 n6) n6 (Nd.wC t x j), cellsAt wr.heap.size #[.slice (some ⟨g, 0, none⟩) n6 n6] 154]) := Sep.pushCells HR.out #[.slice (some ⟨g, 0, none⟩) n6 n6] 154
          have h10 := Sep.right h9
          rw [show Nd.ws t x = Nd.wC t x j by unfold Nd.ws; rw [HD.out.2.2.2.1]]
          exact h10
end Go.Proofs.YtpcomekikeoliaaGreatDoor

namespace Go.Proofs.YtpcomekikeoliaaGreatDoor
open Go Go.RowKit

variable {F0 : Nat → Prop} {w0 w : World} {Ps : List Res}

/-- The objects' blocks lie below B. -/
def SepB (B : Nat) (F0 : Nat → Prop) (w0 w : World) (Ps : List Res) : Prop := ∃ F : Nat → Prop, (∀ k, F k → k < B ∧ (F0 k ∨ w0.heap.size ≤ k)) ∧ Mod F0 w0 w ∧ Sep F w w Ps
theorem SepB.of (h : Sep F0 w0 w Ps) : SepB w.heap.size F0 w0 w Ps := by
  obtain ⟨hm, Fs, h1, h2⟩ := h
  refine ⟨fun k => ∃ i R, Ps[i]? = some R ∧ Fs i k, fun k ⟨i, R, hi, hk⟩ => ⟨R.lt (h1 i R hi).1 k hk, (h1 i R hi).2 k hk⟩, hm, Mod.refl _ w, Fs, fun i R hi => ⟨(h1 i R hi).1, fun k hk => .inl ⟨i, R, hi, hk⟩⟩, h2⟩
theorem SepB.sep {B : Nat} (h : SepB B F0 w0 w Ps) : Sep F0 w0 w Ps := by
  obtain ⟨F, hF, hm, _, Fs, h1, h2⟩ := h
  refine ⟨hm, Fs, fun i R hi => ⟨(h1 i R hi).1, fun k hk => ?_⟩, h2⟩
  rcases (h1 i R hi).2 k hk with h | h
  · exact (hF k h).2
  · have := R.lt (h1 i R hi).1 k hk
    omega
theorem SepB.grown {B : Nat} (h : SepB B F0 w0 w Ps) (hB : w0.heap.size ≤ B) {w' : World} {row : Option Nat} (hg : w.grownBy w' row) (hr : ∀ r, row = some r → B ≤ r) : SepB B F0 w0 w' Ps := by
  obtain ⟨F, hF, hm, _, Fs, h1, h2⟩ := h
  have inF : ∀ i R, Ps[i]? = some R → ∀ k, Fs i k → F k := fun i R hi k hk => by
    rcases (h1 i R hi).2 k hk with h | h
    · exact h
    · have := R.lt (h1 i R hi).1 k hk
      omega
  refine ⟨F, hF, hm.grown hg (fun k e => .inr (Nat.le_trans hB (hr k e))), Mod.refl _ w', Fs, fun i R hi => ⟨R.keep (h1 i R hi).1 fun k hk => ?_, fun k hk => .inl (inF i R hi k hk)⟩, h2⟩
  have hlt := R.lt (h1 i R hi).1 k hk
  refine hg.block k hlt (fun e => ?_)
  have := hr k e.symm
  have := (hF k (inF i R hi k hk)).1
  omega
theorem SepB.own {β : Type} {B : Nat} (hB : w0.heap.size ≤ B) (f : β → List Res) : OwnFrom B (fun (s : β) W => SepB B F0 w0 W (f s)) := fun _ _ _ _ hs hg hr => hs.grown hB hg (fun r e => (hr r e).1)
/-- A step that lays no block. -/
theorem SepB.step {B : Nat} (h : SepB B F0 w0 w Ps) : ∃ F, Sep F w w Ps ∧ ∀ (w' : World) (Ps' : List Res), Sep F w w' Ps' → w'.heap.size = w.heap.size → SepB B F0 w0 w' Ps' := by
  obtain ⟨F, hF, hm, hs⟩ := h
  refine ⟨F, hs, fun w' Ps' h' hz => ?_⟩
  obtain ⟨hm', Fs, h1, h2⟩ := h'
  refine ⟨F, hF, hm.trans (hm'.mono fun k _ hk => (hF k hk).2), Mod.refl _ w', Fs, fun i R hi => ⟨(h1 i R hi).1, fun k hk => ?_⟩, h2⟩
  rcases (h1 i R hi).2 k hk with h | h
  · exact .inl h
  · exact .inr (by omega)

theorem size_setCell (w : World) (a : Addr) (v : Value) : (w.setCell a v).heap.size = w.heap.size := by simp [World.setCell]

theorem Sep.sWriteK (h : Sep F0 w0 w Ps) (i : Nat) {s : Nat} {S : Slb} (hi : Ps[i]? = some (slabR s S)) (a v : Int) (v0 : 0 ≤ v) (v1 : v < 18446744073709551616) {S' : Slb} (r : S.write a v = (0, S')) :
    Calls Tryz.prog 99 #[.pointer (some ⟨s, 0, none⟩), .int .i64 a, .int .u64 v] w fun e w' => e = .returned (.int .i64 0) ∧ Sep F0 w0 w' (Ps.set i (slabR s S')) ∧ KeepsOthers w w' ∧ w'.heap.size = w.heap.size := by
  obtain ⟨b, p, hM, hS, back⟩ := h.sGet i hi
  have hok := Slb.write_ok hS a v v0 v1
  rw [r] at hok
  unfold Slb.write at r
  split at r
  · rename_i he
    cases r
    obtain ⟨h0, h1, hin⟩ := Slb.err_zero he
    have ha : ((64 * (a.toNat / 64) + a.toNat % 64 : Nat) : Int) = a := by omega
    have hj := Nat.mod_lt a.toNat (show 0 < 64 by omega)
    have hc := hM.at_some (a.toNat / 64) (a.toNat % 64) hin hj (by omega)
    have hw := hM.word hin hj
    have hf := hM.fz hin (a.toNat % 64)
    have hp := hM.put hin hj v
    rw [show 64 * (a.toNat / 64) + a.toNat % 64 = a.toNat by omega] at hp
    rw [ha] at hc
    have hfin := Lib.hid (back _ b p { S with wd := fun x => if x = a.toNat then v else S.wd x } hp hok ((Mod.refl _ w).setCell _ _ (.inl (.inr (.inr ⟨_, hin, rfl⟩)))) (fun k hk => .inl hk))
    generalize S.wd (64 * (a.toNat / 64) + a.toNat % 64) = x at *
    generalize p (a.toNat / 64) = q at *
    generalize a.toNat % 64 = j at *
    clear hM hS he hin ha h0 h1 hp hj h hi back hok
    go_enter Tryz.func99, Tryz.ntmps99
    go_wp2_with ((with_reducible refine hc.mono ?_); rintro e w' ⟨rfl, rfl⟩)
    go_ret
    exact ⟨rfl, hfin.out, KeepsOthers.setCell _ _ _, size_setCell _ _ _⟩
  · rename_i he
    simp only [Prod.mk.injEq] at r
    exact absurd r.1 he

section
variable {b : Nat} {m la : Int} {S S' : Slb} {T T' : HTbl} {H H' : List Ent} {R R' : List Rc}
theorem stputK_call (h : Sep F0 w0 w Ps) (i : Nat) (hi : Ps[i]? = some (stR b m la S T)) (I : StInv S T H R) {hh k v : Int} (h0 : 0 ≤ hh ∧ hh < 18446744073709551616) (v0 : 0 ≤ v) (v1 : v < 18446744073709551616) (P : Puts S T H R hh k v 0 S' R') :
    Calls Tryz.prog 55 #[.pointer (some ⟨b, 0, none⟩), .int .u64 hh, .int .i64 k, .int .u64 v] w fun e w' => e = .returned (.int .i64 0) ∧ Sep F0 w0 w' (Ps.set i (stR b m la S' T)) ∧ KeepsOthers w w' ∧ w'.heap.size = w.heap.size := by
  obtain ⟨F, h1, back⟩ := h.frame [i] [stR b m la S T] (by simp) (by simp [hi])
  obtain ⟨s, hp, t, h2⟩ := st_open h1
  generalize he : (0 : Int) = er at P
  cases P with
  | stale e => omega
  | arg j r L hk => omega
  | ok j r L i' hk hi2 S' e hpg hq I' =>
    subst hk
    have hpl := stplace_ok h2 I L hi2
    have hwr := h2.sWriteK 1 rfl _ v v0 v1 e
    have c2 := (h2.cell 0 rfl 2 (v := .pointer (some ⟨s, 0, none⟩)) rfl).1
    obtain ⟨p, hp'⟩ : ∃ p, r.a + 2 + (i' : Int) = p := ⟨_, rfl⟩
    rw [hp'] at hpl hwr
    have HB := Lib.hid back
    clear h h1 h2 I I' L hp' hi hi2 e hpg hq back he
    go_enter Tryz.func55, Tryz.ntmps55
    go_wp2_with fail
    refine hpl.mono ?_
    rintro e w' ⟨rfl, rfl⟩
    clear hpl
    go_wp2_with fail
    refine hwr.mono ?_
    rintro e w' ⟨rfl, h3, h4, h5⟩
    have H3 := Lib.hid (And.intro (st_shut h3) (And.intro h4 h5))
    clear hwr h3 h4 h5
    go_wp2
    go_ret
    refine ⟨rfl, ?_, H3.out.2.1, H3.out.2.2⟩
    have := HB.out w' [stR b m la S' T] (Nat.le_refl _) H3.out.1
    simpa [setAt] using this
end
end Go.Proofs.YtpcomekikeoliaaGreatDoor

namespace Go.Proofs.YtpcomekikeoliaaGreatDoor
open Go Go.RowKit Go.Shelf

variable {F0 : Nat → Prop} {w0 w : World} {Ps : List Res}

/-- A node fits, said of its lengths. -/
structure Nd.Fits (t : Nat) (x : Nd) : Prop where
  t2 : 2 ≤ t
  t16 : t ≤ 16
  keys : x.keys.length ≤ 2 * t - 1
  vals : x.vals.length = x.keys.length
  kids : x.kids.length = 0 ∨ x.kids.length = x.keys.length + 1
theorem Nd.Fits.of {t : Nat} {x : Nd} (h : Nd.fitB (t : Int) x = true) : Nd.Fits t x := by
  unfold Nd.fitB Nd.degB Nd.kidsB at h
  simp only [Bool.and_eq_true, decide_eq_true_eq, beq_iff_eq, Bool.or_eq_true] at h
  obtain ⟨⟨⟨⟨h1, h2⟩, h3⟩, h4⟩, h5⟩ := h
  exact ⟨by omega, by omega, by omega, h4, h5.imp id (·.1)⟩

attribute [local go_sem] Oper.semAt_some

section
variable {b : Nat} {m la : Int} {S S' : Slb} {T T' : HTbl} {H H' : List Ent} {R R' : List Rc}
/-- What stands while Put puts. -/
structure PutOut (S : Slb) (T : HTbl) (H : List Ent) (R : List Rc) (j : Nat) (r : Rc) (ws : List Int) (S' : Slb) : Prop where
  inv : StInv S' T H (R.set j { r with w := ws })
  pg : S'.pg = S.pg
  quo : S'.quota = S.quota
theorem PutOut.start (I : StInv S T H R) {j : Nat} {r : Rc} (hj : R[j]? = some r) : PutOut S T H R j r r.w S := ⟨by rw [show ({ r with w := r.w } : Rc) = r from rfl, StInv.set_self hj]; exact I, rfl, rfl⟩
theorem PutOut.node {j n : Nat} {r : Rc} {ws : List Int} (O : PutOut S T H R j r ws S') (hl : ws.length = r.w.length) (hn : ws.length = n) : NodeOut S T H R j r ws n S' := ⟨by rw [← hn, putW_all r hl]; exact O.inv, O.pg, O.quo⟩
abbrev PutPs (w : World) (b : Nat) (m la : Int) (S : Slb) (T : HTbl) (hh : Int) (sk sv sc : Option Addr) (ck cv cc : Nat) (x : Nd) (g n6 t B : Nat) : List Res :=
  [stR b m la S T, cellsAt w.heap.size #[.pointer (some ⟨b, 0, none⟩)] 46, cellsAt (w.heap.size + 1) #[.int .u64 hh] 55, cellsAt (w.heap.size + 1 + 1) #[.slice sk x.keys.length ck, .slice sv x.vals.length cv, .slice sc x.kids.length cc, .int .u64 x.size] 54, u64Row (.slice (some ⟨g, 0, none⟩) n6 n6) n6 (Nd.ws t x), cellsAt B #[.slice (some ⟨g, 0, none⟩) n6 n6] 154]
theorem AllAt.own {B g n : Nat} {xs : List Int} {W : World} (h : AllAt B g n xs W) {l : Nat} {o o' : Obj} (hl : W.heap[l]? = some o) (hc : o.isCells = false) : AllAt B g n xs (W.putObj l o') :=
  ⟨cell_kept h.box (grownBy_putObj' W l o') (fun r e => by cases e; exact ⟨_, hl, hc⟩), fun k x hx => cell_kept (h.row k x hx) (grownBy_putObj' W l o') (fun r e => by cases e; exact ⟨_, hl, hc⟩)⟩

set_option maxRecDepth 100000 in
set_option maxHeartbeats 4000000 in
theorem bnput_in (h : Sep F0 w0 w Ps) (i : Nat) (hi : Ps[i]? = some (stR b m la S T)) (I : StInv S T H R) {hh : Int} (h0 : 0 ≤ hh ∧ hh < 18446744073709551616) {j : Nat} {r : Rc} (L : Rec R hh j r)
    {sk sv sc : Option Addr} {ck cv cc : Nat} {x : Nd} (hx : NdAt w sk sv sc x) (hxo : x.Ok) (lk : x.keys.length ≤ maxLen) (lc : x.kids.length ≤ maxLen) {t : Nat} (hf : Nd.fitB (t : Int) x = true) (h6 : r.w.length = 6 * t) :
    Calls Tryz.prog 20 #[.pointer (some ⟨b, 0, none⟩), .int .i64 (t : Nat), .int .u64 hh, ndV sk ck sv cv sc cc x] w fun e w' => ∃ S', (e = .returned (.int .i64 0) ∧ NodeOut S T H R j r (Nd.ws t x) (6 * t) S') ∧ Sep F0 w0 w' (Ps.set i (stR b m la S' T)) := by
  refine h.liftE i hi fun F0' h1 => ?_
  have F := Nd.Fits.of hf
  have h2 := ((h1.pushCells #[.pointer (some ⟨b, 0, none⟩)] 46).pushCells #[.int .u64 hh] 55).pushCells #[.slice sk x.keys.length ck, .slice sv x.vals.length cv, .slice sc x.kids.length cc, .int .u64 x.size] 54
  have hm : Mod No w (((w.alloc (.cells #[.pointer (some ⟨b, 0, none⟩)] 46)).alloc (.cells #[.int .u64 hh] 55)).alloc (.cells #[.slice sk x.keys.length ck, .slice sv x.vals.length cv, .slice sc x.kids.length cc, .int .u64 x.size] 54)) := (((Mod.refl No w).alloc _).alloc _).alloc _
  obtain ⟨W, hW⟩ : ∃ W, ((w.alloc (.cells #[.pointer (some ⟨b, 0, none⟩)] 46)).alloc (.cells #[.int .u64 hh] 55)).alloc (.cells #[.slice sk x.keys.length ck, .slice sv x.vals.length cv, .slice sc x.kids.length cc, .int .u64 x.size] 54) = W := ⟨_, rfl⟩
  rw [hW] at h2 hm
  have hx2 := hx.mod hm
  simp only [World.size_alloc] at h2
  have h2 : Sep F0' w W [stR b m la S T, cellsAt w.heap.size #[.pointer (some ⟨b, 0, none⟩)] 46, cellsAt (w.heap.size + 1) #[.int .u64 hh] 55, cellsAt (w.heap.size + 1 + 1) #[.slice sk x.keys.length ck, .slice sv x.vals.length cv, .slice sc x.kids.length cc, .int .u64 x.size] 54] := h2
  have c0 := (h2.cell 1 rfl 0 (v := .pointer (some ⟨b, 0, none⟩)) rfl).1
  have c2 := (h2.cell 3 rfl 0 (v := .slice sk x.keys.length ck) rfl).1
  have c3 := (h2.cell 3 rfl 1 (v := .slice sv x.vals.length cv) rfl).1
  have c4 := (h2.cell 3 rfl 2 (v := .slice sc x.kids.length cc) rfl).1
  have c5 := (h2.cell 3 rfl 3 (v := .int .u64 x.size) rfl).1
  have hl0 := stlen_call h2 0 rfl I (hh := 0) (by omega) (.stale T.at_zero)
  have hfi := fits_call (sk := sk) (sv := sv) (ck := ck) (cv := cv) (cc := cc) hx2.kids lk lc (t : Int)
  rw [hf] at hfi
  obtain ⟨n6, hn6⟩ : ∃ n, 6 * t = n := ⟨_, rfl⟩
  have HF := Lib.hid (And.intro F hn6)
  have HI := Lib.hid (And.intro I (And.intro h0 (And.intro L h6)))
  have HX := Lib.hid (And.intro hx2 hxo)
  have H2 := Lib.hid h2
  have ht96 : t ≤ 16 ∧ n6 ≤ 96 := by have := F.t16; omega
  have e6 : IntKind.i64.wrap (6 * (t : Int)) = (n6 : Int) := by rw [IntKind.wrap_i64]; omega
  have e6' : 6 * (t : Int) = (n6 : Int) := by omega
  rw [hn6]
  clear h h1 h2 hi I h0 L hx hx2 hxo lk lc hf h6 hm F hn6
  refine (callsIn_wide (n := 4)).1 ?_
  refine callsIn_of_wp_marks Tryz.func20 rfl trivial ?_ rfl
  simp only [Tryz.ntmps20, List.size_toArray, List.length_cons, List.length_nil, Nat.reduceAdd, Nat.reduceSub, Array.replicate_succ, Array.replicate_zero, List.push_toArray, List.append_toArray, List.nil_append, List.cons_append]
  gi_wp2_with fail
  refine ⟨trivial, ?_⟩
  refine (callsIn_wide.2 hl0).mono ?_
  rintro e w' ⟨rfl, rfl⟩
  clear hl0 c0
  gi_wp2_with fail
  refine ⟨trivial, ?_⟩
  refine (callsIn_wide.2 hfi).mono ?_
  rintro e W2 ⟨rfl, hm2⟩
  clear hfi c2 c3 c4 c5
  have h3 := H2.out.more hm2
  have c0 := (h3.cell 1 rfl 0 (v := .pointer (some ⟨b, 0, none⟩)) rfl).1
  have c1 := (h3.cell 2 rfl 0 (v := .int .u64 hh) rfl).1
  have c2 := (h3.cell 3 rfl 0 (v := .slice sk x.keys.length ck) rfl).1
  have c3 := (h3.cell 3 rfl 1 (v := .slice sv x.vals.length cv) rfl).1
  have c4 := (h3.cell 3 rfl 2 (v := .slice sc x.kids.length cc) rfl).1
  have c5 := (h3.cell 3 rfl 3 (v := .int .u64 x.size) rfl).1
  have hl := stlen_call h3 0 rfl HI.out.1 HI.out.2.1 (.ok j r HI.out.2.2.1)
  rw [HI.out.2.2.2, HF.out.2] at hl
  have hnw := nwords_call (ck := ck) (cv := cv) (cc := cc) (HX.out.1.mod hm2) ⟨HF.out.1.t2, HF.out.1.t16⟩ HF.out.1.keys HF.out.1.vals HF.out.1.kids
  rw [HF.out.2] at hnw
  have dn : ((n6 : Int) != (n6 : Int)) = false := bneF rfl
  have H3 := Lib.hid h3
  clear h3 hm2 H2
  gi_wp2_with fail
  refine ⟨trivial, ?_⟩
  refine (callsIn_wide.2 hl).mono ?_
  rintro e w' ⟨rfl, rfl⟩
  clear hl
  gi_wp2_with fail
  refine ⟨trivial, ?_⟩
  refine (callsIn_wide.2 hnw).mono ?_
  rintro e W5 ⟨B, g, rfl, h4⟩
  have h5 := H3.out.join h4
  clear hnw h4 H3 c0 c1 c2 c3 c4 c5
  have h5 : Sep F0' w W5 [stR b m la S T, cellsAt w.heap.size #[.pointer (some ⟨b, 0, none⟩)] 46, cellsAt (w.heap.size + 1) #[.int .u64 hh] 55, cellsAt (w.heap.size + 1 + 1) #[.slice sk x.keys.length ck, .slice sv x.vals.length cv, .slice sc x.kids.length cc, .int .u64 x.size] 54, u64Row (.slice (some ⟨g, 0, none⟩) n6 n6) n6 (Nd.ws t x), cellsAt B #[.slice (some ⟨g, 0, none⟩) n6 n6] 154] := h5
  have hlw : (Nd.ws t x).length = n6 := by rw [Nd.ws_len, HF.out.2]
  have hok := Nd.ws_ok (t := t) HX.out.2 (by have := HF.out.1.keys; omega)
  have hAt : ∀ {W : World} {S1 : Slb}, Sep F0' w W (PutPs w b m la S1 T hh sk sv sc ck cv cc x g n6 t B) → AllAt B g n6 (Nd.ws t x) W := fun hs => ⟨(hs.cell 5 rfl 0 (v := .slice (some ⟨g, 0, none⟩) n6 n6) rfl).1, fun k v hv => by
    obtain ⟨g1, eg, c, _⟩ := hs.item 4 rfl (o := k) (x := .int .u64 v) (by rw [List.getElem?_map, hv]; rfl)
    cases eg
    exact c⟩
  have HAt : Hid (∀ {W : World} {S1 : Slb}, Sep F0' w W (PutPs w b m la S1 T hh sk sv sc ck cv cc x g n6 t B) → AllAt B g n6 (Nd.ws t x) W) := hAt
  have hsq := all_stops hlw (by omega) hok W5 (hAt h5) 3 (by omega)
  have HLW := Lib.hid (And.intro hlw (hlw.trans (HF.out.2.symm.trans HI.out.2.2.2.symm)))
  have H5 : Hid (Sep F0' w W5 (PutPs w b m la S T hh sk sv sc ck cv cc x g n6 t B)) := h5
  have hsz := h5.size
  clear h5 hlw hok hAt
  gi_wp2_with fail
  refine wpIn_rangeFunc_ownF rfl (by omega) (gf := 118) (lb := #[.pointer (some ⟨B, 0, none⟩)]) rfl trivial (enters_of Tryz.func118 (by kernel_rfl) rfl) hsq (fun h k a => k (h a)) (fun W l o o' hl h hc hw hA => hA.own h hc) (Below.refl _ _) (fun _ => rfl)
    (fun pre W => ∃ S1, PutOut S T H R j r (putL r.w (pre.map (·.1))) S1 ∧ SepB W5.heap.size F0' w W (PutPs w b m la S1 T hh sk sv sc ck cv cc x g n6 t B))
    (fun _ _ _ => False)
    (fun s A B' row hs hg hr => by obtain ⟨S1, hO, hB⟩ := hs; exact ⟨S1, hO, hB.grown hsz hg (fun r e => (hr r e).1)⟩)
    (fun _ _ _ _ _ hs _ _ => hs)
    ⟨S, PutOut.start HI.out.1 HI.out.2.2.1.hj, SepB.of H5.out⟩
    (fun p => { tmps := #[.pointer (some ⟨b, 0, none⟩), .int .i64 (t : Nat), .int .u64 hh, ndV sk ck sv cv sc cc x, .pointer (some ⟨w.heap.size, 0, none⟩), undef, .pointer (some ⟨w.heap.size + 1, 0, none⟩), .pointer (some ⟨w.heap.size + 1 + 1, 0, none⟩), .int .i64 0,
      .int .i64 0, .int .i64 7, .int .i64 (n6 : Nat), .int .i64 0, .int .i64 (p.1.1 : Nat), .int .u64 p.1.2, .tuple #[.int .i64 0, .int .i64 7], .pointer (some ⟨b, 0, none⟩), .tuple #[.int .i64 0, .int .i64 7], .int .i64 0, .int .i64 7, .int .i64 7, .bool false, undef, .int .i64 (t : Nat),
      .agg #[.slice sk x.keys.length ck, .slice sv x.vals.length cv, .slice sc x.kids.length cc, .int .u64 x.size], .bool true, .bool false, .tuple #[.int .i64 (n6 : Nat), .int .i64 0], .pointer (some ⟨b, 0, none⟩), .int .u64 hh, .tuple #[.int .i64 (n6 : Nat), .int .i64 0], .int .i64 (n6 : Nat), .int .i64 0, .bool false, .int .i64 0, .bool false, undef, .bool false,
      .int .i64 (n6 : Nat), .int .i64 (t : Nat), .int .i64 (n6 : Nat), .bool false, .int .i64 (t : Nat), .agg #[.slice sk x.keys.length ck, .slice sv x.vals.length cv, .slice sc x.kids.length cc, .int .u64 x.size], .func (.func 118) #[] #[.pointer (some ⟨B, 0, none⟩)], .int .i64 (p.1.1 : Nat), .int .u64 p.1.2, undef, undef, undef, undef, undef], defers := [] }) ?assign ?body ?done ?stop
  case assign =>
    intro l p W K hK
    gi_wp2
    exact hK
  case body =>
    rintro l pre ⟨⟨k, v⟩, hk, hv0, hv1⟩ W ⟨S1, hO, hB⟩ hlen
    obtain ⟨F2, hs, back⟩ := hB.step
    have hjl := (List.getElem?_eq_some_iff.1 HI.out.2.2.1.hj).1
    have hj2 : (R.set j { r with w := putL r.w (pre.map (·.1)) })[j]? = some { r with w := putL r.w (pre.map (·.1)) } := by rw [List.getElem?_set, if_pos rfl, if_pos hjl]
    obtain ⟨S2, P⟩ := hO.inv.putOk hj2 HI.out.2.2.1.h0 (i := k) (by dsimp only; rw [putL_len, HI.out.2.2.2, HF.out.2]; exact hk) hv0 hv1
    have hc := stputK_call hs 0 rfl hO.inv (hh := hh) HI.out.2.1 hv0 hv1 (by rw [← HI.out.2.2.1.he]; exact P)
    have hq := P.quo
    have HO2 : Hid (PutOut S T H R j r (putL r.w ((pre ++ [(⟨(k, v), hk, hv0, hv1⟩ : WordIn n6)]).map (·.1))) S2) := by
      have hI := P.inv
      rw [List.set_set] at hI
      rw [List.map_append]
      exact ⟨by rw [show [(⟨(k, v), hk, hv0, hv1⟩ : WordIn n6)].map (·.1) = [(k, v)] from rfl, putL_snoc]; exact hI, hq.2.trans hO.pg, hq.1.trans hO.quo⟩
    have c0 := (hs.cell 1 rfl 0 (v := .pointer (some ⟨b, 0, none⟩)) rfl).1
    have c1 := (hs.cell 2 rfl 0 (v := .int .u64 hh) rfl).1
    have HB := Lib.hid back
    clear hs P hq hO hB hj2 back hlen
    gi_wp2_with fail
    refine ⟨trivial, ?_⟩
    refine (CallsIn.inRound l (callsIn_wide.2 hc)).mono ?_
    rintro e w3 ⟨rfl, h3, hk3, hz3⟩
    have hB3 := HB.out w3 (PutPs w b m la S2 T hh sk sv sc ck cv cc x g n6 t B) h3 hz3
    have H3 := Lib.hid (And.intro hk3 (And.intro (HAt.out hB3.sep) hB3))
    clear hc h3 hk3 hz3 hB3
    gi_wp2
    exact ⟨H3.out.1, fun _ => H3.out.2.1, S2, HO2.out, H3.out.2.2⟩
  case done =>
    rintro D xs W hD hxs ⟨S1, hO, hB⟩ hK
    rw [hxs] at hO
    have hall : putL r.w (pairs (Nd.ws t x) n6) = Nd.ws t x := by
      have := putL_all HLW.out.2
      rw [HLW.out.1] at this
      exact this
    rw [hall] at hO
    have hB2 := hB.grown hsz (grownBy_putObj' W D (.deferred none)) (fun r e => by cases e; exact hD)
    have HQ := Lib.hid (And.intro (hO.node HLW.out.2 (n := n6) HLW.out.1) (Sep.left (Ps := [_]) hB2.sep))
    clear hO hB hB2 hall hxs
    gi_wp2
    refine ⟨by simp, .inl ⟨_, _, rfl, run_takeDeferred hK, ?_⟩⟩
    refine ⟨.int .i64 0, ?_, S1, ⟨rfl, HQ.out.1⟩, HQ.out.2⟩
    simp [results, Tryz.f20, go_sem]
  case stop =>
    rintro D c pre W hD _ h _
    exact h.elim
end
end Go.Proofs.YtpcomekikeoliaaGreatDoor

namespace Go.Proofs.YtpcomekikeoliaaGreatDoor
open Go Go.RowKit

variable {F0 : Nat → Prop} {w0 w : World} {Ps : List Res}

theorem list_set_same {α : Type} {l : List α} {i : Nat} {a : α} (h : l[i]? = some a) : l.set i a = l := by
  apply List.ext_getElem?
  intro k
  rw [List.getElem?_set]
  have := (List.getElem?_eq_some_iff.1 h).1
  by_cases e : i = k
  · subst e; rw [if_pos rfl, if_pos this, h]
  · rw [if_neg e]

section
variable {b : Nat} {m la : Int} {S S' : Slb} {T T' : HTbl} {H H' : List Ent} {R R' : List Rc}

/-- A node that does not fit. -/
theorem bnmake_arg (h : Sep F0 w0 w Ps) (i : Nat) (hi : Ps[i]? = some (stR b m la S T)) (I : StInv S T H R) {sk sv sc : Option Addr} {ck cv cc : Nat} {x : Nd} (hx : HasR w sc x.kids) (lk : x.keys.length ≤ maxLen) (lc : x.kids.length ≤ maxLen) {t : Int} (hf : Nd.fitB t x = false) :
    Calls Tryz.prog 19 #[.pointer (some ⟨b, 0, none⟩), .int .i64 t, ndV sk ck sv cv sc cc x] w fun e w' => e = .returned (.tuple #[.int .u64 0, .int .i64 2]) ∧ Mod No w w' := by
  have hm : Mod No w (w.alloc (.cells #[.slice sk x.keys.length ck, .slice sv x.vals.length cv, .slice sc x.kids.length cc, .int .u64 x.size] 54)) := (Mod.refl No w).alloc _
  have hl := stlen_call (h.more hm) i hi I (hh := 0) (by omega) (.stale T.at_zero)
  have hc := fits_call (sk := sk) (sv := sv) (ck := ck) (cv := cv) (cc := cc) (hx.mod hm) lk lc t
  rw [hf] at hc
  have HM := Lib.hid hm
  clear h hi I hx lk lc hf hm
  go_enter Tryz.func19, Tryz.ntmps19
  go_wp2_with fail
  refine hl.mono ?_
  rintro e w' ⟨rfl, rfl⟩
  clear hl
  go_wp2_with fail
  refine hc.mono ?_
  rintro e w2 ⟨rfl, hm2⟩
  have HM2 := Lib.hid (HM.out.trans' hm2)
  clear hc hm2
  go_wp2
  go_ret2
  exact ⟨rfl, HM2.out⟩

theorem bnmake_no (h : Sep F0 w0 w Ps) (i : Nat) (hi : Ps[i]? = some (stR b m la S T)) (I : StInv S T H R) (hT : Tab64 w) {sk sv sc : Option Addr} {ck cv cc : Nat} {x : Nd} (hx : HasR w sc x.kids) (lk : x.keys.length ≤ maxLen) (lc : x.kids.length ≤ maxLen)
    {t n6 : Nat} (hf : Nd.fitB (t : Int) x = true) (hn6 : 6 * t = n6) {hd er : Int} (M : Made S T H R (n6 : Int) hd er S' T' H' R') (he : er ≠ 0) :
    Calls Tryz.prog 19 #[.pointer (some ⟨b, 0, none⟩), .int .i64 (t : Nat), ndV sk ck sv cv sc cc x] w fun e w' => e = .returned (.tuple #[.int .u64 0, .int .i64 er]) ∧ Sep F0 w0 w' (Ps.set i (stR b m la S' T')) := by
  have hm : Mod No w (w.alloc (.cells #[.slice sk x.keys.length ck, .slice sv x.vals.length cv, .slice sc x.kids.length cc, .int .u64 x.size] 54)) := (Mod.refl No w).alloc _
  have hl := stlen_call (h.more hm) i hi I (hh := 0) (by omega) (.stale T.at_zero)
  have hc := fits_call (sk := sk) (sv := sv) (ck := ck) (cv := cv) (cc := cc) (hx.mod hm) lk lc (t : Int)
  rw [hf] at hc
  obtain ⟨rfl, _, _, _⟩ := M.err he
  have d : (er != 0) = true := bneT he
  have F := Nd.Fits.of hf
  have ht96 : t ≤ 16 ∧ n6 ≤ 96 := by have := F.t16; omega
  have e6 : IntKind.i64.wrap (6 * (t : Int)) = (n6 : Int) := by rw [IntKind.wrap_i64]; omega
  have HM := Lib.hid (And.intro (h.more hm) (And.intro hi (And.intro (hT.mod hm) M)))
  clear h hi I hx lk lc hf hm hT M F hn6 he
  go_enter Tryz.func19, Tryz.ntmps19
  go_wp2_with fail
  refine hl.mono ?_
  rintro e w' ⟨rfl, rfl⟩
  clear hl
  go_wp2_with fail
  refine hc.mono ?_
  rintro e w2 ⟨rfl, hm2⟩
  have hk := stmake_call (HM.out.1.more hm2) i HM.out.2.1 (HM.out.2.2.1.mod hm2) HM.out.2.2.2
  clear hc hm2
  go_wp2_with fail
  refine hk.mono ?_
  rintro e w3 ⟨rfl, h3⟩
  have H3 := Lib.hid h3
  clear hk h3
  go_wp2
  go_ret2
  exact ⟨rfl, H3.out⟩

set_option maxHeartbeats 1000000 in
theorem bnmake_ok (h : Sep F0 w0 w Ps) (i : Nat) (hi : Ps[i]? = some (stR b m la S T)) (I : StInv S T H R) (hT : Tab64 w) {sk sv sc : Option Addr} {ck cv cc : Nat} {x : Nd} (hx : ∀ (wr : World) (S1 : Slb) (T1 : HTbl), Sep F0 w0 wr (Ps.set i (stR b m la S1 T1)) → NdAt wr sk sv sc x) (hxo : x.Ok) (lk : x.keys.length ≤ maxLen) (lc : x.kids.length ≤ maxLen)
    {t n6 : Nat} (hf : Nd.fitB (t : Int) x = true) (hn6 : 6 * t = n6) {hd : Int} (M : Made S T H R (n6 : Int) hd 0 S' T' H' R') :
    Calls Tryz.prog 19 #[.pointer (some ⟨b, 0, none⟩), .int .i64 (t : Nat), ndV sk ck sv cv sc cc x] w fun e w' => ∃ (p : Slb × Nat), (e = .returned (.tuple #[.int .u64 hd, .int .i64 0]) ∧ StInv p.1 T' H' (R ++ [⟨hd, (p.2 : Int), Nd.ws t x⟩]) ∧ p.1.pg = S'.pg ∧ p.1.quota = S'.quota) ∧ Sep F0 w0 w' (Ps.set i (stR b m la p.1 T')) := by
  have il := (List.getElem?_eq_some_iff.1 hi).1
  have hm : Mod No w (w.alloc (.cells #[.slice sk x.keys.length ck, .slice sv x.vals.length cv, .slice sc x.kids.length cc, .int .u64 x.size] 54)) := (Mod.refl No w).alloc _
  have hl := stlen_call (h.more hm) i hi I (hh := 0) (by omega) (.stale T.at_zero)
  have hx1 : NdAt w sk sv sc x := hx w S T (by rw [list_set_same hi]; exact h)
  have hc := fits_call (sk := sk) (sv := sv) (ck := ck) (cv := cv) (cc := cc) (hx1.kids.mod hm) lk lc (t : Int)
  rw [hf] at hc
  have h2 := h.pushCells #[.slice sk x.keys.length ck, .slice sv x.vals.length cv, .slice sc x.kids.length cc, .int .u64 x.size] 54
  have F := Nd.Fits.of hf
  have ht96 : t ≤ 16 ∧ n6 ≤ 96 := by have := F.t16; omega
  have e6 : IntKind.i64.wrap (6 * (t : Int)) = (n6 : Int) := by rw [IntKind.wrap_i64]; omega
  obtain ⟨_, _, _, a, hR'⟩ := M.good rfl
  rw [Int.toNat_natCast] at hR'
  have HK : Hid (StInv S' T' H' (R ++ [⟨hd, (a : Int), List.replicate n6 0⟩])) := by have := M.inv; rw [hR'] at this; exact this
  have hrg := M.range
  have hj : (R ++ [(⟨hd, (a : Int), List.replicate n6 0⟩ : Rc)])[R.length]? = some ⟨hd, (a : Int), List.replicate n6 0⟩ := by rw [List.getElem?_append_right (Nat.le_refl _), Nat.sub_self]; rfl
  have HJ := Lib.hid (And.intro hj (show 0 ≤ hd ∧ hd < 18446744073709551616 from ⟨hrg.1, hrg.2.1⟩))
  have HM := Lib.hid (And.intro h2 (And.intro hi (And.intro (hT.mod hm) (And.intro M il))))
  have HX := Lib.hid (And.intro hx (And.intro hxo (And.intro lk (And.intro lc (And.intro hf hn6)))))
  obtain ⟨bx, hbx⟩ : ∃ x, w.heap.size = x := ⟨_, rfl⟩
  rw [hbx] at HM
  clear h hi I hx hx1 lk lc hf hm hT M F hn6 h2 hj hR' hrg il hxo
  go_enter Tryz.func19, Tryz.ntmps19
  go_wp2_with fail
  refine hl.mono ?_
  rintro e w' ⟨rfl, rfl⟩
  clear hl
  go_wp2_with fail
  refine hc.mono ?_
  rintro e w2 ⟨rfl, hm2⟩
  have hk := stmake_call (HM.out.1.more hm2) i (by rw [List.getElem?_append_left HM.out.2.2.2.2]; exact HM.out.2.1) (HM.out.2.2.1.mod hm2) HM.out.2.2.2.1
  clear hc hm2
  go_wp2_with fail
  refine hk.mono ?_
  rintro e w3 ⟨rfl, h3⟩
  rw [List.set_append_left _ _ HM.out.2.2.2.2] at h3
  have hlen : (Ps.set i (stR b m la S' T')).length = Ps.length := List.length_set
  have hb : (Ps.set i (stR b m la S' T') ++ [cellsAt bx #[.slice sk x.keys.length ck, .slice sv x.vals.length cv, .slice sc x.kids.length cc, .int .u64 x.size] 54])[Ps.length]? = some (cellsAt bx #[.slice sk x.keys.length ck, .slice sv x.vals.length cv, .slice sc x.kids.length cc, .int .u64 x.size] 54) := by
    rw [List.getElem?_append_right (by rw [hlen]; exact Nat.le_refl _), hlen, Nat.sub_self]; rfl
  have k0 := (h3.cell _ hb 0 (v := .slice sk x.keys.length ck) rfl).1
  have k1 := (h3.cell _ hb 1 (v := .slice sv x.vals.length cv) rfl).1
  have k2 := (h3.cell _ hb 2 (v := .slice sc x.kids.length cc) rfl).1
  have k3 := (h3.cell _ hb 3 (v := .int .u64 x.size) rfl).1
  have h4 := Sep.left h3
  have hp := bnput_in (ck := ck) (cv := cv) (cc := cc) h4 i (by rw [List.getElem?_set, if_pos rfl, if_pos HM.out.2.2.2.2]) HK.out (hh := hd) HJ.out.2 ⟨HJ.out.1, Int.natCast_nonneg a, rfl⟩ (HX.out.1 w3 S' T' h4) HX.out.2.1 HX.out.2.2.1 HX.out.2.2.2.1 HX.out.2.2.2.2.1 (by rw [List.length_replicate, HX.out.2.2.2.2.2])
  clear hk h3 h4 hb hlen
  go_wp2_with fail
  refine hp.mono ?_
  rintro e w4 ⟨S2, ⟨rfl, hO⟩, h5⟩
  rw [List.set_set] at h5
  have H5 := Lib.hid h5
  have HO := Lib.hid hO
  clear hp h5 hO
  go_wp2
  go_ret2
  refine ⟨(S2, a), ⟨rfl, ?_, HO.out.2⟩, H5.out⟩
  have hI := HO.out.1
  have hwl : (Nd.ws t x).length = 6 * t := Nd.ws_len t x
  rw [← hwl, putW_all _ (by rw [hwl, List.length_replicate, HX.out.2.2.2.2.2])] at hI
  have e : (R ++ [(⟨hd, (a : Int), List.replicate n6 0⟩ : Rc)]).set R.length { (⟨hd, (a : Int), List.replicate n6 0⟩ : Rc) with w := Nd.ws t x } = R ++ [⟨hd, (a : Int), Nd.ws t x⟩] := by
    rw [List.set_append_right _ _ (Nat.le_refl _), Nat.sub_self]
    rfl
  rw [e] at hI
  exact hI
end
end Go.Proofs.YtpcomekikeoliaaGreatDoor
