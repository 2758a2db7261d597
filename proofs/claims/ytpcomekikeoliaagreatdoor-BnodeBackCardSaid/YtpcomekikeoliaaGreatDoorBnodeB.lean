/- The document's bnode, walked: degree, Fits; and the law's long. Conditions: a node's slices hold what is said, and are not long. | Package bnode, walked: without a store; Get of nothing; the document's Same of nothing. Conditions: there is no store; or the store's records are as said. | The document's words of a node: a plain law, and the walk of loftref15.Words. Conditions: the node fits, is not long, and its slices hold what is said. -/
import Derived.Test.YtpcomekikeoliaaGreatDoorBnodeA
import Derived.Test.YtpcomekikeoliaaGreatDoorStoreNils
import Derived.Test.YtpcomekikeoliaaGreatDoorSrc
import Derived.Deep.RegionHeld3
import Derived.Deep.DeepCutAuto
set_option linter.unusedVariables false
set_option linter.unusedSimpArgs false
set_option maxRecDepth 100000
namespace Go.Proofs.YtpcomekikeoliaaGreatDoor
open Go Go.RowKit

variable {F0 : Nat → Prop} {w0 w : World} {Ps : List Res}

/-- Are there more in a node than a law takes? -/
def Nd.short (x : Nd) : Prop := x.keys.length ≤ 100 ∧ x.vals.length ≤ 100 ∧ x.kids.length ≤ 100
theorem long_call (sk : Option Addr) (ck : Nat) (sv : Option Addr) (cv : Nat) (sc : Option Addr) (cc : Nat) (x : Nd) (w : World) :
    Calls Tryz.prog 18 #[ndV sk ck sv cv sc cc x] w fun e w' => ∃ c : Bool, e = .returned (.bool c) ∧ (c = false ↔ x.short) ∧ Mod No w w' := by
  have HM : Hid (Mod No w (w.alloc (.cells #[.slice sk x.keys.length ck, .slice sv x.vals.length cv, .slice sc x.kids.length cc, .int .u64 x.size] 54))) := (Mod.refl No w).alloc _
  unfold Nd.short
  unfold ndV
  obtain ⟨nk, hk⟩ : ∃ n, x.keys.length = n := ⟨_, rfl⟩
  obtain ⟨nv, hv⟩ : ∃ n, x.vals.length = n := ⟨_, rfl⟩
  obtain ⟨nc, hc⟩ : ∃ n, x.kids.length = n := ⟨_, rfl⟩
  obtain ⟨sz, hsz⟩ : ∃ v, x.size = v := ⟨_, rfl⟩
  rw [hk, hv, hc, hsz] at HM ⊢
  clear hk hv hc hsz
  by_cases h1 : nk ≤ 100
  · have d1 : decide ((100 : Int) < (nk : Int)) = false := ltF (by omega)
    by_cases h2 : nv ≤ 100
    · have d2 : decide ((100 : Int) < (nv : Int)) = false := ltF (by omega)
      obtain ⟨c, hcd⟩ : ∃ c, decide ((100 : Int) < (nc : Int)) = c := ⟨_, rfl⟩
      have hcc : c = false ↔ nc ≤ 100 := by rw [← hcd]; rw [decide_eq_false_iff_not]; omega
      have HC := Lib.hid (And.intro h1 (And.intro h2 hcc))
      clear h1 h2 hcc
      go_enter Tryz.func18, Tryz.ntmps18
      go_wp2
      go_ret
      exact ⟨c, rfl, ⟨fun h => ⟨HC.out.1, HC.out.2.1, HC.out.2.2.1 h⟩, fun h => HC.out.2.2.2 h.2.2⟩, HM.out⟩
    · have d2 : decide ((100 : Int) < (nv : Int)) = true := ltT (by omega)
      have HC := Lib.hid h2
      clear h1 h2
      go_enter Tryz.func18, Tryz.ntmps18
      go_wp2
      go_ret
      exact ⟨true, rfl, ⟨fun h => (by cases h), fun h => absurd h.2.1 HC.out⟩, HM.out⟩
  · have d1 : decide ((100 : Int) < (nk : Int)) = true := ltT (by omega)
    have HC := Lib.hid h1
    clear h1
    go_enter Tryz.func18, Tryz.ntmps18
    go_wp2
    go_ret
    exact ⟨true, rfl, ⟨fun h => (by cases h), fun h => absurd h.1 HC.out⟩, HM.out⟩


end Go.Proofs.YtpcomekikeoliaaGreatDoor

namespace Go.Proofs.YtpcomekikeoliaaGreatDoor
open Go Go.RowKit

/-- No node. -/
abbrev nd0 : Value := .agg #[.slice none 0 0, .slice none 0 0, .slice none 0 0, .int .u64 0]

section
variable {p : Option Addr} {w : World}
theorem zbnMake (hN : NoStore p w) (t : Int) (sk : Option Addr) (nk ck : Nat) (sv : Option Addr) (nv cv : Nat) (sc : Option Addr) (nc cc : Nat) (sz : Int) :
    Calls Tryz.prog 19 #[.pointer p, .int .i64 t, .agg #[.slice sk nk ck, .slice sv nv cv, .slice sc nc cc, .int .u64 sz]] w fun e w' => e = .returned (.tuple #[.int .u64 0, .int .i64 1]) ∧ Mod No w w' := by
  have hm := (Mod.refl No w).alloc (.cells #[.slice sk nk ck, .slice sv nv cv, .slice sc nc cc, .int .u64 sz] 54)
  have hl := zstLen (hN.mod hm) 0
  have HM := Lib.hid hm
  clear hN hm
  go_enter Tryz.func19, Tryz.ntmps19
  go_wp2_with fail
  refine hl.mono ?_
  rintro e w' ⟨rfl, rfl⟩
  clear hl
  go_wp2
  go_ret2
  exact ⟨rfl, HM.out⟩
theorem zbnGet (hN : NoStore p w) (t hh : Int) :
    Calls Tryz.prog 22 #[.pointer p, .int .i64 t, .int .u64 hh] w fun e w' => e = .returned (.tuple #[nd0, .int .i64 1]) ∧ Mod No w w' := by
  have hm0 := ((((Mod.refl No w).alloc (.cells #[.pointer p] 46)).alloc (.cells #[.int .u64 hh] 55)).alloc (.cells #[.slice none 0 0, .slice none 0 0, .slice none 0 0, .int .u64 0] 54)).alloc (.cells #[.int .i64 0] 39)
  have hm1 := ((((Mod.refl No w).alloc (.cells #[.pointer p] 46)).alloc (.cells #[.int .u64 hh] 55)).alloc (.cells #[.slice none 0 0, .slice none 0 0, .slice none 0 0, .int .u64 0] 54)).alloc (.cells #[.int .i64 1] 39)
  have hl := zstLen (hN.mod hm0) 0
  have HM := Lib.hid hm1
  clear hN hm0 hm1
  go_enter Tryz.func22, Tryz.ntmps22
  go_wp2_with fail
  refine hl.mono ?_
  rintro e w' ⟨rfl, rfl⟩
  clear hl
  go_wp2
  refine bodyPost_ret (v := .tuple #[nd0, .int .i64 1]) ?_ rfl ⟨rfl, ?_⟩
  · simp [results, Tryz.f22, go_sem]
  · exact HM.out
theorem zbnPut (hN : NoStore p w) (t hh : Int) (sk : Option Addr) (nk ck : Nat) (sv : Option Addr) (nv cv : Nat) (sc : Option Addr) (nc cc : Nat) (sz : Int) :
    Calls Tryz.prog 20 #[.pointer p, .int .i64 t, .int .u64 hh, .agg #[.slice sk nk ck, .slice sv nv cv, .slice sc nc cc, .int .u64 sz]] w fun e w' => e = .returned (.int .i64 1) ∧ Mod No w w' := by
  have hm := (((Mod.refl No w).alloc (.cells #[.pointer p] 46)).alloc (.cells #[.int .u64 hh] 55)).alloc (.cells #[.slice sk nk ck, .slice sv nv cv, .slice sc nc cc, .int .u64 sz] 54)
  have hl := zstLen (hN.mod hm) 0
  have HM := Lib.hid hm
  clear hN hm
  go_enter Tryz.func20, Tryz.ntmps20
  go_wp2_with fail
  refine hl.mono ?_
  rintro e w' ⟨rfl, rfl⟩
  clear hl
  go_wp2
  go_ret
  exact ⟨rfl, HM.out⟩
end

section
variable {F0 : Nat → Prop} {w0 w : World} {Ps : List Res} {b : Nat} {m la : Int} {S : Slb} {T : HTbl} {H : List Ent} {R : List Rc}
theorem bnget_arg (h : Sep F0 w0 w Ps) (i : Nat) (hi : Ps[i]? = some (stR b m la S T)) (I : StInv S T H R) (t hh : Int) (hd : Nd.degB t = false) :
    Calls Tryz.prog 22 #[.pointer (some ⟨b, 0, none⟩), .int .i64 t, .int .u64 hh] w fun e w' => e = .returned (.tuple #[nd0, .int .i64 2]) ∧ Mod No w w' := by
  have hm0 := ((((Mod.refl No w).alloc (.cells #[.pointer (some ⟨b, 0, none⟩)] 46)).alloc (.cells #[.int .u64 hh] 55)).alloc (.cells #[.slice none 0 0, .slice none 0 0, .slice none 0 0, .int .u64 0] 54)).alloc (.cells #[.int .i64 0] 39)
  have hm1 := ((((Mod.refl No w).alloc (.cells #[.pointer (some ⟨b, 0, none⟩)] 46)).alloc (.cells #[.int .u64 hh] 55)).alloc (.cells #[.slice none 0 0, .slice none 0 0, .slice none 0 0, .int .u64 0] 54)).alloc (.cells #[.int .i64 2] 39)
  have hl := stlen_call (h.more hm0) i hi I (hh := 0) (by omega) (.stale T.at_zero)
  have hs := fun W => is_call t W
  rw [hd] at hs
  have HM := Lib.hid hm1
  have HSS := Lib.hid hs
  clear h hi I hm0 hm1 hd hs
  go_enter Tryz.func22, Tryz.ntmps22
  go_wp2_with fail
  refine hl.mono ?_
  rintro e w' ⟨rfl, rfl⟩
  clear hl
  go_wp2_with fail
  refine (HSS.out _).mono ?_
  rintro e w' ⟨rfl, rfl⟩
  go_wp2
  refine bodyPost_ret (v := .tuple #[nd0, .int .i64 2]) ?_ rfl ⟨rfl, ?_⟩
  · simp [results, Tryz.f22, go_sem]
  · exact HM.out
theorem bnget_stale (h : Sep F0 w0 w Ps) (i : Nat) (hi : Ps[i]? = some (stR b m la S T)) (I : StInv S T H R) (t : Int) (hd : Nd.degB t = true) :
    Calls Tryz.prog 22 #[.pointer (some ⟨b, 0, none⟩), .int .i64 t, .int .u64 0] w fun e w' => e = .returned (.tuple #[nd0, .int .i64 7]) ∧ Mod No w w' := by
  have hm0 := ((((Mod.refl No w).alloc (.cells #[.pointer (some ⟨b, 0, none⟩)] 46)).alloc (.cells #[.int .u64 0] 55)).alloc (.cells #[.slice none 0 0, .slice none 0 0, .slice none 0 0, .int .u64 0] 54)).alloc (.cells #[.int .i64 0] 39)
  have hm1 := ((((Mod.refl No w).alloc (.cells #[.pointer (some ⟨b, 0, none⟩)] 46)).alloc (.cells #[.int .u64 0] 55)).alloc (.cells #[.slice none 0 0, .slice none 0 0, .slice none 0 0, .int .u64 0] 54)).alloc (.cells #[.int .i64 7] 39)
  have hl := stlen_call (h.more hm0) i hi I (hh := 0) (by omega) (.stale T.at_zero)
  have hs := fun W => is_call t W
  rw [hd] at hs
  have HM := Lib.hid hm1
  have HSS := Lib.hid hs
  have HL := Lib.hid hl
  clear h hi I hm0 hm1 hd hs hl
  go_enter Tryz.func22, Tryz.ntmps22
  go_wp2_with fail
  refine HL.out.mono ?_
  rintro e w' ⟨rfl, rfl⟩
  go_wp2_with fail
  refine (HSS.out _).mono ?_
  rintro e w' ⟨rfl, rfl⟩
  go_wp2_with fail
  refine HL.out.mono ?_
  rintro e w' ⟨rfl, rfl⟩
  go_wp2
  refine bodyPost_ret (v := .tuple #[nd0, .int .i64 7]) ?_ rfl ⟨rfl, ?_⟩
  · simp [results, Tryz.f22, go_sem]
  · exact HM.out
end
end Go.Proofs.YtpcomekikeoliaaGreatDoor

namespace Go.Proofs.YtpcomekikeoliaaGreatDoor
open Go Go.RowKit

namespace Nd
def prs (x : Nd) (n : Nat) : List Int := (List.range n).flatMap fun i => [x.keys.getD i 0, x.vals.getD i 0]
def kds (x : Nd) (n : Nat) : List Int := (List.range n).map fun i => x.kids.getD i 0
/-- What the document lays: the head, some pairs, some kids. -/
def rw1 (x : Nd) (n : Nat) : List Int := [(x.keys.length : Int), x.size] ++ prs x n
def rw2 (t : Nat) (x : Nd) (n : Nat) : List Int := rw1 x (2 * t - 1) ++ kds x n
theorem prs_succ (x : Nd) (n : Nat) : prs x (n + 1) = prs x n ++ [x.keys.getD n 0, x.vals.getD n 0] := by
  unfold prs
  rw [List.range_succ, List.flatMap_append]
  rfl
theorem kds_succ (x : Nd) (n : Nat) : kds x (n + 1) = kds x n ++ [x.kids.getD n 0] := by
  unfold kds
  rw [List.range_succ, List.map_append]
  rfl
theorem prs_len (x : Nd) : ∀ n, (prs x n).length = 2 * n
  | 0 => rfl
  | n + 1 => by rw [prs_succ, List.length_append, prs_len x n]; rfl
theorem kds_len (x : Nd) (n : Nat) : (kds x n).length = n := by simp [kds]
theorem rw1_len (x : Nd) (n : Nat) : (rw1 x n).length = 2 + 2 * n := by unfold rw1; rw [List.length_append, prs_len]; rfl
theorem rw1_succ (x : Nd) (n : Nat) : rw1 x (n + 1) = rw1 x n ++ [x.keys.getD n 0, x.vals.getD n 0] := by unfold rw1; rw [prs_succ, List.append_assoc]
theorem rw2_succ (t : Nat) (x : Nd) (n : Nat) : rw2 t x (n + 1) = rw2 t x n ++ [x.kids.getD n 0] := by unfold rw2; rw [kds_succ, List.append_assoc]
theorem rw2_len (t : Nat) (ht : 1 ≤ t) (x : Nd) (n : Nat) : (rw2 t x n).length = 4 * t + n := by unfold rw2; rw [List.length_append, rw1_len, kds_len]; omega
theorem wK_eq {t : Nat} (x : Nd) : ∀ k, 2 + 2 * k ≤ 6 * t → wK t x k = rw1 x k ++ List.replicate (6 * t - (2 + 2 * k)) 0
  | 0, h => by
    unfold wK w0 rw1 prs
    obtain ⟨m, hm⟩ : ∃ m, 6 * t = m + 2 := ⟨6 * t - 2, by omega⟩
    rw [hm, show m + 2 - (2 + 2 * 0) = m by omega, List.replicate_succ, List.replicate_succ]
    rfl
  | k + 1, h => by
    unfold wK
    rw [wK_eq x k (by omega)]
    obtain ⟨m, hm⟩ : ∃ m, 6 * t - (2 + 2 * k) = m + 2 := ⟨6 * t - (2 + 2 * k) - 2, by omega⟩
    rw [hm, show 6 * t - (2 + 2 * (k + 1)) = m by omega, List.replicate_succ, List.replicate_succ, List.set_append_right _ _ (by rw [rw1_len]; omega), rw1_len,
      show 2 + 2 * k - (2 + 2 * k) = 0 by omega, List.set_cons_zero, List.set_append_right _ _ (by rw [rw1_len]; omega), rw1_len, show 2 + 2 * k + 1 - (2 + 2 * k) = 1 by omega, List.set_cons_succ, List.set_cons_zero, rw1_succ, List.append_assoc]
    rfl
theorem rw1_pad (x : Nd) (hv : x.vals.length = x.keys.length) : ∀ d, rw1 x (x.keys.length + d) = rw1 x x.keys.length ++ List.replicate (2 * d) 0
  | 0 => by simp
  | d + 1 => by
    rw [← Nat.add_assoc, rw1_succ, rw1_pad x hv d, List.append_assoc]
    congr 1
    have h1 : x.keys.getD (x.keys.length + d) 0 = 0 := by rw [List.getD_eq_getElem?_getD, List.getElem?_eq_none (by omega)]; rfl
    have h2 : x.vals.getD (x.keys.length + d) 0 = 0 := by rw [List.getD_eq_getElem?_getD, List.getElem?_eq_none (by omega)]; rfl
    rw [h1, h2, show 2 * (d + 1) = 2 * d + 2 by omega, ← List.replicate_append_replicate]
    rfl
theorem kds_pad (x : Nd) : ∀ d, kds x (x.kids.length + d) = kds x x.kids.length ++ List.replicate d 0
  | 0 => by simp
  | d + 1 => by
    rw [← Nat.add_assoc, kds_succ, kds_pad x d, List.append_assoc]
    congr 1
    have h1 : x.kids.getD (x.kids.length + d) 0 = 0 := by rw [List.getD_eq_getElem?_getD, List.getElem?_eq_none (by omega)]; rfl
    rw [h1, ← List.replicate_append_replicate]
    rfl
theorem wC_eq {t : Nat} {x : Nd} (F : Fits t x) : ∀ k, k ≤ 2 * t → wC t x k = rw2 t x k ++ List.replicate (2 * t - k) 0
  | 0, _ => by
    have h1 := F.t2
    have h2 := F.keys
    unfold wC
    rw [wK_eq x _ (by omega)]
    obtain ⟨d, hd⟩ : ∃ d, 2 * t - 1 = x.keys.length + d := ⟨2 * t - 1 - x.keys.length, by omega⟩
    unfold rw2 kds
    rw [hd, rw1_pad x F.vals d, List.range_zero, List.map_nil, List.append_nil, List.append_assoc]
    congr 1
    rw [List.replicate_append_replicate]
    congr 1
    omega
  | k + 1, h => by
    have h1 := F.t2
    unfold wC
    rw [wC_eq F k (by omega)]
    obtain ⟨m, hm⟩ : ∃ m, 2 * t - k = m + 1 := ⟨2 * t - k - 1, by omega⟩
    rw [hm, show 2 * t - (k + 1) = m by omega, List.replicate_succ, List.set_append_right _ _ (by rw [rw2_len t (by omega)]; omega), rw2_len t (by omega), show 4 * t + k - (4 * t + k) = 0 by omega, List.set_cons_zero, rw2_succ, List.append_assoc]
    rfl
/-- The document's words are the program's. -/
theorem ws_eq {t : Nat} {x : Nd} (F : Fits t x) : rw2 t x (2 * t) = ws t x := by
  have h1 := F.t2
  have h2 := F.keys
  have hc : x.kids.length ≤ 2 * t := by rcases F.kids with h | h <;> omega
  unfold ws
  rw [wC_eq F _ hc]
  obtain ⟨d, hd⟩ : ∃ d, 2 * t = x.kids.length + d := ⟨2 * t - x.kids.length, by omega⟩
  unfold rw2
  rw [List.append_assoc]
  congr 1
  conv => lhs; rw [hd, kds_pad]
  congr 1
  congr 1
  omega
end Nd

theorem infoU64R : (Tryz.prog.info? 52).map (fun i => (i.zero, i.size, i.bytes)) = some (some (.int .u64 0), 1, 8) := by kernel_rfl
theorem src_two (w : World) (a b : Int) : SrcOf (w.alloc (.cells #[.int .u64 a, .int .u64 b] 52)) 1 (.slice (some ⟨w.heap.size, 0, none⟩) 2 2) 2 [.int .u64 a, .int .u64 b] :=
  srcOf_row (e := 52) (World.ownsRow_lit (base := 0) w #[.int .u64 a, .int .u64 b] 2 (Nat.zero_le _) (by unfold maxLen; omega) rfl) (fun u hu => by
    simp only [List.mem_cons, List.not_mem_nil, or_false] at hu
    rcases hu with rfl | rfl <;> rfl)
abbrev rwR (lv : Value) (n : Nat) (l : List Int) : Res := rowAt 52 1 lv n (l.map (Value.int .u64))


end Go.Proofs.YtpcomekikeoliaaGreatDoor
