/- nth and step of package loftlaw06, walked. Conditions: the store's records are as said; the table of math/bits holds what its initialiser lays. | alike of package loftlaw06, walked: two raws of the same. Conditions: both lie in memory as said. | The laws' awake of package loftlaw06, walked. Condition: the table of math/bits holds what its initialiser lays. -/
import Derived.Test.YtmdnofojecncgaaGreatDoorTwinSpec
import Derived.Test.YtmdnofojecncgaaGreatDoorFill
import Derived.Test.YtmdnofojecncgaaGreatDoorStoreOfW
import Derived.ChangeKeysEq
import Derived.Test.YtmdnofojecncgaaGreatDoorStoreFirst
import Derived.Test.YtmdnofojecncgaaGreatDoorStoreWalk2
import Derived.Test.YtmdnofojecncgaaGreatDoorStoreMake
set_option linter.unusedVariables false
set_option linter.unusedSimpArgs false
set_option maxRecDepth 100000
namespace Go.Proofs.YtmdnofojecncgaaGreatDoor
open Go Go.RowKit

variable {F0 : Nat → Prop} {w0 w : World} {Ps : List Res}

theorem nth06_call (h : Sep F0 w0 w Ps) (i : Nat) {sa : Option Addr} {L cap : Nat} {ls : List Int} (hi : Ps[i]? = some (hdRow (.slice sa L cap) L ls)) (hl : ls.length = L) (hb : L ≤ 1000) (n : Int) (hn : -9223372036854775808 ≤ n ∧ n ≤ 9223372036854775807) :
    Calls Tryz.prog 72 #[.slice sa L cap, .int .i64 n] w fun e w' => e = .returned (.int .u64 (nthI ls n)) ∧ w = w' := by
  rcases Nat.eq_zero_or_pos L with h0 | h0
  · have e : nthI ls n = 0 := by unfold nthI; rw [if_pos (by omega)]
    rw [e]
    subst h0
    clear h hi hl e
    go_enter Tryz.func72, Tryz.ntmps72
    go_wp2
    go_ret
    exact ⟨rfl, rfl⟩
  · have hm : -(L : Int) < n.tmod (L : Int) ∧ n.tmod (L : Int) < (L : Int) := by
      have h1 := Int.tmod_lt_of_pos n (show (0 : Int) < (L : Int) by omega)
      have h2 := Int.tmod_lt_of_pos (-n) (show (0 : Int) < (L : Int) by omega)
      rw [Int.neg_tmod] at h2
      omega
    have hz : ((L : Int) == 0) = false := beqF (by omega)
    have hN : nthI ls n = ls.getD ((if n.tmod L < 0 then n.tmod L + L else n.tmod L).toNat) 0 := by unfold nthI; rw [hl, if_neg (by omega)]
    obtain ⟨m, hme⟩ : ∃ m, n.tmod (L : Int) = m := ⟨_, rfl⟩
    have hms : n.tmod (L : Int) = m := hme
    rw [hme] at hm hN
    rcases Int.lt_or_le m 0 with hneg | hpos
    · obtain ⟨k, hk⟩ := Int.eq_ofNat_of_zero_le (show 0 ≤ m + L by omega)
      have hkl : k < ls.length := by omega
      rw [if_pos hneg, hk, Int.toNat_natCast, List.getD_eq_getElem?_getD, List.getElem?_eq_getElem hkl, Option.getD_some] at hN
      rw [hN]
      obtain ⟨g, rfl, c, _⟩ := h.item i hi (o := k) (x := .int .u64 ls[k]) (by rw [List.getElem?_map, List.getElem?_eq_getElem hkl]; rfl)
      generalize ls[k] = x at *
      have hkL : (k : Int) < (L : Int) := by omega
      clear h hi hl hme hkl hN
      go_enter Tryz.func72, Tryz.ntmps72
      go_wp2
      go_ret
      exact ⟨rfl, rfl⟩
    · obtain ⟨k, hk⟩ := Int.eq_ofNat_of_zero_le hpos
      subst hk
      have hkl : k < ls.length := by omega
      rw [if_neg (by omega), Int.toNat_natCast, List.getD_eq_getElem?_getD, List.getElem?_eq_getElem hkl, Option.getD_some] at hN
      rw [hN]
      obtain ⟨g, rfl, c, _⟩ := h.item i hi (o := k) (x := .int .u64 ls[k]) (by rw [List.getElem?_map, List.getElem?_eq_getElem hkl]; rfl)
      generalize ls[k] = x at *
      have hkL : (k : Int) < (L : Int) := by omega
      clear h hi hl hme hkl hN
      go_enter Tryz.func72, Tryz.ntmps72
      go_wp2
      go_ret
      exact ⟨rfl, rfl⟩

theorem app_j {i j : Nat} {X r : Res} {tl : List Res} (hij : i ≠ j) (hj : Ps[j]? = some r) : ((Ps.set i X) ++ tl)[j]? = some r := by
  have hl := (List.getElem?_eq_some_iff.1 hj).1
  rw [List.getElem?_append_left (by rw [List.length_set]; exact hl), List.getElem?_set_ne hij]
  exact hj
theorem Sep.dropMid {A : List Res} {x y : Res} (h : Sep F0 w0 w (A ++ [x, y])) : Sep F0 w0 w (A ++ [y]) := by
  refine h.pick (fun k => if k < A.length then k else A.length + 1) (fun k hk => ?_) (fun i j hi hj hij e => ?_)
  · by_cases c : k < A.length
    · rw [if_pos c, List.getElem?_append_left c, List.getElem?_append_left c]
    · rw [if_neg c, List.getElem?_append_right (by omega), List.getElem?_append_right (by omega)]
      rw [List.length_append] at hk
      simp only [List.length_cons, List.length_nil] at hk
      have : k - A.length = 0 := by omega
      rw [this, show A.length + 1 - A.length = 1 by omega]
      rfl
  · rw [List.length_append] at hi hj
    simp only [List.length_cons, List.length_nil] at hi hj
    split at e <;> split at e <;> omega

section
variable {b : Nat} {m la : Int} {S S' : Slb} {T T' : HTbl} {H H' : List Ent} {R R' : List Rc}
theorem Drops.er07 {hh er : Int} (D : Drops S T H R hh er S' T' H' R') : 0 ≤ er ∧ er ≤ 7 := by cases D <;> omega
theorem Puts.er07 {hh k v er : Int} (D : Puts S T H R hh k v er S' R') : 0 ≤ er ∧ er ≤ 7 := by cases D <;> omega
theorem Gets.er07 {hh k v er : Int} (D : Gets T R hh k v er) : 0 ≤ er ∧ er ≤ 7 := by cases D <;> omega
theorem Slides.er07 {hh er : Int} {is : Bool} (D : Slides S T H R hh is er S' T' H' R') : 0 ≤ er ∧ er ≤ 7 := by cases D <;> omega

/-- What a call leaves. -/
def S6Post (F0 : Nat → Prop) (w0 : World) (Ps : List Res) (i j b : Nat) (m la : Int) (a : Int) (S' : Slb) (T' : HTbl) (R' : List Rc) (e : Ending) (w' : World) : Prop :=
  ∃ (sa' : Option Addr) (cap' : Nat) (Qs : List Res) (j' : Nat), e = .returned (.tuple #[.slice sa' R'.length cap', .int .u64 a]) ∧ Sep F0 w0 w' (Ps.set i (stR b m la S' T') ++ Qs) ∧ (j' = j ∨ Ps.length ≤ j') ∧ (Ps.set i (stR b m la S' T') ++ Qs)[j']? = some (hdRow (.slice sa' R'.length cap') R'.length (R'.map (·.h)))


set_option maxRecDepth 100000 in
set_option maxHeartbeats 4000000 in
theorem step06_call (h : Sep F0 w0 w Ps) (i j : Nat) (hij : i ≠ j) (hi : Ps[i]? = some (stR b m la S T)) {sa : Option Addr} {L cap : Nat} (hj : Ps[j]? = some (hdRow (.slice sa L cap) L (R.map (·.h)))) (hL : R.length = L) (hb : L ≤ 100) (hT : Tab64 w) (I : StInv S T H R)
    {d n k x : Int} (hd : -9223372036854775808 ≤ d ∧ d ≤ 9223372036854775807) (hn : -9223372036854775808 ≤ n ∧ n ≤ 9223372036854775807) (hk : -9223372036854775808 ≤ k ∧ k ≤ 9223372036854775807) (hx : 0 ≤ x ∧ x < 18446744073709551616) {a : Int} (D : SStep [d, n, k, x] S T H R a S' T' H' R') :
    Calls Tryz.prog 32 #[.pointer (some ⟨b, 0, none⟩), .slice sa L cap, .agg #[.int .i64 d, .int .i64 n, .int .i64 k, .int .u64 x]] w (S6Post F0 w0 Ps i j b m la a S' T' R') := by
  have hil := (List.getElem?_eq_some_iff.1 hi).1
  have h2 : Sep F0 w0 (w.alloc (.cells #[.int .i64 d, .int .i64 n, .int .i64 k, .int .u64 x] 82)) (Ps.set i (stR b m la S T) ++ [cellsAt w.heap.size #[.int .i64 d, .int .i64 n, .int .i64 k, .int .u64 x] 82]) := by
    rw [setSame hi]
    exact h.pushCells _ _
  have hT2 : Tab64 (w.alloc (.cells #[.int .i64 d, .int .i64 n, .int .i64 k, .int .u64 x] 82)) := hT.mod ((Mod.refl No w).alloc _)
  obtain ⟨ob, hob⟩ : ∃ ob, w.heap.size = ob := ⟨_, rfl⟩
  obtain ⟨W1, hW1⟩ : ∃ W1, w.alloc (.cells #[.int .i64 d, .int .i64 n, .int .i64 k, .int .u64 x] 82) = W1 := ⟨_, rfl⟩
  rw [hW1] at hT2
  rw [hob, hW1] at h2
  have q0 := (h2.cell (Ps.length + 0) (app_tl 0) 0 (v := .int .i64 d) rfl).1
  have q1 := (h2.cell (Ps.length + 0) (app_tl 0) 1 (v := .int .i64 n) rfl).1
  have q2 := (h2.cell (Ps.length + 0) (app_tl 0) 2 (v := .int .i64 k) rfl).1
  have q3 := (h2.cell (Ps.length + 0) (app_tl 0) 3 (v := .int .u64 x) rfl).1
  have hls : (R.map (·.h)).length = L := by rw [List.length_map, hL]
  have hnth := nth06_call h2 j (app_j hij hj) hls (by omega) n hn
  have hnr := I.nth_range n
  have HL := Lib.hid hL
  have HI := Lib.hid I
  have HT := Lib.hid hT2
  have H2 := Lib.hid h2
  clear h hT hL I h2 hT2 hls
  cases D with
  | @make hdl er _ _ _ _ e M =>
    obtain rfl : d = 1 := e
    have M : Made S T H R k _ _ S' T' H' R' := M
    have hc := stmake_call H2.out i (app_get hil) HT.out M
    rw [app_set hil] at hc
    have hrg := M.range
    have HM := Lib.hid M
    obtain ⟨A1, hA1⟩ : ∃ A, IntKind.u64.wrap (hdl * 16) = A := ⟨_, rfl⟩
    have ew : IntKind.u64.wrap er = er := by rw [IntKind.wrap_u64]; omega
    rw [hA1]
    obtain ⟨A2, hA2⟩ : ∃ A, IntKind.u64.wrap (A1 + er) = A := ⟨_, rfl⟩
    rw [hA2]
    clear M
    go_enter Tryz.func32, Tryz.ntmps32
    go_wp2_with fail
    try rw [hW1]
    refine hnth.mono ?_
    rintro e w3 ⟨rfl, rfl⟩
    clear hnth
    go_wp2_with fail
    refine hc.mono ?_
    rintro e w3 ⟨rfl, h3⟩
    clear hc q0 q1 q2 q3 hW1 hob
    by_cases he : er = 0
    · subst he
      have hA2' : IntKind.u64.wrap A1 = A2 := by rw [← hA2, Int.add_zero]
      have hE := h3.pushEmpty 46 1
      rw [List.append_assoc] at hE
      have hE : Sep F0 w0 _ (Ps.set i (stR b m la S' T') ++ [cellsAt ob #[.int .i64 1, .int .i64 n, .int .i64 k, .int .u64 x] 82, rowAt 46 1 (.slice (some ⟨w3.heap.size, 0, none⟩) 0 0) 0 []]) := hE
      have hsrc := srcOf_row (hE.row j (app_j hij hj)) (by simp [Value.oneCell'])
      obtain ⟨i0, hi0, hz0, hz1, hz2⟩ := info_parts infoH7
      clear h3
      go_wp2_with (at_builtin; refine wpList_append_src hE (Ps.length + 1) (app_tl 1) (by rfl) _ _ 38 rfl Tryz.underlying38 hi0 hz0 hz1 hz2 rfl (by decide) (by rfl) _ (by rfl) hsrc (by unfold maxLen; omega) (by omega) ?_)
      intro sb cap2 w4 h4
      try rw [app_tset] at h4
      have h4 : Sep F0 w0 w4 (Ps.set i (stR b m la S' T') ++ [cellsAt ob #[.int .i64 1, .int .i64 n, .int .i64 k, .int .u64 x] 82, rowAt 46 1 (.slice sb (0 + L) cap2) (0 + L) ([] ++ (R.map (·.h)).map (Value.int .u64))]) := by simpa using h4
      rw [Nat.zero_add, List.nil_append] at h4
      clear hE hsrc
      go_wp2_with (at_builtin; refine wpList_append_sep1 h4 (Ps.length + 1) (app_tl 1) (by rfl) _ _ 38 rfl Tryz.underlying38 hi0 hz0 hz1 hz2 rfl (by rfl) _ _ (by rfl) (by simp) (by rfl) _ (by unfold maxLen; omega) (by omega) ?_)
      intro gg capg w5 h5
      try rw [app_tset] at h5
      have h5 : Sep F0 w0 w5 (Ps.set i (stR b m la S' T') ++ [cellsAt ob #[.int .i64 1, .int .i64 n, .int .i64 k, .int .u64 x] 82, rowAt 46 1 (.slice (some ⟨gg, 0, none⟩) (L + 1) capg) (L + 1) ((R.map (·.h)).map (Value.int .u64) ++ [.int .u64 hdl])]) := by simpa using h5
      have HQ := Lib.hid h5.dropMid
      clear h4 h5 hi0 hz0 hz1 hz2
      go_wp2_with fail
      go_ret2
      have e1 : R'.map (·.h) = R.map (·.h) ++ [hdl] := by rw [HM.out.hs]; rfl
      have e2 : R'.length = L + 1 := by have := congrArg List.length e1; rw [List.length_map, List.length_append, List.length_map, HL.out] at this; exact this
      refine ⟨_, capg, _, Ps.length + 0, by rw [e2]; rfl, HQ.out, Or.inr (by omega), ?_⟩
      have := app_tl (Ps := Ps) (i := i) (X := stR b m la S' T') (tl := [rowAt 46 1 (.slice (some ⟨gg, 0, none⟩) (L + 1) capg) (L + 1) ((R.map (·.h)).map (Value.int .u64) ++ [.int .u64 hdl])]) 0
      rw [this, e1, e2]
      unfold hdRow
      rw [List.map_append]
      rfl
    · have he' : (er == 0) = false := beqF he
      have HQ := Lib.hid (Sep.left h3)
      have HL2 : Hid (R'.map (·.h) = R.map (·.h) ∧ R'.length = L) := Lib.hid (by have e := (HM.out.err he).2.1; rw [e]; exact ⟨rfl, HL.out⟩)
      clear h3 he
      go_wp2_with fail
      go_ret2
      exact ⟨sa, cap, [], j, by rw [HL2.out.2]; rfl, by rw [List.append_nil]; exact HQ.out, Or.inl rfl, by rw [HL2.out.1, HL2.out.2]; exact app_j hij hj⟩
  | drop e D =>
    obtain rfl : d = 2 := e
    have D : Drops S T H R (nthI (R.map (·.h)) n) _ S' T' H' R' := D
    obtain ⟨hh, hhe⟩ : ∃ hh, nthI (R.map (·.h)) n = hh := ⟨_, rfl⟩
    rw [hhe] at hnth hnr D
    have hc := stdrop_call H2.out i (app_get hil) HI.out hnr D
    rw [app_set hil] at hc
    have hrg := D.er07
    have HL2 : Hid (R'.map (·.h) = R.map (·.h) ∧ R'.length = L) := Lib.hid ⟨D.hs, by have := congrArg List.length D.hs; rw [List.length_map, List.length_map, HL.out] at this; exact this⟩
    have ew : IntKind.u64.wrap a = a := by rw [IntKind.wrap_u64]; omega
    clear D hhe
    go_enter Tryz.func32, Tryz.ntmps32
    go_wp2_with fail
    try rw [hW1]
    refine hnth.mono ?_
    rintro e w3 ⟨rfl, rfl⟩
    clear hnth
    go_wp2_with fail
    refine hc.mono ?_
    rintro e w3 ⟨rfl, h3⟩
    have HQ := Lib.hid (Sep.left h3)
    clear hc h3 q0 q1 q2 q3 hW1 hob
    go_wp2_with fail
    go_ret2
    exact ⟨sa, cap, [], j, by rw [HL2.out.2]; rfl, by rw [List.append_nil]; exact HQ.out, Or.inl rfl, by rw [HL2.out.1, HL2.out.2]; exact app_j hij hj⟩
  | put e P =>
    obtain rfl : d = 3 := e
    have P : Puts S T H R (nthI (R.map (·.h)) n) k x _ S' R' := P
    obtain ⟨hh, hhe⟩ : ∃ hh, nthI (R.map (·.h)) n = hh := ⟨_, rfl⟩
    rw [hhe] at hnth hnr P
    have hc := stput_call H2.out i (app_get hil) HI.out hnr hx.1 hx.2 P
    rw [app_set hil] at hc
    have hrg := P.er07
    have HL2 : Hid (R'.map (·.h) = R.map (·.h) ∧ R'.length = L) := Lib.hid ⟨P.hs, by have := congrArg List.length P.hs; rw [List.length_map, List.length_map, HL.out] at this; exact this⟩
    have ew : IntKind.u64.wrap a = a := by rw [IntKind.wrap_u64]; omega
    clear P hhe
    go_enter Tryz.func32, Tryz.ntmps32
    go_wp2_with fail
    try rw [hW1]
    refine hnth.mono ?_
    rintro e w3 ⟨rfl, rfl⟩
    clear hnth
    go_wp2_with fail
    refine hc.mono ?_
    rintro e w3 ⟨rfl, h3⟩
    have HQ := Lib.hid (Sep.left h3)
    clear hc h3 q0 q1 q2 q3 hW1 hob
    go_wp2_with fail
    go_ret2
    exact ⟨sa, cap, [], j, by rw [HL2.out.2]; rfl, by rw [List.append_nil]; exact HQ.out, Or.inl rfl, by rw [HL2.out.1, HL2.out.2]; exact app_j hij hj⟩
  | @get xv er e G =>
    obtain rfl : d = 4 := e
    have G : Gets T R (nthI (R.map (·.h)) n) k _ _ := G
    obtain ⟨hh, hhe⟩ : ∃ hh, nthI (R.map (·.h)) n = hh := ⟨_, rfl⟩
    rw [hhe] at hnth hnr G
    have hc := stget_call H2.out i (app_get hil) HI.out hnr G
    have hrg := G.er07
    obtain ⟨A1, hA1⟩ : ∃ A, IntKind.u64.wrap (xv * 16) = A := ⟨_, rfl⟩
    have ew : IntKind.u64.wrap er = er := by rw [IntKind.wrap_u64]; omega
    rw [hA1]
    obtain ⟨A2, hA2⟩ : ∃ A, IntKind.u64.wrap (A1 + er) = A := ⟨_, rfl⟩
    rw [hA2]
    have HQ := Lib.hid (Sep.left H2.out)
    clear G hhe
    go_enter Tryz.func32, Tryz.ntmps32
    go_wp2_with fail
    try rw [hW1]
    refine hnth.mono ?_
    rintro e w3 ⟨rfl, rfl⟩
    clear hnth
    go_wp2_with fail
    refine hc.mono ?_
    rintro e w3 ⟨rfl, rfl⟩
    clear hc q0 q1 q2 q3 hW1 hob
    go_wp2_with fail
    go_ret2
    exact ⟨sa, cap, [], j, by rw [HL.out]; rfl, by rw [List.append_nil]; exact HQ.out, Or.inl rfl, by rw [HL.out]; exact app_j hij hj⟩
  | @slide is er _ _ _ _ e1 e2 e3 e4 D =>
    have d1 : (d == 1) = false := beqF e1
    have d2 : (d == 2) = false := beqF e2
    have d3 : (d == 3) = false := beqF e3
    have d4 : (d == 4) = false := beqF e4
    have D : Slides S T H R (nthI (R.map (·.h)) n) _ _ S' T' H' R' := D
    obtain ⟨hh, hhe⟩ : ∃ hh, nthI (R.map (·.h)) n = hh := ⟨_, rfl⟩
    rw [hhe] at hnth hnr D
    have hc := stslide_call H2.out i (app_get hil) HT.out HI.out hnr D
    rw [app_set hil] at hc
    have hrg := D.er07
    have HL2 : Hid (R'.map (·.h) = R.map (·.h) ∧ R'.length = L) := Lib.hid ⟨D.hs, by have := congrArg List.length D.hs; rw [List.length_map, List.length_map, HL.out] at this; exact this⟩
    have ew : IntKind.u64.wrap er = er := by rw [IntKind.wrap_u64]; omega
    have ew2 : IntKind.u64.wrap (100 + er) = 100 + er := by rw [IntKind.wrap_u64]; omega
    clear D hhe e1 e2 e3 e4
    cases is with
    | true =>
      rw [show (if true = true then 100 + er else er) = 100 + er from rfl]
      go_enter Tryz.func32, Tryz.ntmps32
      go_wp2_with fail
      try rw [hW1]
      refine hnth.mono ?_
      rintro e w3 ⟨rfl, rfl⟩
      clear hnth
      go_wp2_with fail
      refine hc.mono ?_
      rintro e w3 ⟨rfl, h3⟩
      have HQ := Lib.hid (Sep.left h3)
      clear hc h3 q0 q1 q2 q3 hW1 hob
      go_wp2_with fail
      go_ret2
      exact ⟨sa, cap, [], j, by rw [HL2.out.2]; rfl, by rw [List.append_nil]; exact HQ.out, Or.inl rfl, by rw [HL2.out.1, HL2.out.2]; exact app_j hij hj⟩
    | false =>
      rw [show (if false = true then 100 + er else er) = er from rfl]
      go_enter Tryz.func32, Tryz.ntmps32
      go_wp2_with fail
      try rw [hW1]
      refine hnth.mono ?_
      rintro e w3 ⟨rfl, rfl⟩
      clear hnth
      go_wp2_with fail
      refine hc.mono ?_
      rintro e w3 ⟨rfl, h3⟩
      have HQ := Lib.hid (Sep.left h3)
      clear hc h3 q0 q1 q2 q3 hW1 hob
      go_wp2_with fail
      go_ret2
      exact ⟨sa, cap, [], j, by rw [HL2.out.2]; rfl, by rw [List.append_nil]; exact HQ.out, Or.inl rfl, by rw [HL2.out.1, HL2.out.2]; exact app_j hij hj⟩
end
end Go.Proofs.YtmdnofojecncgaaGreatDoor

namespace Go.Proofs.YtmdnofojecncgaaGreatDoor
open Go Go.RowKit

theorem infoU6 : (Tryz.prog.info? 45).map (fun i => (i.zero, i.size, i.bytes)) = some (some (.int .u64 0), 1, 8) := by kernel_rfl
theorem items_self (d : Nat) (cs : List Value) (w : World) : ∀ l : List Nat, (∀ i ∈ l, ∃ x, cs[i]? = some (.int .u64 x)) → (Op.eqItems (d + 1) 45 1 cs.toArray cs.toArray l).run Tryz.prog w = .ok true w
  | [], _ => by simp [Op.eqItems]
  | i :: l, h => by
    obtain ⟨x, hx⟩ := h i (by simp)
    have ih := items_self d cs w l (fun j hj => h j (by simp [hj]))
    simp [Op.eqItems, hx, ih, go_sem]
theorem neq_page (wd : Nat → Int) (p : Nat) (w : World) : (binOp .neq 98 (.agg (pcell wd p).toArray) (.agg (pcell wd p).toArray)).run Tryz.prog w = .ok (.bool false) w := by
  have h0 : (pcell wd p)[0]? = some (.int .i64 p) := rfl
  have ht : List.take 64 (pcell wd p).tail = (List.range 64).map fun j => Value.int .u64 (wd (64 * p + j)) := by
    unfold pcell
    rw [List.tail_cons, List.take_of_length_le (by simp)]
  have harr : ∀ w, (Op.equalIn 9999 96 (Value.agg (List.take 64 (pcell wd p).tail).toArray) (Value.agg (List.take 64 (pcell wd p).tail).toArray)).run Tryz.prog w = .ok true w := fun w => by
    rw [ht]
    obtain ⟨i, hi, _⟩ := info_parts infoU6
    rw [run_equalIn_array w 9998 _ _ Tryz.underlying96 hi, show Tryz.prog.cellsOf 45 = 1 by kernel_rfl]
    exact items_self 9997 _ w _ fun i hi => ⟨_, by rw [List.getElem?_map, List.getElem?_range (List.mem_range.1 hi)]; rfl⟩
  have h : (Op.equalIn 10000 98 (.agg (pcell wd p).toArray) (.agg (pcell wd p).toArray)).run Tryz.prog w = .ok true w := by
    rw [run_equalIn_struct (P := Tryz.prog) w 9999 98 _ _ (by kernel_rfl) (by kernel_rfl)]
    simp [go_sem, h0, harr]
  simp only [binOp, Op.equal, Op.maxDepth, Sem.run_bind, h, Result.andThen_ok]
  rfl
theorem neq_slot6 (o : Bool) (g a : Int) (w : World) : (binOp .neq 93 (.agg #[.bool o, .int .u32 g, .int .i64 a]) (.agg #[.bool o, .int .u32 g, .int .i64 a])).run Tryz.prog w = .ok (.bool false) w := by
  have h : (Op.equalIn 10000 93 (.agg #[.bool o, .int .u32 g, .int .i64 a]) (.agg #[.bool o, .int .u32 g, .int .i64 a])).run Tryz.prog w = .ok true w := by
    rw [run_equalIn_struct (P := Tryz.prog) w 9999 93 _ _ (by kernel_rfl) (by kernel_rfl)]
    simp [go_sem]
  simp only [binOp, Op.equal, Op.maxDepth, Sem.run_bind, h, Result.andThen_ok]
  rfl

theorem wp_neq_agg {op : Oper} {a : Act} {w : World} {K : Act → World → Prop} {Q : Exit → Act → World → Prop} (t : TypeId) (x y : Operand) (ho : op.op = .binOp .neq t x y t) (xs ys : Array Value)
    (hx : a.eval x = .agg xs) (hy : a.eval y = .agg ys) (hm : Tryz.prog.eqGuardType Tryz.prog.depth t = false) (hr : (binOp .neq t (.agg xs) (.agg ys)).run Tryz.prog w = .ok (.bool false) w) (h : K (a.put op.dst (.bool false)) w) : op.wp Tryz.prog a w K Q := by
  unfold Oper.wp execOp
  simp only [ho, hx, hy, hr, Sem.run_bind, run_eqGuard_agg w .neq t x y xs ys hm, Result.andThen_ok]
  exact h


set_option maxRecDepth 100000 in
set_option maxHeartbeats 4000000 in
theorem alike_call (q m la : Int) {pa pb za zb : Option Addr} {n k pc pd zc zd : Nat} {pg : List Nat} {wd : Nat → Int} {zs : List RSlot} (w : World) (hpn : pg.length = n) (hzk : zs.length = k) (hn4 : n ≤ 4096) (hk4 : k ≤ 65536)
    (hP : PagesIn w pa pg wd) (hQ : PagesIn w pb pg wd) (hZ : SlotsIn w za zs) (hY : SlotsIn w zb zs) :
    Calls Tryz.prog 35 #[.agg (rawC q m la (.slice pa n pc) (.slice za k zc)), .agg (rawC q m la (.slice pb n pd) (.slice zb k zd))] w fun e w' => e = .returned (.bool true) ∧ Mod No w w' := by
  have h0 := ((Sep.nil w).pushCells (rawC q m la (.slice pa n pc) (.slice za k zc)) 87).pushCells (rawC q m la (.slice pb n pd) (.slice zb k zd)) 87
  simp only [World.size_alloc] at h0
  obtain ⟨B1, hB1⟩ : ∃ B, w.heap.size = B := ⟨_, rfl⟩
  obtain ⟨W1, hW1⟩ : ∃ W, (w.alloc (.cells (rawC q m la (.slice pa n pc) (.slice za k zc)) 87)).alloc (.cells (rawC q m la (.slice pb n pd) (.slice zb k zd)) 87) = W := ⟨_, rfl⟩
  rw [hB1, hW1] at h0
  have h0 : Sep No w W1 [cellsAt B1 (rawC q m la (.slice pa n pc) (.slice za k zc)) 87, cellsAt (B1 + 1) (rawC q m la (.slice pb n pd) (.slice zb k zd)) 87] := h0
  have a0 := (h0.cell 0 rfl 0 (v := .int .i64 q) rfl).1
  have a1 := (h0.cell 0 rfl 1 (v := .int .i64 m) rfl).1
  have a2 := (h0.cell 0 rfl 2 (v := .int .u32 la) rfl).1
  have a3 := (h0.cell 0 rfl 3 (v := .slice pa n pc) rfl).1
  have a4 := (h0.cell 0 rfl 4 (v := .slice za k zc) rfl).1
  have b0 := (h0.cell 1 rfl 0 (v := .int .i64 q) rfl).1
  have b1 := (h0.cell 1 rfl 1 (v := .int .i64 m) rfl).1
  have b2 := (h0.cell 1 rfl 2 (v := .int .u32 la) rfl).1
  have b3 := (h0.cell 1 rfl 3 (v := .slice pb n pd) rfl).1
  have b4 := (h0.cell 1 rfl 4 (v := .slice zb k zd) rfl).1
  have dq : (q != q) = false := bneF rfl
  have dm : (m != m) = false := bneF rfl
  have dl : (la != la) = false := bneF rfl
  have dn : ((n : Int) != (n : Int)) = false := bneF rfl
  have dk : ((k : Int) != (k : Int)) = false := bneF rfl
  have HP := Lib.hid (And.intro hP (And.intro hQ (And.intro hZ hY)))
  have HN := Lib.hid (And.intro hpn hzk)
  have H0 := Lib.hid h0
  clear hP hQ hZ hY h0 hpn hzk
  go_enter Tryz.func35, Tryz.ntmps35
  go_wp2_with fail
  try rw [hW1]
  clear a0 a1 a2 b0 b1 b2 hW1 hB1 a3 a4 b3 b4
  go_loopw [5] (fun iv wr => ∃ i : Nat, iv = .int .i64 i ∧ i ≤ n ∧ Mod No W1 wr) (fun iv _ => n - (RowKit.intOf iv).toNat)
  case atStart => exact ⟨0, rfl, Nat.zero_le _, Mod.refl _ _⟩
  case round =>
    obtain ⟨i, rfl, hi, hm⟩ := hrel
    have h := H0.out.more hm
    have a3 := (h.cell 0 rfl 3 (v := .slice pa n pc) rfl).1
    have b3 := (h.cell 1 rfl 3 (v := .slice pb n pd) rfl).1
    by_cases hlt : i < n
    · obtain ⟨p, hpi⟩ : ∃ p, pg[i]? = some p := ⟨_, List.getElem?_eq_getElem (by rw [HN.out.1]; exact hlt)⟩
      obtain ⟨g, o, rfl, _, hrg⟩ := (HP.out.1.more h.mod) i p hpi
      obtain ⟨g', o', rfl, _, hrg'⟩ := (HP.out.2.1.more h.mod) i p hpi
      have hii : (i : Int) < (n : Int) := by omega
      have HM := Lib.hid hm
      have HK1 : Hid (i + 1 ≤ n ∧ n - (i + 1) < n - i) := by exact Lib.hid ⟨by omega, by omega⟩
      have hne := fun W => neq_page wd p W
      clear h hm hpi hlt hi
      go_wp2_with fail
      refine wp_region_held_drew (S := fun w' => (w'.cell? ⟨B1, 3, none⟩ = some (.slice (some ⟨g, o, none⟩) n pc) ∧ w'.cell? ⟨B1 + 1, 3, none⟩ = some (.slice (some ⟨g', o', none⟩) n pd)) ∧ w'.rangeAt g (o + i * 65) (pcell wd p) ∧ w'.rangeAt g' (o' + i * 65) (pcell wd p)) (by kernel_rfl) ⟨⟨a3, b3⟩, by simpa using hrg, by simpa using hrg'⟩ (fun hHeld => ?_)
      clear a3 b3 hrg hrg'
      refine wpAnyH_takeD (i := 0) (v := ?_) (some 51) rfl (by rfl) (by kernel_rfl) (by kernel_rfl) (by kernel_rfl) (fun _ _ _ h => h) (Or.inl ⟨by rfl, ?_⟩) (by assumption) ?_
      rotate_left
      · intro w hSw
        try dsimp only at hSw
        go_simp
        try with_reducible rfl
      simp only [Act.put, List.setIfInBounds_toArray, List.set_cons_zero, List.set_cons_succ]
      refine wpAnyH_takeD (i := 1) (v := ?_) (some 52) rfl (by rfl) (by kernel_rfl) (by kernel_rfl) (by kernel_rfl) (fun _ _ _ h => h) (Or.inl ⟨by rfl, ?_⟩) (by assumption) ?_
      rotate_left
      · intro w hSw
        try dsimp only at hSw
        go_simp
        try with_reducible rfl
      simp only [Act.put, List.setIfInBounds_toArray, List.set_cons_zero, List.set_cons_succ]
      refine wpAnyH_takeD (i := 2) (v := ?_) (some 53) rfl (by rfl) (by kernel_rfl) (by kernel_rfl) (by kernel_rfl) (fun _ _ _ h => h) (Or.inl ⟨by rfl, ?_⟩) (by assumption) ?_
      rotate_left
      · intro w hSw
        try dsimp only at hSw
        go_simp
        try with_reducible rfl
      simp only [Act.put, List.setIfInBounds_toArray, List.set_cons_zero, List.set_cons_succ]
      refine wpAnyH_takeD (i := 3) (v := ?_) (some 54) rfl (by rfl) (by kernel_rfl) (by kernel_rfl) (by kernel_rfl) (fun _ _ _ h => h) (Or.inl ⟨by rfl, ?_⟩) (by assumption) ?_
      rotate_left
      · intro w hSw
        try dsimp only at hSw
        go_simp
        try with_reducible rfl
      simp only [Act.put, List.setIfInBounds_toArray, List.set_cons_zero, List.set_cons_succ]
      refine wpAnyH_takeD (i := 4) (v := .agg (pcell wd p).toArray) (some 55) rfl (by rfl) (by kernel_rfl) (by kernel_rfl) (by kernel_rfl) (fun _ _ _ h => h) ?_ (by assumption) ?_
      rotate_right
      rotate_left
      · exact yieldsIf_load_mid (by rfl) 98 _ (by rfl) g (o + i * 65) (by rfl) (pcell wd p) _ (fun w h => h.2.1) Tryz.underlying98 rfl (page_size wd p)
      simp only [Act.put, List.setIfInBounds_toArray, List.set_cons_zero, List.set_cons_succ]
      refine wpAnyH_takeD (i := 5) (v := ?_) (some 56) rfl (by rfl) (by kernel_rfl) (by kernel_rfl) (by kernel_rfl) (fun _ _ _ h => h) (Or.inl ⟨by rfl, ?_⟩) (by assumption) ?_
      rotate_left
      · intro w hSw
        try dsimp only at hSw
        go_simp
        try with_reducible rfl
      simp only [Act.put, List.setIfInBounds_toArray, List.set_cons_zero, List.set_cons_succ]
      refine wpAnyH_takeD (i := 6) (v := ?_) (some 57) rfl (by rfl) (by kernel_rfl) (by kernel_rfl) (by kernel_rfl) (fun _ _ _ h => h) (Or.inl ⟨by rfl, ?_⟩) (by assumption) ?_
      rotate_left
      · intro w hSw
        try dsimp only at hSw
        go_simp
        try with_reducible rfl
      simp only [Act.put, List.setIfInBounds_toArray, List.set_cons_zero, List.set_cons_succ]
      refine wpAnyH_takeD (i := 7) (v := ?_) (some 58) rfl (by rfl) (by kernel_rfl) (by kernel_rfl) (by kernel_rfl) (fun _ _ _ h => h) (Or.inl ⟨by rfl, ?_⟩) (by assumption) ?_
      rotate_left
      · intro w hSw
        try dsimp only at hSw
        go_simp
        try with_reducible rfl
      simp only [Act.put, List.setIfInBounds_toArray, List.set_cons_zero, List.set_cons_succ]
      refine wpAnyH_takeD (i := 8) (v := ?_) (some 59) rfl (by rfl) (by kernel_rfl) (by kernel_rfl) (by kernel_rfl) (fun _ _ _ h => h) (Or.inl ⟨by rfl, ?_⟩) (by assumption) ?_
      rotate_left
      · intro w hSw
        try dsimp only at hSw
        go_simp
        try with_reducible rfl
      simp only [Act.put, List.setIfInBounds_toArray, List.set_cons_zero, List.set_cons_succ]
      refine wpAnyH_takeD (i := 9) (v := .agg (pcell wd p).toArray) (some 60) rfl (by rfl) (by kernel_rfl) (by kernel_rfl) (by kernel_rfl) (fun _ _ _ h => h) ?_ (by assumption) ?_
      rotate_right
      rotate_left
      · exact yieldsIf_load_mid (by rfl) 98 _ (by rfl) g' (o' + i * 65) (by rfl) (pcell wd p) _ (fun w h => h.2.2) Tryz.underlying98 rfl (page_size wd p)
      simp only [Act.put, List.setIfInBounds_toArray, List.set_cons_zero, List.set_cons_succ]
      refine wpAnyH_ready (rs := [10]) (by kernel_rfl) (by simp) ?_
      refine AllReadyH.cons rfl (fun K hK => ?_) AllReadyH.nil
      refine wp_neq_agg 98 _ _ (by rfl) _ _ (by rfl) (by rfl) (by kernel_rfl) (hne _) ?_
      refine hK.out _ _ hHeld (fun _ => ?_)
      clear hK K hHeld hne
      try simp only [Act.put, List.setIfInBounds_toArray, List.set_cons_zero, List.set_cons_succ]
      refine wpAnyH_done (by kernel_rfl) ?_ _
      have HM3 := Lib.hid HM.out.drew
      go_wp2_with fail
      go_roundw
      case rel => exact ⟨i + 1, by go_num, HK1.out.1, HM3.out⟩
      case measure => have := HK1.out.2; simp [RowKit.intOf]; omega
    · obtain rfl : i = n := by omega
      have dI : decide ((i : Int) < (i : Int)) = false := ltF (by omega)
      have a4 := (h.cell 0 rfl 4 (v := .slice za k zc) rfl).1
      have b4 := (h.cell 1 rfl 4 (v := .slice zb k zd) rfl).1
      have HM := Lib.hid hm
      clear h hm hlt hi
      go_wp2_with fail
      clear a3 b3 a4 b4
      go_loopw [6] (fun iv wr => ∃ j : Nat, iv = .int .i64 j ∧ j ≤ k ∧ Mod No W1 wr) (fun iv _ => k - (RowKit.intOf iv).toNat)
      case atStart => exact ⟨0, rfl, Nat.zero_le _, HM.out⟩
      case round =>
        obtain ⟨j, rfl, hj, hm⟩ := hrel
        clear HM
        have h := H0.out.more hm
        have a4 := (h.cell 0 rfl 4 (v := .slice za k zc) rfl).1
        have b4 := (h.cell 1 rfl 4 (v := .slice zb k zd) rfl).1
        by_cases hlt : j < k
        · obtain ⟨z, hzj⟩ : ∃ z, zs[j]? = some z := ⟨_, List.getElem?_eq_getElem (by rw [HN.out.2]; exact hlt)⟩
          obtain ⟨g, o, rfl, hgw, x0, x1, x2⟩ := (HP.out.2.2.1.more h.mod).cells j z hzj
          obtain ⟨g', o', rfl, hgw', y0, y1, y2⟩ := (HP.out.2.2.2.more h.mod).cells j z hzj
          have hii : (j : Int) < (k : Int) := by omega
          have HM := Lib.hid hm
          have HK1 : Hid (j + 1 ≤ k ∧ k - (j + 1) < k - j) := by exact Lib.hid ⟨by omega, by omega⟩
          have hne := fun W => neq_slot6 z.op z.gen z.addr W
          clear h hm hzj hlt hj
          go_wp2_with fail
          refine wp_region_held_drew (S := fun w' => (w'.cell? ⟨B1, 4, none⟩ = some (.slice (some ⟨g, o, none⟩) k zc) ∧ w'.cell? ⟨B1 + 1, 4, none⟩ = some (.slice (some ⟨g', o', none⟩) k zd)) ∧ (w'.cell? ⟨g, o + j * 3, none⟩ = some (.bool z.op) ∧ w'.cell? ⟨g, o + j * 3 + 1, none⟩ = some (.int .u32 z.gen) ∧ w'.cell? ⟨g, o + j * 3 + 2, none⟩ = some (.int .i64 z.addr)) ∧ (w'.cell? ⟨g', o' + j * 3, none⟩ = some (.bool z.op) ∧ w'.cell? ⟨g', o' + j * 3 + 1, none⟩ = some (.int .u32 z.gen) ∧ w'.cell? ⟨g', o' + j * 3 + 2, none⟩ = some (.int .i64 z.addr))) (by kernel_rfl) ⟨⟨a4, b4⟩, ⟨x0, x1, x2⟩, ⟨y0, y1, y2⟩⟩ (fun hHeld => ?_)
          clear a4 b4 x0 x1 x2 y0 y1 y2
          refine wpAnyH_takeD (i := 0) (v := ?_) (some 69) rfl (by rfl) (by kernel_rfl) (by kernel_rfl) (by kernel_rfl) (fun _ _ _ h => h) (Or.inl ⟨by rfl, ?_⟩) (by assumption) ?_
          rotate_left
          · intro w hSw
            try dsimp only at hSw
            go_simp
            try with_reducible rfl
          simp only [Act.put, List.setIfInBounds_toArray, List.set_cons_zero, List.set_cons_succ]
          refine wpAnyH_takeD (i := 1) (v := ?_) (some 70) rfl (by rfl) (by kernel_rfl) (by kernel_rfl) (by kernel_rfl) (fun _ _ _ h => h) (Or.inl ⟨by rfl, ?_⟩) (by assumption) ?_
          rotate_left
          · intro w hSw
            try dsimp only at hSw
            go_simp
            try with_reducible rfl
          simp only [Act.put, List.setIfInBounds_toArray, List.set_cons_zero, List.set_cons_succ]
          refine wpAnyH_takeD (i := 2) (v := ?_) (some 71) rfl (by rfl) (by kernel_rfl) (by kernel_rfl) (by kernel_rfl) (fun _ _ _ h => h) (Or.inl ⟨by rfl, ?_⟩) (by assumption) ?_
          rotate_left
          · intro w hSw
            try dsimp only at hSw
            go_simp
            try with_reducible rfl
          simp only [Act.put, List.setIfInBounds_toArray, List.set_cons_zero, List.set_cons_succ]
          refine wpAnyH_takeD (i := 3) (v := ?_) (some 72) rfl (by rfl) (by kernel_rfl) (by kernel_rfl) (by kernel_rfl) (fun _ _ _ h => h) (Or.inl ⟨by rfl, ?_⟩) (by assumption) ?_
          rotate_left
          · intro w hSw
            try dsimp only at hSw
            go_simp
            try with_reducible rfl
          simp only [Act.put, List.setIfInBounds_toArray, List.set_cons_zero, List.set_cons_succ]
          refine wpAnyH_takeD (i := 4) (v := ?_) (some 73) rfl (by rfl) (by kernel_rfl) (by kernel_rfl) (by kernel_rfl) (fun _ _ _ h => h) (Or.inl ⟨by rfl, ?_⟩) (by assumption) ?_
          rotate_left
          · intro w hSw
            try dsimp only at hSw
            go_simp
            try with_reducible rfl
          simp only [Act.put, List.setIfInBounds_toArray, List.set_cons_zero, List.set_cons_succ]
          refine wpAnyH_takeD (i := 5) (v := ?_) (some 74) rfl (by rfl) (by kernel_rfl) (by kernel_rfl) (by kernel_rfl) (fun _ _ _ h => h) (Or.inl ⟨by rfl, ?_⟩) (by assumption) ?_
          rotate_left
          · intro w hSw
            try dsimp only at hSw
            go_simp
            try with_reducible rfl
          simp only [Act.put, List.setIfInBounds_toArray, List.set_cons_zero, List.set_cons_succ]
          refine wpAnyH_takeD (i := 6) (v := ?_) (some 75) rfl (by rfl) (by kernel_rfl) (by kernel_rfl) (by kernel_rfl) (fun _ _ _ h => h) (Or.inl ⟨by rfl, ?_⟩) (by assumption) ?_
          rotate_left
          · intro w hSw
            try dsimp only at hSw
            go_simp
            try with_reducible rfl
          simp only [Act.put, List.setIfInBounds_toArray, List.set_cons_zero, List.set_cons_succ]
          refine wpAnyH_takeD (i := 7) (v := ?_) (some 76) rfl (by rfl) (by kernel_rfl) (by kernel_rfl) (by kernel_rfl) (fun _ _ _ h => h) (Or.inl ⟨by rfl, ?_⟩) (by assumption) ?_
          rotate_left
          · intro w hSw
            try dsimp only at hSw
            go_simp
            try with_reducible rfl
          simp only [Act.put, List.setIfInBounds_toArray, List.set_cons_zero, List.set_cons_succ]
          refine wpAnyH_takeD (i := 8) (v := ?_) (some 77) rfl (by rfl) (by kernel_rfl) (by kernel_rfl) (by kernel_rfl) (fun _ _ _ h => h) (Or.inl ⟨by rfl, ?_⟩) (by assumption) ?_
          rotate_left
          · intro w hSw
            try dsimp only at hSw
            go_simp
            try with_reducible rfl
          simp only [Act.put, List.setIfInBounds_toArray, List.set_cons_zero, List.set_cons_succ]
          refine wpAnyH_takeD (i := 9) (v := ?_) (some 78) rfl (by rfl) (by kernel_rfl) (by kernel_rfl) (by kernel_rfl) (fun _ _ _ h => h) (Or.inl ⟨by rfl, ?_⟩) (by assumption) ?_
          rotate_left
          · intro w hSw
            try dsimp only at hSw
            go_simp
            try with_reducible rfl
          simp only [Act.put, List.setIfInBounds_toArray, List.set_cons_zero, List.set_cons_succ]
          refine wpAnyH_ready (rs := [10]) (by kernel_rfl) (by simp) ?_
          refine AllReadyH.cons rfl (fun K hK => ?_) AllReadyH.nil
          refine wp_neq_agg 93 _ _ (by rfl) _ _ (by rfl) (by rfl) (by kernel_rfl) (hne _) ?_
          refine hK.out _ _ hHeld (fun _ => ?_)
          clear hK K hHeld hne
          try simp only [Act.put, List.setIfInBounds_toArray, List.set_cons_zero, List.set_cons_succ]
          refine wpAnyH_done (by kernel_rfl) ?_ _
          have HM3 := Lib.hid HM.out.drew
          go_wp2_with fail
          go_roundw
          case rel => exact ⟨j + 1, by go_num, HK1.out.1, HM3.out⟩
          case measure => have := HK1.out.2; simp [RowKit.intOf]; omega
        · obtain rfl : j = k := by omega
          have dI2 : decide ((j : Int) < (j : Int)) = false := ltF (by omega)
          have HM := Lib.hid (H0.out.mod.trans' hm)
          clear h hm hlt hj
          go_wp2_with fail
          go_ret
          exact ⟨rfl, HM.out⟩
end Go.Proofs.YtmdnofojecncgaaGreatDoor

namespace Go.Proofs.YtmdnofojecncgaaGreatDoor
open Go Go.RowKit

variable {F0 : Nat → Prop} {w0 w : World} {Ps : List Res}

set_option maxHeartbeats 1000000 in
theorem awake06_call (w : World) (hT : Tab64 w) : Calls Tryz.prog 31 #[] w fun e w' => e = .returned (.bool true) ∧ Mod No w w' := by
  have HT := Lib.hid hT
  clear hT
  go_enter Tryz.func31, Tryz.ntmps31
  go_wp2_with fail
  refine (stnew_call (Sep.nil w) 640 10 9 (by omega) (by omega) (by omega) (by omega) (by omega) (by omega)).mono ?_
  rintro e w1 ⟨b, rfl, h1⟩
  have h1 : Sep No w w1 [stR b 10 9 (Slb.empty 640) ⟨10, 9, []⟩] := h1
  obtain ⟨S1, T1, H1, a, M, hpg⟩ := StInv.first (q := 640) (m := 10) (la := 9) (n := 2) (by omega) (by omega) (by omega) (by omega) (by omega) (by omega) (by omega) (by omega) (by decide)
  have I1 := M.inv
  have c1 := stmake_call h1 0 rfl (HT.out.mod h1.mod) M
  clear h1 M
  go_wp2_with fail
  refine c1.mono ?_
  rintro e w2 ⟨rfl, h2⟩
  have h2 : Sep No w w2 [stR b 10 9 S1 T1] := h2
  obtain ⟨S2, P⟩ := I1.putOk (j := 0) (r := ⟨4294967297, (a : Int), [0, 0]⟩) rfl (by simp) (i := 1) (by simp) (v := 7) (by omega) (by omega)
  have I2 := P.inv
  have hpg2 := P.quo.2
  have c2 := stput_call h2 0 rfl I1 (hh := 4294967297) (by omega) (by omega) (by omega) P
  clear c1 h2 P I1
  go_wp2_with fail
  refine c2.mono ?_
  rintro e w3 ⟨rfl, h3⟩
  have h3 : Sep No w w3 [stR b 10 9 S2 T1] := h3
  have I2 : StInv S2 T1 H1 [⟨4294967297, (a : Int), [0, 7]⟩] := I2
  have c3 := stget_call h3 0 rfl I2 (hh := 4294967297) (k := 1) (by omega) (getOk (j := 0) (i := 1) (x := 7) (r := ⟨4294967297, (a : Int), [0, 7]⟩) rfl (by simp) rfl)
  have H3 := Lib.hid h3
  clear c2 h3
  go_wp2_with fail
  refine c3.mono ?_
  rintro e w' ⟨rfl, rfl⟩
  have c4 := stwords_call H3.out 0 rfl
  rw [hpg2, hpg] at c4
  have c4 : Calls Tryz.prog 14 #[.pointer (some ⟨b, 0, none⟩)] w3 fun e w' => e = .returned (.int .i64 64) ∧ Sep No w w' [stR b 10 9 S2 T1] := c4
  clear c3 H3
  go_wp2_with fail
  refine c4.mono ?_
  rintro e w4 ⟨rfl, h4⟩
  obtain ⟨S5, T5, H5, D⟩ := I2.dropOk (j := 0) (r := ⟨4294967297, (a : Int), [0, 7]⟩) rfl (by simp)
  have I5 : StInv S5 T5 H5 [⟨4294967297, -1, [0, 7]⟩] := D.inv
  have c5 := stdrop_call h4 0 rfl I2 (hh := 4294967297) (by omega) D
  clear c4 h4 D I2
  go_wp2_with fail
  refine c5.mono ?_
  rintro e w5 ⟨rfl, h5⟩
  have h5 : Sep No w w5 [stR b 10 9 S5 T5] := h5
  have hst := I5.gone (j := 0) (r := ⟨4294967297, -1, [0, 7]⟩) rfl (by decide)
  have c6 := stget_call h5 0 rfl I5 (hh := 4294967297) (k := 1) (by omega) (.stale hst)
  have c7 := stwords_call h5 0 rfl
  rw [(I5.empty_pg rfl).2] at c7
  have c7 : Calls Tryz.prog 14 #[.pointer (some ⟨b, 0, none⟩)] w5 fun e w' => e = .returned (.int .i64 0) ∧ Sep No w w' [stR b 10 9 S5 T5] := c7
  clear c5 h5 hst I5
  go_wp2_with fail
  refine c6.mono ?_
  rintro e w' ⟨rfl, rfl⟩
  clear c6
  go_wp2_with fail
  refine c7.mono ?_
  rintro e w7 ⟨rfl, h7⟩
  have HM := Lib.hid h7.mod
  clear c7 h7
  go_wp2
  go_ret
  exact ⟨rfl, HM.out⟩
end Go.Proofs.YtmdnofojecncgaaGreatDoor
