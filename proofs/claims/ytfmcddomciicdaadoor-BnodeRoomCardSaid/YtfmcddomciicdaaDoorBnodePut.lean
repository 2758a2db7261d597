/- Package bnode, walked: Put and Make. Conditions: the store's records are as said; a node's slices hold what is said. -/
import Derived.Test.YtfmcddomciicdaaDoorBnodeWords
import Derived.Test.YtfmcddomciicdaaDoorPutKeep
set_option linter.unusedVariables false
set_option linter.unusedSimpArgs false
set_option maxRecDepth 100000
namespace Go.Proofs.YtfmcddomciicdaaDoor
open Go Go.RowKit Go.Shelf

variable {F0 : Nat → Prop} {w0 w : World} {Ps : List Res}

/-- A node fits, said of its lengths. -/
structure Nd.Fits (t : Nat) (x : Nd) : Prop where
  t2 : 2 ≤ t
  t16 : t ≤ 16
  keys : x.keys.length ≤ 2 * t - 1
  vals : x.vals.length = x.keys.length
  kids : x.kids.length = 0 ∨ x.kids.length = x.keys.length + 1
theorem Nd.Fits.of {t : Nat} {x : Nd} (h : Nd.fitB (t : Int) x = true) : Nd.Fits t x := by
  unfold Nd.fitB Nd.degB Nd.kidsB at h
  simp only [Bool.and_eq_true, decide_eq_true_eq, beq_iff_eq, Bool.or_eq_true] at h
  obtain ⟨⟨⟨⟨h1, h2⟩, h3⟩, h4⟩, h5⟩ := h
  exact ⟨by omega, by omega, by omega, h4, h5.imp id (·.1)⟩

attribute [local go_sem] Oper.semAt_some

section
variable {b : Nat} {m la : Int} {S S' : Slb} {T T' : HTbl} {H H' : List Ent} {R R' : List Rc}
/-- What stands while Put puts. -/
structure PutOut (S : Slb) (T : HTbl) (H : List Ent) (R : List Rc) (j : Nat) (r : Rc) (ws : List Int) (S' : Slb) : Prop where
  inv : StInv S' T H (R.set j { r with w := ws })
  pg : S'.pg = S.pg
  quo : S'.quota = S.quota
theorem PutOut.start (I : StInv S T H R) {j : Nat} {r : Rc} (hj : R[j]? = some r) : PutOut S T H R j r r.w S := ⟨by rw [show ({ r with w := r.w } : Rc) = r from rfl, StInv.set_self hj]; exact I, rfl, rfl⟩
theorem PutOut.node {j n : Nat} {r : Rc} {ws : List Int} (O : PutOut S T H R j r ws S') (hl : ws.length = r.w.length) (hn : ws.length = n) : NodeOut S T H R j r ws n S' := ⟨by rw [← hn, putW_all r hl]; exact O.inv, O.pg, O.quo⟩
abbrev PutPs (w : World) (b : Nat) (m la : Int) (S : Slb) (T : HTbl) (hh : Int) (sk sv sc : Option Addr) (ck cv cc : Nat) (x : Nd) (g n6 t B : Nat) : List Res :=
  [stR b m la S T, cellsAt w.heap.size #[.pointer (some ⟨b, 0, none⟩)] 24, cellsAt (w.heap.size + 1) #[.int .u64 hh] 31, cellsAt (w.heap.size + 1 + 1) #[.slice sk x.keys.length ck, .slice sv x.vals.length cv, .slice sc x.kids.length cc, .int .u64 x.size] 73, u64Row (.slice (some ⟨g, 0, none⟩) n6 n6) n6 (Nd.ws t x), cellsAt B #[.slice (some ⟨g, 0, none⟩) n6 n6] 48]
theorem AllAt.own {B g n : Nat} {xs : List Int} {W : World} (h : AllAt B g n xs W) {l : Nat} {o o' : Obj} (hl : W.heap[l]? = some o) (hc : o.isCells = false) : AllAt B g n xs (W.putObj l o') :=
  ⟨cell_kept h.box (grownBy_putObj' W l o') (fun r e => by cases e; exact ⟨_, hl, hc⟩), fun k x hx => cell_kept (h.row k x hx) (grownBy_putObj' W l o') (fun r e => by cases e; exact ⟨_, hl, hc⟩)⟩

set_option maxRecDepth 100000 in
set_option maxHeartbeats 4000000 in
theorem bnput_in (h : Sep F0 w0 w Ps) (i : Nat) (hi : Ps[i]? = some (stR b m la S T)) (I : StInv S T H R) {hh : Int} (h0 : 0 ≤ hh ∧ hh < 18446744073709551616) {j : Nat} {r : Rc} (L : Rec R hh j r)
    {sk sv sc : Option Addr} {ck cv cc : Nat} {x : Nd} (hx : NdAt w sk sv sc x) (hxo : x.Ok) (lk : x.keys.length ≤ maxLen) (lc : x.kids.length ≤ maxLen) {t : Nat} (hf : Nd.fitB (t : Int) x = true) (h6 : r.w.length = 6 * t) :
    Calls Tryd.prog 69 #[.pointer (some ⟨b, 0, none⟩), .int .i64 (t : Nat), .int .u64 hh, ndV sk ck sv cv sc cc x] w fun e w' => ∃ S', (e = .returned (.int .i64 0) ∧ NodeOut S T H R j r (Nd.ws t x) (6 * t) S') ∧ Sep F0 w0 w' (Ps.set i (stR b m la S' T)) := by
  refine h.liftE i hi fun F0' h1 => ?_
  have F := Nd.Fits.of hf
  have h2 := ((h1.pushCells #[.pointer (some ⟨b, 0, none⟩)] 24).pushCells #[.int .u64 hh] 31).pushCells #[.slice sk x.keys.length ck, .slice sv x.vals.length cv, .slice sc x.kids.length cc, .int .u64 x.size] 73
  have hm : Mod No w (((w.alloc (.cells #[.pointer (some ⟨b, 0, none⟩)] 24)).alloc (.cells #[.int .u64 hh] 31)).alloc (.cells #[.slice sk x.keys.length ck, .slice sv x.vals.length cv, .slice sc x.kids.length cc, .int .u64 x.size] 73)) := (((Mod.refl No w).alloc _).alloc _).alloc _
  obtain ⟨W, hW⟩ : ∃ W, ((w.alloc (.cells #[.pointer (some ⟨b, 0, none⟩)] 24)).alloc (.cells #[.int .u64 hh] 31)).alloc (.cells #[.slice sk x.keys.length ck, .slice sv x.vals.length cv, .slice sc x.kids.length cc, .int .u64 x.size] 73) = W := ⟨_, rfl⟩
  rw [hW] at h2 hm
  have hx2 := hx.mod hm
  simp only [World.size_alloc] at h2
  have h2 : Sep F0' w W [stR b m la S T, cellsAt w.heap.size #[.pointer (some ⟨b, 0, none⟩)] 24, cellsAt (w.heap.size + 1) #[.int .u64 hh] 31, cellsAt (w.heap.size + 1 + 1) #[.slice sk x.keys.length ck, .slice sv x.vals.length cv, .slice sc x.kids.length cc, .int .u64 x.size] 73] := h2
  have c0 := (h2.cell 1 rfl 0 (v := .pointer (some ⟨b, 0, none⟩)) rfl).1
  have c2 := (h2.cell 3 rfl 0 (v := .slice sk x.keys.length ck) rfl).1
  have c3 := (h2.cell 3 rfl 1 (v := .slice sv x.vals.length cv) rfl).1
  have c4 := (h2.cell 3 rfl 2 (v := .slice sc x.kids.length cc) rfl).1
  have c5 := (h2.cell 3 rfl 3 (v := .int .u64 x.size) rfl).1
  have hl0 := stlen_call h2 0 rfl I (hh := 0) (by omega) (.stale T.at_zero)
  have hfi := fits_call (sk := sk) (sv := sv) (ck := ck) (cv := cv) (cc := cc) hx2.kids lk lc (t : Int)
  rw [hf] at hfi
  obtain ⟨n6, hn6⟩ : ∃ n, 6 * t = n := ⟨_, rfl⟩
  have HF := Lib.hid (And.intro F hn6)
  have HI := Lib.hid (And.intro I (And.intro h0 (And.intro L h6)))
  have HX := Lib.hid (And.intro hx2 hxo)
  have H2 := Lib.hid h2
  have ht96 : t ≤ 16 ∧ n6 ≤ 96 := by have := F.t16; omega
  have e6 : IntKind.i64.wrap (6 * (t : Int)) = (n6 : Int) := by rw [IntKind.wrap_i64]; omega
  have e6' : 6 * (t : Int) = (n6 : Int) := by omega
  rw [hn6]
  clear h h1 h2 hi I h0 L hx hx2 hxo lk lc hf h6 hm F hn6
  refine (callsIn_wide (n := 4)).1 ?_
  refine callsIn_of_wp_marks Tryd.func69 rfl trivial ?_ rfl
  simp only [Tryd.ntmps69, List.size_toArray, List.length_cons, List.length_nil, Nat.reduceAdd, Nat.reduceSub, Array.replicate_succ, Array.replicate_zero, List.push_toArray, List.append_toArray, List.nil_append, List.cons_append]
  gi_wp2_with fail
  refine ⟨trivial, ?_⟩
  refine (callsIn_wide.2 hl0).mono ?_
  rintro e w' ⟨rfl, rfl⟩
  clear hl0 c0
  gi_wp2_with fail
  refine ⟨trivial, ?_⟩
  refine (callsIn_wide.2 hfi).mono ?_
  rintro e W2 ⟨rfl, hm2⟩
  clear hfi c2 c3 c4 c5
  have h3 := H2.out.more hm2
  have c0 := (h3.cell 1 rfl 0 (v := .pointer (some ⟨b, 0, none⟩)) rfl).1
  have c1 := (h3.cell 2 rfl 0 (v := .int .u64 hh) rfl).1
  have c2 := (h3.cell 3 rfl 0 (v := .slice sk x.keys.length ck) rfl).1
  have c3 := (h3.cell 3 rfl 1 (v := .slice sv x.vals.length cv) rfl).1
  have c4 := (h3.cell 3 rfl 2 (v := .slice sc x.kids.length cc) rfl).1
  have c5 := (h3.cell 3 rfl 3 (v := .int .u64 x.size) rfl).1
  have hl := stlen_call h3 0 rfl HI.out.1 HI.out.2.1 (.ok j r HI.out.2.2.1)
  rw [HI.out.2.2.2, HF.out.2] at hl
  have hnw := nwords_call (ck := ck) (cv := cv) (cc := cc) (HX.out.1.mod hm2) ⟨HF.out.1.t2, HF.out.1.t16⟩ HF.out.1.keys HF.out.1.vals HF.out.1.kids
  rw [HF.out.2] at hnw
  have dn : ((n6 : Int) != (n6 : Int)) = false := bneF rfl
  have H3 := Lib.hid h3
  clear h3 hm2 H2
  gi_wp2_with fail
  refine ⟨trivial, ?_⟩
  refine (callsIn_wide.2 hl).mono ?_
  rintro e w' ⟨rfl, rfl⟩
  clear hl
  gi_wp2_with fail
  refine ⟨trivial, ?_⟩
  refine (callsIn_wide.2 hnw).mono ?_
  rintro e W5 ⟨B, g, rfl, h4⟩
  have h5 := H3.out.join h4
  clear hnw h4 H3 c0 c1 c2 c3 c4 c5
  have h5 : Sep F0' w W5 [stR b m la S T, cellsAt w.heap.size #[.pointer (some ⟨b, 0, none⟩)] 24, cellsAt (w.heap.size + 1) #[.int .u64 hh] 31, cellsAt (w.heap.size + 1 + 1) #[.slice sk x.keys.length ck, .slice sv x.vals.length cv, .slice sc x.kids.length cc, .int .u64 x.size] 73, u64Row (.slice (some ⟨g, 0, none⟩) n6 n6) n6 (Nd.ws t x), cellsAt B #[.slice (some ⟨g, 0, none⟩) n6 n6] 48] := h5
  have hlw : (Nd.ws t x).length = n6 := by rw [Nd.ws_len, HF.out.2]
  have hok := Nd.ws_ok (t := t) HX.out.2 (by have := HF.out.1.keys; omega)
  have hAt : ∀ {W : World} {S1 : Slb}, Sep F0' w W (PutPs w b m la S1 T hh sk sv sc ck cv cc x g n6 t B) → AllAt B g n6 (Nd.ws t x) W := fun hs => ⟨(hs.cell 5 rfl 0 (v := .slice (some ⟨g, 0, none⟩) n6 n6) rfl).1, fun k v hv => by
    obtain ⟨g1, eg, c, _⟩ := hs.item 4 rfl (o := k) (x := .int .u64 v) (by rw [List.getElem?_map, hv]; rfl)
    cases eg
    exact c⟩
  have HAt : Hid (∀ {W : World} {S1 : Slb}, Sep F0' w W (PutPs w b m la S1 T hh sk sv sc ck cv cc x g n6 t B) → AllAt B g n6 (Nd.ws t x) W) := hAt
  have hsq := all_stops hlw (by omega) hok W5 (hAt h5) 3 (by omega)
  have HLW := Lib.hid (And.intro hlw (hlw.trans (HF.out.2.symm.trans HI.out.2.2.2.symm)))
  have H5 : Hid (Sep F0' w W5 (PutPs w b m la S T hh sk sv sc ck cv cc x g n6 t B)) := h5
  have hsz := h5.size
  clear h5 hlw hok hAt
  gi_wp2_with fail
  refine wpIn_rangeFunc_ownF rfl (by omega) (gf := 125) (lb := #[.pointer (some ⟨B, 0, none⟩)]) rfl trivial (enters_of Tryd.func125 (by kernel_rfl) rfl) hsq (fun h k a => k (h a)) (fun W l o o' hl h hc hw hA => hA.own h hc) (Below.refl _ _) (fun _ => rfl)
    (fun pre W => ∃ S1, PutOut S T H R j r (putL r.w (pre.map (·.1))) S1 ∧ SepB W5.heap.size F0' w W (PutPs w b m la S1 T hh sk sv sc ck cv cc x g n6 t B))
    (fun _ _ _ => False)
    (fun s A B' row hs hg hr => by obtain ⟨S1, hO, hB⟩ := hs; exact ⟨S1, hO, hB.grown hsz hg (fun r e => (hr r e).1)⟩)
    (fun _ _ _ _ _ hs _ _ => hs)
    ⟨S, PutOut.start HI.out.1 HI.out.2.2.1.hj, SepB.of H5.out⟩
    (fun p => { tmps := #[.pointer (some ⟨b, 0, none⟩), .int .i64 (t : Nat), .int .u64 hh, ndV sk ck sv cv sc cc x, .pointer (some ⟨w.heap.size, 0, none⟩), undef, .pointer (some ⟨w.heap.size + 1, 0, none⟩), .pointer (some ⟨w.heap.size + 1 + 1, 0, none⟩), .int .i64 0,
      .int .i64 0, .int .i64 7, .int .i64 (n6 : Nat), .int .i64 0, .int .i64 (p.1.1 : Nat), .int .u64 p.1.2, .tuple #[.int .i64 0, .int .i64 7], .pointer (some ⟨b, 0, none⟩), .tuple #[.int .i64 0, .int .i64 7], .int .i64 0, .int .i64 7, .int .i64 7, .bool false, undef, .int .i64 (t : Nat),
      .agg #[.slice sk x.keys.length ck, .slice sv x.vals.length cv, .slice sc x.kids.length cc, .int .u64 x.size], .bool true, .bool false, .tuple #[.int .i64 (n6 : Nat), .int .i64 0], .pointer (some ⟨b, 0, none⟩), .int .u64 hh, .tuple #[.int .i64 (n6 : Nat), .int .i64 0], .int .i64 (n6 : Nat), .int .i64 0, .bool false, .int .i64 0, .bool false, undef, .bool false,
      .int .i64 (n6 : Nat), .int .i64 (t : Nat), .int .i64 (n6 : Nat), .bool false, .int .i64 (t : Nat), .agg #[.slice sk x.keys.length ck, .slice sv x.vals.length cv, .slice sc x.kids.length cc, .int .u64 x.size], .func (.func 125) #[] #[.pointer (some ⟨B, 0, none⟩)], .int .i64 (p.1.1 : Nat), .int .u64 p.1.2, undef, undef, undef, undef, undef], defers := [] }) ?assign ?body ?done ?stop
  case assign =>
    intro l p W K hK
    gi_wp2
    exact hK
  case body =>
    rintro l pre ⟨⟨k, v⟩, hk, hv0, hv1⟩ W ⟨S1, hO, hB⟩ hlen
    obtain ⟨F2, hs, back⟩ := hB.step
    have hjl := (List.getElem?_eq_some_iff.1 HI.out.2.2.1.hj).1
    have hj2 : (R.set j { r with w := putL r.w (pre.map (·.1)) })[j]? = some { r with w := putL r.w (pre.map (·.1)) } := by rw [List.getElem?_set, if_pos rfl, if_pos hjl]
    obtain ⟨S2, P⟩ := hO.inv.putOk hj2 HI.out.2.2.1.h0 (i := k) (by dsimp only; rw [putL_len, HI.out.2.2.2, HF.out.2]; exact hk) hv0 hv1
    have hc := stputK_call hs 0 rfl hO.inv (hh := hh) HI.out.2.1 hv0 hv1 (by rw [← HI.out.2.2.1.he]; exact P)
    have hq := P.quo
    have HO2 : Hid (PutOut S T H R j r (putL r.w ((pre ++ [(⟨(k, v), hk, hv0, hv1⟩ : WordIn n6)]).map (·.1))) S2) := by
      have hI := P.inv
      rw [List.set_set] at hI
      rw [List.map_append]
      exact ⟨by rw [show [(⟨(k, v), hk, hv0, hv1⟩ : WordIn n6)].map (·.1) = [(k, v)] from rfl, putL_snoc]; exact hI, hq.2.trans hO.pg, hq.1.trans hO.quo⟩
    have c0 := (hs.cell 1 rfl 0 (v := .pointer (some ⟨b, 0, none⟩)) rfl).1
    have c1 := (hs.cell 2 rfl 0 (v := .int .u64 hh) rfl).1
    have HB := Lib.hid back
    clear hs P hq hO hB hj2 back hlen
    gi_wp2_with fail
    refine ⟨trivial, ?_⟩
    refine (CallsIn.inRound l (callsIn_wide.2 hc)).mono ?_
    rintro e w3 ⟨rfl, h3, hk3, hz3⟩
    have hB3 := HB.out w3 (PutPs w b m la S2 T hh sk sv sc ck cv cc x g n6 t B) h3 hz3
    have H3 := Lib.hid (And.intro hk3 (And.intro (HAt.out hB3.sep) hB3))
    clear hc h3 hk3 hz3 hB3
    gi_wp2
    exact ⟨H3.out.1, fun _ => H3.out.2.1, S2, HO2.out, H3.out.2.2⟩
  case done =>
    rintro D xs W hD hxs ⟨S1, hO, hB⟩ hK
    rw [hxs] at hO
    have hall : putL r.w (pairs (Nd.ws t x) n6) = Nd.ws t x := by
      have := putL_all HLW.out.2
      rw [HLW.out.1] at this
      exact this
    rw [hall] at hO
    have hB2 := hB.grown hsz (grownBy_putObj' W D (.deferred none)) (fun r e => by cases e; exact hD)
    have HQ := Lib.hid (And.intro (hO.node HLW.out.2 (n := n6) HLW.out.1) (Sep.left (Ps := [_]) hB2.sep))
    clear hO hB hB2 hall hxs
    gi_wp2
    refine ⟨by simp, .inl ⟨_, _, rfl, run_takeDeferred hK, ?_⟩⟩
    refine ⟨.int .i64 0, ?_, S1, ⟨rfl, HQ.out.1⟩, HQ.out.2⟩
    simp [results, Tryd.f69, go_sem]
  case stop =>
    rintro D c pre W hD _ h _
    exact h.elim
end
end Go.Proofs.YtfmcddomciicdaaDoor
