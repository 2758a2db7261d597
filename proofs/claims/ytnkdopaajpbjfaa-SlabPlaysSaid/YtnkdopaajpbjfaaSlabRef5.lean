/- The reference of layer 1 (loftref01): Write, walked. Conditions: the arena in memory is as said. -/
import Derived.Test.YtnkdopaajpbjfaaSlabRef4
import Derived.Deep.RegionHeld3
import Derived.Laws.Runes
namespace Go.Proofs.Ytnkdopaajpbjfaa
open Go Go.RowKit

variable {F : Nat → Prop} {w0 w : World}

def WS (b g o : Nat) (q : Int) (v : Value) (w' : World) : Prop := w'.cell? ⟨b, 0, none⟩ = some (.int .i64 q) ∧ w'.cell? ⟨b, 1, none⟩ = some v ∧ w'.frozen? ⟨g, o, none⟩ = false ∧ (w'.cell? ⟨g, o, none⟩).isSome = true
theorem WS.set {b g o : Nat} {q : Int} {v : Value} (h : WS b g o q v w) (hbg : b ≠ g) (u : Value) :
    (w.setCell ⟨g, o, none⟩ u).cell? ⟨b, 0, none⟩ = some (.int .i64 q) ∧ (w.setCell ⟨g, o, none⟩ u).cell? ⟨b, 1, none⟩ = some v ∧ (w.setCell ⟨g, o, none⟩ u).frozen? ⟨g, o, none⟩ = false ∧ ((w.setCell ⟨g, o, none⟩ u).cell? ⟨g, o, none⟩).isSome = true := by
  obtain ⟨h1, h2, h3, h4⟩ := h
  refine ⟨?_, ?_, ?_, ?_⟩
  · rw [World.cell?_of_block (w := w) (at_setCell_ne _ _ hbg)]; exact h1
  · rw [World.cell?_of_block (w := w) (at_setCell_ne _ _ hbg)]; exact h2
  · rw [World.frozen?_setCell]; exact h3
  · rw [World.cell?_setCell_same' _ _ _ h4]; rfl

theorem rrelease_call {b : Nat} {S : Slb} (h : Sep F w w [rslabR b S]) (hS : S.Ok) (f n : Int) {er : Int} {S' : Slb} (r : S.release f n = (er, S')) :
    Calls Try.prog 31 #[.pointer (some ⟨b, 0, none⟩), .int .i64 f, .int .i64 n] w fun e w' => e = .returned (.int .i64 er) ∧ Sep F w w' [rslabR b S'] := by
  by_cases hbad : n < 1 ∨ 4096 < n ∨ f < 0 ∨ 1048576 - n < f
  · unfold Slb.release at r
    rw [if_pos hbad] at r
    cases r
    exact rrelease_err h f n hbad
  · obtain ⟨f, rfl⟩ := Int.eq_ofNat_of_zero_le (show 0 ≤ f by omega)
    obtain ⟨n, rfl⟩ := Int.eq_ofNat_of_zero_le (show 0 ≤ n by omega)
    exact rrelease_ok h hS f n (by omega) (by omega) (by omega) r

theorem prow_congr {wd wd' : Nat → Int} : ∀ {pg : List Nat}, (∀ k ∈ pg, pcell wd k = pcell wd' k) → prow wd pg = prow wd' pg
  | [], _ => rfl
  | k :: pg, h => by
    unfold prow
    rw [List.flatMap_cons, List.flatMap_cons, h k (List.mem_cons_self ..)]
    congr 1
    exact prow_congr (pg := pg) fun x hx => h x (List.mem_cons_of_mem _ hx)
theorem prow_upd {wd wd' : Nat → Int} {k o : Nat} {v : Value} (hne : ∀ x, x ≠ k → pcell wd' x = pcell wd x) (hk : pcell wd' k = (pcell wd k).set o v) (ho : o < 65) :
    ∀ (pg : List Nat), pg.Nodup → ∀ p : Nat, pg[p]? = some k → prow wd' pg = (prow wd pg).set (p * 65 + o) v
  | [], _, p, h => by simp at h
  | c :: pg, hd, 0, h => by
    simp at h
    subst h
    have hd := List.nodup_cons.1 hd
    have e := prow_congr (wd := wd') (wd' := wd) (pg := pg) fun x hx => hne x fun e => hd.1 (e ▸ hx)
    show pcell wd' c ++ prow wd' pg = (pcell wd c ++ prow wd pg).set _ v
    rw [e, hk, Nat.zero_mul, Nat.zero_add, List.set_append_left _ _ (by rw [pcell_len]; exact ho)]
  | c :: pg, hd, p + 1, h => by
    have hd := List.nodup_cons.1 hd
    have hp : pg[p]? = some k := by simpa using h
    have hc : c ≠ k := fun e => hd.1 (e ▸ List.mem_of_getElem? hp)
    have ih := prow_upd hne hk ho pg hd.2 p hp
    show pcell wd' c ++ prow wd' pg = (pcell wd c ++ prow wd pg).set _ v
    rw [ih, hne c hc, List.set_append_right _ _ (by rw [pcell_len]; omega), pcell_len]
    congr 2
    omega

/-- A page's word is another one. -/
theorem prow_set {S : Slb} (hS : S.Ok) {p k j : Nat} (hk : S.pg[p]? = some k) (hj : j < 64) (v : Int) :
    prow (fun x => if x = 64 * k + j then v else S.wd x) S.pg = (prow S.wd S.pg).set (p * 65 + (1 + j)) (.int .u64 v) := by
  refine prow_upd (k := k) (fun x hx => ?_) ?_ (by omega) S.pg (Slb.nodup hS) p hk
  · unfold pcell
    congr 1
    refine List.map_congr_left fun i hi => ?_
    have := List.mem_range.1 hi
    dsimp only
    rw [if_neg (by omega)]
  · unfold pcell
    rw [show 1 + j = j + 1 by omega, List.set_cons_succ]
    congr 1
    apply List.ext_getElem?
    intro i
    rw [List.getElem?_set]
    by_cases hij : j = i
    · subst hij
      simp [hj]
    · rw [if_neg hij, List.getElem?_map, List.getElem?_map]
      cases hr : (List.range 64)[i]? with
      | none => rfl
      | some y =>
        have hy : y = i := by
          have := List.getElem?_eq_some_iff.1 hr
          obtain ⟨_, h2⟩ := this
          simpa using h2.symm
        subst hy
        simp only [Option.map_some]
        rw [if_neg (by omega)]

set_option maxRecDepth 100000 in
set_option maxHeartbeats 1000000 in
theorem rwrite_call {b : Nat} {S : Slb} (h : Sep F w w [rslabR b S]) (hS : S.Ok) (a v : Int) (v0 : 0 ≤ v) (v1 : v < 18446744073709551616) {er : Int} {S' : Slb} (r : S.write a v = (er, S')) :
    Calls Try.prog 33 #[.pointer (some ⟨b, 0, none⟩), .int .i64 a, .int .u64 v] w fun e w' => e = .returned (.int .i64 er) ∧ Sep F w w' [rslabR b S'] := by
  have H := Lib.hid h
  obtain ⟨sa, cap, h2⟩ := rs_open h
  have c0 := (h2.cell 0 rfl 0 (v := .int .i64 S.quota) rfl).1
  have c1 := (h2.cell 0 rfl 1 (v := .slice sa S.pg.length cap) rfl).1
  have hc := rread_call (h2.row 1 rfl) hS a
  by_cases he : S.err a = 0
  · rw [Slb.write_in he] at r
    cases r
    rw [Slb.read_in he] at hc
    obtain ⟨a0, a1, hin⟩ := Slb.err_zero he
    have hh : S.has (a / 64) = true := Slb.has_iff.2 ⟨by omega, by rw [show (a / 64).toNat = a.toNat / 64 by omega]; exact hin⟩
    have hp := Slb.place_get hh
    have hpl := Slb.place_lt.2 hh
    have hat := placeAt_yes hh
    have hlen : (S.pg.length : Int) ≤ 4096 := by have := Slb.len_le hS; omega
    obtain ⟨i0, hi0, ⟨z0, hz0, hz3⟩, hz1, hz2⟩ := infoPage
    have HI := Lib.hid (And.intro hi0 (And.intro hz0 (And.intro hz1 (And.intro hz2 hz3))))
    have HS := Lib.hid hS
    generalize S.wd a.toNat = x at *
    have hS' := hS
    clear hi0 hz0 hz1 hz2 hz3 h hS he hin
    go_enter Try.func33, Try.ntmps33
    go_wp2_with fail
    refine hc.mono ?_
    rintro e w1 ⟨rfl, hm⟩
    have h3 := h2.more hm
    have hb := lt_of_at (h3.block 0 rfl)
    have hE : Sep F w (w1.alloc (.cells #[] 59)) [cellsAt b #[.int .i64 S.quota, .slice sa S.pg.length cap] 48, rowAt 59 65 (.slice sa S.pg.length cap) S.pg.length (prow S.wd S.pg), rowAt 59 65 (.slice (some ⟨w1.heap.size, 0, none⟩) 0 0) 0 []] := h3.pushEmpty _ _
    have c1 := hm.cell c1 (fun x => x)
    have hsrc := srcOf_row (hE.row 1 rfl) (prow_one _ _)
    obtain ⟨hi0, hz0, hz1, hz2, hz3⟩ := HI.out
    clear hc hm h2 h3 c0
    go_wp2_with (at_builtin; refine wpList_append_src hE 2 rfl (by rfl) _ _ 46 rfl Try.underlying46 hi0 hz0 hz1 hz2 hz3 (by decide) (by rfl) _ (by rfl) hsrc (by unfold maxLen; omega) (by omega) ?_)
    intro sb cap2 w2 h2
    have h2 : Sep F w w2 [cellsAt b #[.int .i64 S.quota, .slice sa S.pg.length cap] 48, rowAt 59 65 (.slice sa S.pg.length cap) S.pg.length (prow S.wd S.pg), rowAt 59 65 (.slice sb S.pg.length cap2) S.pg.length (prow S.wd S.pg)] := h2
    have hB := h2.cell 0 rfl 1 (v := .slice sa S.pg.length cap) rfl
    have b1 := hB.1
    have b2 := hB.2
    have h5 : Sep F w (w2.setCell ⟨b, 1, none⟩ (.slice sb S.pg.length cap2)) [cellsAt b #[.int .i64 S.quota, .slice sb S.pg.length cap2] 48, rowAt 59 65 (.slice sb S.pg.length cap2) S.pg.length (prow S.wd S.pg)] := by
      have h3 : Sep F w (w2.setCell ⟨b, 1, none⟩ (.slice sb S.pg.length cap2)) [cellsAt b #[.int .i64 S.quota, .slice sb S.pg.length cap2] 48, rowAt 59 65 (.slice sa S.pg.length cap) S.pg.length (prow S.wd S.pg), rowAt 59 65 (.slice sb S.pg.length cap2) S.pg.length (prow S.wd S.pg)] := h2.set 0 rfl 1 _
      exact h3.pick (fun i => if i = 0 then 0 else 2) (fun i hi => by match i, hi with | 0, _ => rfl | 1, _ => rfl) (fun i j hi hj hij => by match i, j, hi, hj with | 0, 1, _, _ => decide | 1, 0, _, _ => decide | 0, 0, _, _ => exact absurd rfl hij | 1, 1, _, _ => exact absurd rfl hij)
    have H5 := Lib.hid h5
    clear hE hsrc hi0 hz0 hz1 hz2 hz3 hB h2 h5 c1
    go_wp2_with fail
    clear b1 b2
    obtain ⟨w3, hw3⟩ : ∃ x, w2.setCell ⟨b, 1, none⟩ (.slice sb S.pg.length cap2) = x := ⟨_, rfl⟩
    rw [hw3] at H5 ⊢
    clear hw3
    have h5 := H5.out
    have k0 := (h5.cell 0 rfl 0 (v := .int .i64 S.quota) rfl).1
    have k1 := (h5.cell 0 rfl 1 (v := .slice sb S.pg.length cap2) rfl).1
    obtain ⟨g, rfl, _, hg, _, cw, fz⟩ := ppage (h5.row 1 rfl) hp
    have hc := rat_call (h5.drew.row 1 rfl) HS.out (a / 64)
    rw [hat] at hc
    have hbg : b ≠ g := fun e => by
      have h8 := h5.block 0 rfl
      subst e
      exact row_ne (h5.row 1 rfl) h8 (by decide) rfl
    obtain ⟨j, hj⟩ : ∃ j : Nat, (a % 64).toNat = j := ⟨_, rfl⟩
    have hj2 : a % 64 = (j : Int) := by omega
    have hj3 : j < 64 := by omega
    have cw := cw j hj3
    have fz := fz (S.place (a / 64) * 65 + 1 + j)
    have HP := Lib.hid hp
    have ha : a.toNat = 64 * (a / 64).toNat + j := by omega
    have HA := Lib.hid (prow_set hS' hp hj3 v)
    rw [← ha] at HA
    generalize S.place (a / 64) = p at *
    have hpl2 : (p : Int) < (S.pg.length : Int) := by omega
    have hp0 : (0 : Int) ≤ (p : Int) := by omega
    clear hp hh hat ha h5
    have e64 : IntKind.i64.wrap (a.tdiv 64) = a / 64 := by rw [Int.tdiv_eq_ediv_of_nonneg a0, wrap_small _ (by omega) (by omega)]
    have e65 : IntKind.i64.wrap (a.tmod 64) = (j : Int) := by rw [Int.tmod_eq_emod_of_nonneg a0, wrap_small _ (by omega) (by omega), hj2]
    have e66 : a.tmod 64 = (j : Int) := by rw [Int.tmod_eq_emod_of_nonneg a0, hj2]
    have hj0 : (0 : Int) ≤ (j : Int) := by omega
    have hj4 : (j : Int) < 64 := by omega
    have hj5 : (0 : Int) ≤ a % 64 := by omega
    have hj6 : a % 64 < 64 := by omega
    have hold1 := And.intro k0 (And.intro k1 (And.intro fz (show (w3.cell? ⟨g, p * 65 + 1 + j, none⟩).isSome = true from by rw [cw]; rfl)))
    clear cw
    go_region_held3 (fun w' => w'.cell? ⟨b, 0, none⟩ = some (.int .i64 S.quota) ∧ w'.cell? ⟨b, 1, none⟩ = some (.slice (some ⟨g, 0, none⟩) S.pg.length cap2) ∧ w'.frozen? ⟨g, p * 65 + 1 + j, none⟩ = false ∧ (w'.cell? ⟨g, p * 65 + 1 + j, none⟩).isSome = true)
      (first | exact hold1 | exact hold2 | exact hold3 _)
      (first
        | (go_at_call 24; refine hc.mono ?_; rintro e w4 ⟨rfl, hm⟩; have h6 := H5.out.drew.more hm; have n0 := (h6.cell 0 rfl 0 (v := .int .i64 S.quota) rfl).1; have n1 := (h6.cell 0 rfl 1 (v := .slice (some ⟨g, 0, none⟩) S.pg.length cap2) rfl).1; have hpp := ppage (h6.row 1 rfl) HP.out; obtain ⟨g', hg', _, _, _, cw', fz'⟩ := hpp; cases hg'; have hold2 := And.intro n0 (And.intro n1 (And.intro (fz' (p * 65 + 1 + j)) (show (w4.cell? ⟨g, p * 65 + 1 + j, none⟩).isSome = true from by rw [cw' j hj3]; rfl))); have hold3 := fun u => WS.set (w := w4) hold2 hbg u; have h7 := h6.setItem 1 rfl (p * 65 + 1 + j) (.int .u64 v); clear hc))
    have h8 : Sep F w (w4.setCell ⟨g, p * 65 + 1 + j, none⟩ (.int .u64 v)) [cellsAt b #[.int .i64 S.quota, .slice (some ⟨g, 0, none⟩) S.pg.length cap2] 48, rowAt 59 65 (.slice (some ⟨g, 0, none⟩) S.pg.length cap2) S.pg.length (prow (fun x => if x = a.toNat then v else S.wd x) S.pg)] := by
      rw [HA.out, show p * 65 + (1 + j) = p * 65 + 1 + j by omega]
      exact h7
    have H8 := Lib.hid (rs_shut (S := ⟨S.quota, S.pg, fun x => if x = a.toNat then v else S.wd x⟩) h8)
    clear h8 h7 hold3 hold2 hold1 h6 hm h2 cw' fz' HA H5
    go_wp2
    go_ret
    exact ⟨rfl, H8.out⟩
  · have hrd : S.read a = (0, S.err a) := by unfold Slb.read; rw [if_neg he]
    rw [hrd] at hc
    have hw : S.write a v = (S.err a, S) := by unfold Slb.write; rw [if_neg he]
    rw [hw] at r
    cases r
    have hne : (S.err a != 0) = true := bneT he
    generalize S.err a = er at *
    clear h hS hrd hw he
    go_enter Try.func33, Try.ntmps33
    go_wp2_with fail
    refine hc.mono ?_
    rintro e w1 ⟨rfl, hm⟩
    have H2 := Lib.hid (H.out.more hm)
    clear hc hm h2
    go_wp2
    go_ret
    exact ⟨rfl, H2.out⟩
end Go.Proofs.Ytnkdopaajpbjfaa
