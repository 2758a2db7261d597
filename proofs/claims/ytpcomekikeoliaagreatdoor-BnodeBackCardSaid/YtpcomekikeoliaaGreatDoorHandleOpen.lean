/- Open of handle.Table, walked. Conditions: the table is as Tab says; addresses are 64-bit ints. -/
import Derived.Test.YtpcomekikeoliaaGreatDoorHandleWalk3
import Derived.Test.YtpcomekikeoliaaGreatDoorGround
set_option linter.unusedVariables false
set_option linter.unusedSimpArgs false
set_option maxRecDepth 100000
namespace Go.Proofs.YtpcomekikeoliaaGreatDoor
open Go Go.RowKit

theorem Tab.drew {w : World} {t : Nat} {v : Value} {T : HTbl} (h : Tab w t v T) : Tab w.drew t v T := h.of_heap rfl
theorem Tab.store3 {w : World} {t g cap : Nat} {T : HTbl} (h : Tab w t (.slice (some ⟨g, 0, none⟩) T.l.length cap) T) {k : Nat} (hk : k < T.l.length) (s : HSlot) (hok : ({ T with l := T.l.set k s } : HTbl).Ok) :
    Tab (((w.setCell ⟨g, k * 3, none⟩ (.int .i64 s.is)).setCell ⟨g, k * 3 + 1, none⟩ (.int .u32 s.gen)).setCell ⟨g, k * 3 + 2, none⟩ (.int .i64 s.addr)) t (.slice (some ⟨g, 0, none⟩) T.l.length cap) { T with l := T.l.set k s } ∧
    Mod (Own t (.slice (some ⟨g, 0, none⟩) T.l.length cap)) w (((w.setCell ⟨g, k * 3, none⟩ (.int .i64 s.is)).setCell ⟨g, k * 3 + 1, none⟩ (.int .u32 s.gen)).setCell ⟨g, k * 3 + 2, none⟩ (.int .i64 s.addr)) := by
  have hne : t ≠ g := fun e => h.ne (by simp [Value.ownBlock, e])
  refine ⟨⟨?_, ?_, hok⟩, (((Mod.refl _ w).setCell _ _ (.inl (.inr rfl))).setCell _ _ (.inl (.inr rfl))).setCell _ _ (.inl (.inr rfl))⟩
  · rw [at_setCell_ne _ _ hne, at_setCell_ne _ _ hne, at_setCell_ne _ _ hne, h.box]
  · show World.ownsRow _ _ _ _ _ (T.l.set k s).length (rowOf (T.l.set k s))
    rw [rowOf_set T.l k s hk, List.length_set]
    exact ((((h.row.stored _ _).1).stored _ _).1.stored _ _).1

theorem open_neg {w : World} {t : Nat} {v : Value} {T : HTbl} (h : Tab w t v T) (a : Int) (ha : a < 0) :
    Calls Tryz.prog 98 #[.pointer (some ⟨t, 0, none⟩), .int .i64 a] w fun e w' => e = .returned (.tuple #[.int .u64 0, .int .i64 2]) ∧ w = w' := by
  have hN := h.there
  clear h
  go_enter Tryz.func98, Tryz.ntmps98
  go_wp2_with ((with_reducible refine hN.mono ?_); rintro e w' ⟨rfl, rfl⟩)
  go_ret2
  exact ⟨rfl, rfl⟩

theorem open_full {w : World} {t : Nat} {v : Value} {T : HTbl} (h : Tab w t v T) (a : Int) (ha : 0 ≤ a) (hf : (T.free : Int) = T.most) :
    Calls Tryz.prog 98 #[.pointer (some ⟨t, 0, none⟩), .int .i64 a] w fun e w' => e = .returned (.tuple #[.int .u64 0, .int .i64 10]) ∧ w = w' := by
  have hN := h.there
  have c0 := h.c0
  have c2 := h.c2
  have hle : T.free ≤ T.l.length := HTbl.freeIn_le T.l
  have hlen := h.ok.len
  have hmost := h.ok.most1
  obtain ⟨sa, len, cap, rfl, hl⟩ := h.form
  have hlm := h.ok.most2
  have hbig : len ≤ 65536 := by omega
  have hFe : T.free = len := by omega
  have hM : (T.most : Int) = (len : Int) := by omega
  rw [hM] at c0
  have HS : Hid (∀ j, j < len → ∃ g i, sa = some ⟨g, 0, none⟩ ∧ w.cell? ⟨g, j * 3, none⟩ = some (.int .i64 i) ∧ i ≠ 0) := by
    intro j hj
    have hjl : j < T.l.length := by omega
    obtain ⟨g, cap', hv, _, b0, _⟩ := h.slot (List.getElem?_eq_getElem hjl)
    simp only [Value.slice.injEq] at hv
    exact ⟨g, _, hv.1, b0, HTbl.freeIn_before T.l j _ (show j < T.free by omega) (List.getElem?_eq_getElem hjl)⟩
  clear h hf hle hlen hlm hl hFe hM
  go_enter Tryz.func98, Tryz.ntmps98
  go_wp2_with ((with_reducible refine hN.mono ?_); rintro e w' ⟨rfl, rfl⟩)
  go_loop [6] (fun k => ∃ j : Nat, j ≤ len ∧ k = .int .i64 j) (fun k => len - (RowKit.intOf k).toNat)
  case atStart => exact ⟨0, Nat.zero_le _, rfl⟩
  case round =>
    obtain ⟨j, hj, rfl⟩ := hrel
    by_cases hlt : j < len
    · obtain ⟨g, i, rfl, b0, hi⟩ := HS.out j hlt
      have hi' : (i != 0) = true := bneT hi
      clear hi HS
      go_wp2
      go_round
      case rel => exact ⟨j + 1, by omega, by go_num⟩
      case measure => simp [RowKit.intOf]; omega
    · have hjl : j = len := by omega
      obtain rfl := hjl
      clear HS
      go_wp2
      go_ret2
      exact ⟨rfl, rfl⟩

theorem open_old {w : World} {t : Nat} {v : Value} {T : HTbl} (h : Tab w t v T) (a : Int) (ha : 0 ≤ a) (a1 : a ≤ 9223372036854775807) (hf : T.free < T.l.length) :
    Calls Tryz.prog 98 #[.pointer (some ⟨t, 0, none⟩), .int .i64 a] w fun e w' =>
      e = .returned (.tuple #[.int .u64 (HTbl.nameOf T.free (T.genAt T.free + 1)), .int .i64 0]) ∧ Tab w' t v (T.openK a) ∧ Mod (Own t v) w w' := by
  have hN := h.there
  have c0 := h.c0
  have c2 := h.c2
  have hlen := h.ok.len
  obtain ⟨g, cap, rfl, _, b0, b1, b2, hfz, hgt⟩ := h.slot (List.getElem?_eq_getElem hf)
  have hz := HTbl.freeIn_at T.l _ (List.getElem?_eq_getElem hf)
  have hz' : (T.l[T.free].is != 0) = false := bneF hz
  have f0 := hfz (T.free * 3)
  have f1 := hfz (T.free * 3 + 1)
  have f2 := hfz (T.free * 3 + 2)
  have n0 : ((T.free : Int) == T.most) = false := beqF (by omega)
  have HS : Hid (∀ j, j < T.free → ∃ i, w.cell? ⟨g, j * 3, none⟩ = some (.int .i64 i) ∧ i ≠ 0) := by
    intro j hj
    have hjl : j < T.l.length := by omega
    obtain ⟨g', cap', hv, _, b0, _⟩ := h.slot (List.getElem?_eq_getElem hjl)
    simp only [Value.slice.injEq, Option.some.injEq, Addr.mk.injEq, and_true, true_and] at hv
    exact ⟨_, hv.1 ▸ b0, HTbl.freeIn_before T.l j _ hj (List.getElem?_eq_getElem hjl)⟩
  have hbig := h.ok.most2
  have hso := h.ok.slots _ _ (List.getElem?_eq_getElem hf)
  have hla := h.ok.last2
  have g0 : 0 ≤ T.l[T.free].gen := by have := hso.2.1; omega
  have g1 : T.l[T.free].gen ≤ 4294967294 := by rcases hso.1 with h1 | h1 | h1 <;> omega
  have hge : T.genAt T.free = T.l[T.free].gen := by unfold HTbl.genAt; rw [List.getElem?_eq_getElem hf]
  have hop : T.openK a = { T with l := T.l.set T.free ⟨1, T.l[T.free].gen + 1, a⟩ } := by unfold HTbl.openK HTbl.put; rw [if_pos hf, hge]
  have hok := HTbl.openK_ok h.ok a ha a1 (by omega)
  have hT1 := h.store3 hf ⟨1, T.l[T.free].gen + 1, a⟩ (by rw [← hop]; exact hok)
  have hs1 : (T.l.set T.free ⟨1, T.l[T.free].gen + 1, a⟩)[T.free]? = some ⟨1, T.l[T.free].gen + 1, a⟩ := by rw [List.getElem?_set_self hf]
  have hnm := hT1.1.drew.name_call hs1
  dsimp only at hnm hT1
  rw [hge, hop]
  have HF := Lib.hid hT1
  have hfb : T.free ≤ 65536 := by omega
  clear hfz hso hop hok hT1 hs1 hge h hla hz hlen
  generalize T.l[T.free] = s at *
  go_enter Tryz.func98, Tryz.ntmps98
  go_wp2_with ((with_reducible refine hN.mono ?_); rintro e w' ⟨rfl, rfl⟩)
  go_loop [6] (fun k => ∃ j : Nat, j ≤ T.free ∧ k = .int .i64 j) (fun k => T.free - (RowKit.intOf k).toNat)
  case atStart => exact ⟨0, Nat.zero_le _, rfl⟩
  case round =>
    obtain ⟨j, hj, rfl⟩ := hrel
    by_cases hlt : j < T.free
    · obtain ⟨i, b0, hi⟩ := HS.out j hlt
      have hi' : (i != 0) = true := bneT hi
      clear hi HS hnm HF
      go_wp2
      go_round
      case rel => exact ⟨j + 1, by omega, by go_num⟩
      case measure => simp [RowKit.intOf]; omega
    · have hjl : j = T.free := by omega
      clear HS hj hlt
      obtain rfl := hjl
      go_wp2_with fail
      go_region
      go_wp2_with ((with_reducible refine hnm.mono ?_); rintro e w' ⟨rfl, rfl⟩)
      go_ret2
      exact ⟨rfl, HF.out.1.of_heap rfl, HF.out.2.like rfl rfl rfl rfl⟩

theorem zeros3 {w : World} {g cap j : Nat} {xs : List Value} {u0 u1 u2 : Value} (h : w.ownsRow 0 160 3 (.slice (some ⟨g, 0, none⟩) (j + 1) cap) (j + 1) (xs ++ [u0, u1, u2])) (hx : xs.length = j * 3) :
    w.cell? ⟨g, j * 3, none⟩ = some u0 ∧ w.cell? ⟨g, j * 3 + 1, none⟩ = some u1 ∧ w.cell? ⟨g, j * 3 + 2, none⟩ = some u2 := by
  refine ⟨?_, ?_, ?_⟩
  all_goals rw [h.cellAt _ (by omega), List.getElem?_append_right (by omega), hx]
  · simp
  · rw [show j * 3 + 1 - j * 3 = 1 by omega]; rfl
  · rw [show j * 3 + 2 - j * 3 = 2 by omega]; rfl

theorem Tab.pushed {w1 : World} {t g cap j : Nat} {v0 : Value} {T : HTbl} {s : HSlot} {u0 u1 u2 : Value} (hx : (rowOf T.l).length = j * 3)
    (hbox : w1.heap[t]? = some (.cells #[.int .i64 T.most, .int .u32 T.last, v0] 151 (0, 0)))
    (hown : w1.ownsRow 0 160 3 (.slice (some ⟨g, 0, none⟩) (j + 1) cap) (j + 1) (rowOf T.l ++ [u0, u1, u2])) (hgt : g ≠ t) (hok : ({ T with l := T.l ++ [s] } : HTbl).Ok) :
    Tab ((((w1.setCell ⟨t, 2, none⟩ (.slice (some ⟨g, 0, none⟩) (j + 1) cap)).setCell ⟨g, j * 3, none⟩ (.int .i64 s.is)).setCell ⟨g, j * 3 + 1, none⟩ (.int .u32 s.gen)).setCell ⟨g, j * 3 + 2, none⟩ (.int .i64 s.addr)) t
      (.slice (some ⟨g, 0, none⟩) (j + 1) cap) { T with l := T.l ++ [s] } ∧
    Mod (fun k => k = t ∨ k = g) w1 ((((w1.setCell ⟨t, 2, none⟩ (.slice (some ⟨g, 0, none⟩) (j + 1) cap)).setCell ⟨g, j * 3, none⟩ (.int .i64 s.is)).setCell ⟨g, j * 3 + 1, none⟩ (.int .u32 s.gen)).setCell ⟨g, j * 3 + 2, none⟩ (.int .i64 s.addr)) := by
  have hj : T.l.length = j := by rw [rowOf_len] at hx; omega
  refine ⟨⟨?_, ?_, hok⟩, ((((Mod.refl _ w1).setCell _ _ (.inl (.inl rfl))).setCell _ _ (.inl (.inr rfl))).setCell _ _ (.inl (.inr rfl))).setCell _ _ (.inl (.inr rfl))⟩
  · have hne : t ≠ g := fun e => hgt e.symm
    rw [at_setCell_ne _ _ hne, at_setCell_ne _ _ hne, at_setCell_ne _ _ hne, at_setCell hbox]; rfl
  · show World.ownsRow _ _ _ _ _ (T.l ++ [s]).length (rowOf (T.l ++ [s]))
    have hm : (w1.setCell ⟨t, 2, none⟩ (.slice (some ⟨g, 0, none⟩) (j + 1) cap)).ownsRow 0 160 3 (.slice (some ⟨g, 0, none⟩) (j + 1) cap) (j + 1) (rowOf T.l ++ [u0, u1, u2]) :=
      ownsRow_setCell_other hown (by simp [Value.ownBlock, hgt]) _
    have h3 := (((hm.stored (j * 3) (.int .i64 s.is)).1.stored (j * 3 + 1) (.int .u32 s.gen)).1.stored (j * 3 + 2) (.int .i64 s.addr)).1
    rw [rowOf_append, List.length_append, hj]
    have e : (((rowOf T.l ++ [u0, u1, u2]).set (j * 3) (Value.int .i64 s.is)).set (j * 3 + 1) (.int .u32 s.gen)).set (j * 3 + 2) (.int .i64 s.addr) = rowOf T.l ++ [.int .i64 s.is, .int .u32 s.gen, .int .i64 s.addr] := by
      rw [List.set_append_right _ _ (by omega), List.set_append_right _ _ (by omega), List.set_append_right _ _ (by omega), hx, Nat.sub_self, show j * 3 + 1 - j * 3 = 1 by omega, show j * 3 + 2 - j * 3 = 2 by omega]
      rfl
    rw [← e]; exact h3

theorem infoSlot : (Tryz.prog.info? 160).map (fun i => (i.zero, i.size, i.bytes)) = some (some (.agg #[.int .i64 0, .int .u32 0, .int .i64 0]), 3, 24) := by kernel_rfl

theorem open_new {w : World} {t : Nat} {v : Value} {T : HTbl} (h : Tab w t v T) (a : Int) (ha : 0 ≤ a) (a1 : a ≤ 9223372036854775807) (hf : T.free = T.l.length) (hn : (T.free : Int) ≠ T.most) :
    Calls Tryz.prog 98 #[.pointer (some ⟨t, 0, none⟩), .int .i64 a] w fun e w' =>
      e = .returned (.tuple #[.int .u64 (HTbl.nameOf T.free (T.genAt T.free + 1)), .int .i64 0]) ∧ ∃ v', Tab w' t v' (T.openK a) ∧ Mod (Own t v) w w' ∧ (v'.ownBlock = v.ownBlock ∨ ∀ k, v'.ownBlock = some k → w.heap.size ≤ k) := by
  have hN := h.there
  have c0 := h.c0
  have c2 := h.c2
  rw [hf] at hn ⊢
  have hfb : T.l.length ≤ 65535 := by have := h.ok.len; have := h.ok.most2; omega
  have n0 : ((T.l.length : Int) == T.most) = false := beqF hn
  have HS : Hid (∀ j, j < T.l.length → ∃ g cap i, v = .slice (some ⟨g, 0, none⟩) T.l.length cap ∧ w.cell? ⟨g, j * 3, none⟩ = some (.int .i64 i) ∧ i ≠ 0) := by
    intro j hj
    obtain ⟨g', cap', hv, _, b0, _⟩ := h.slot (List.getElem?_eq_getElem hj)
    exact ⟨_, _, _, hv, b0, HTbl.freeIn_before T.l j _ (show j < T.free by omega) (List.getElem?_eq_getElem hj)⟩
  obtain ⟨sa, _, cap, rfl, rfl⟩ := h.form
  have hown := h.row
  have hfz := h.fz 2
  have htl := h.lt
  have hor := h.ne
  obtain ⟨i0, hi, hz0, hz1, hz2⟩ := info_parts infoSlot
  have hge : T.genAt T.l.length = 0 := by unfold HTbl.genAt; simp
  have hop : T.openK a = { T with l := T.l ++ [⟨1, 1, a⟩] } := by unfold HTbl.openK HTbl.put; rw [if_neg (by omega), hf, hge]; rfl
  have hok := HTbl.openK_ok h.ok a ha a1 (by omega)
  have hbox := h.box
  rw [hge, hop]
  rw [hop] at hok
  have hrl : (rowOf (T.l ++ [⟨1, 1, a⟩])) = rowOf T.l ++ [.int .i64 1, .int .u32 1, .int .i64 a] := rowOf_append _ _
  have hxl := rowOf_len T.l
  have HX := Lib.hid (And.intro hop (And.intro hok (And.intro hbox (And.intro hrl hxl))))
  clear h hn hf hge hop hok hbox hrl hxl
  generalize T.l.length = L at *
  go_enter Tryz.func98, Tryz.ntmps98
  go_wp2_with ((with_reducible refine hN.mono ?_); rintro e w' ⟨rfl, rfl⟩)
  go_loop [6] (fun k => ∃ j : Nat, j ≤ L ∧ k = .int .i64 j) (fun k => L - (RowKit.intOf k).toNat)
  case atStart => exact ⟨0, Nat.zero_le _, rfl⟩
  case round =>
    obtain ⟨j, hj, rfl⟩ := hrel
    by_cases hlt : j < L
    · obtain ⟨g, cap', i, hv, b0, hi⟩ := HS.out j hlt
      simp only [Value.slice.injEq] at hv
      obtain ⟨rfl, _, rfl⟩ := hv
      have hi' : (i != 0) = true := bneT hi
      clear hi HS HX hown
      go_wp2
      go_round
      case rel => exact ⟨j + 1, by omega, by go_num⟩
      case measure => simp [RowKit.intOf]; omega
    · have hjl : j = L := by omega
      clear HS hj hlt
      obtain rfl := hjl
      go_wp2_with (at_builtin; refine wpList_append_one w (by rfl) _ _ 149 rfl 160 i0 _ 3 24 Tryz.underlying149 hi hz0 hz1 hz2 rfl (by decide) _ _ _ (by rfl) hown [.int .i64 0, .int .u32 0, .int .i64 0] (by rfl) rfl (by simp [Value.oneCell']) 160 (by unfold maxLen; omega) (by omega) ?_)
      intro g cap1 w1 hown1 hm1 hg1
      obtain ⟨hop, hok, hbox, hrl, hxl⟩ := HX.out
      have hbox1 := hm1.at hbox hor
      have hgt : g ≠ t := fun e => row_ne hown1 hbox1 (by decide) (by simp [Value.ownBlock, e])
      obtain ⟨b0, b1, b2⟩ := zeros3 hown1 hxl
      have f0 := hown1.frozenAt (j * 3)
      have f1 := hown1.frozenAt (j * 3 + 1)
      have f2 := hown1.frozenAt (j * 3 + 2)
      have c0' : w1.cell? ⟨t, 0, none⟩ = some (.int .i64 T.most) := by rw [cell_at hbox1]; rfl
      have c2' : w1.cell? ⟨t, 2, none⟩ = some (.slice sa j cap) := by rw [cell_at hbox1]; rfl
      have hfz' : w1.frozen? ⟨t, 2, none⟩ = false := frozen_at hbox1 2
      have hT1 := Tab.pushed (T := T) (s := ⟨1, 1, a⟩) hxl hbox1 hown1 hgt hok
      dsimp only at hT1
      have hs1 : (T.l ++ [⟨1, 1, a⟩])[j]? = some ⟨1, 1, a⟩ := by
        rw [rowOf_len] at hxl
        have : T.l.length = j := by omega
        rw [← this]; simp
      have hnm := hT1.1.drew.name_call hs1
      dsimp only at hnm
      have hfin := Lib.hid (And.intro hT1 (And.intro hm1 hg1))
      clear hop hok hbox hrl hxl HX hbox1 hown1 hT1 hs1 hown hm1 hg1 hor hi hz0 hz1 hz2 hN c0 c2 hfz
      go_wp2_with fail
      go_region
      go_wp2_with ((with_reducible refine hnm.mono ?_); rintro e w' ⟨rfl, rfl⟩)
      go_ret2
      obtain ⟨⟨hT, hM⟩, hm1, hg1⟩ := hfin.out
      refine ⟨rfl, _, hT.of_heap rfl, ?_, hg1.imp (fun e => e.symm) (fun e k hk => by cases hk; exact e)⟩
      have hm2 : Mod (Own t (.slice sa j cap)) w w1 := hm1.mono fun k _ x => .inr x
      refine ((hm2.trans (hM.mono fun k _ hk => ?_))).like rfl rfl rfl rfl
      rcases hk with rfl | rfl
      · exact .inl (.inl rfl)
      · exact hg1.elim (fun e => .inl (.inr e)) (fun e => .inr e)

/-- Open, on every table, at every address. -/
theorem Tab.open_call {w : World} {t : Nat} {v : Value} {T : HTbl} (h : Tab w t v T) (a : Int) (a1 : a ≤ 9223372036854775807) :
    Calls Tryz.prog 98 #[.pointer (some ⟨t, 0, none⟩), .int .i64 a] w fun e w' =>
      e = .returned (.tuple #[.int .u64 (T.open' a).1, .int .i64 (T.open' a).2.1]) ∧ ∃ v', Tab w' t v' (T.open' a).2.2 ∧ Mod (Own t v) w w' ∧ (v'.ownBlock = v.ownBlock ∨ ∀ k, v'.ownBlock = some k → w.heap.size ≤ k) := by
  unfold HTbl.open'
  by_cases ha : a < 0
  · rw [if_pos ha]
    exact (open_neg h a ha).mono fun e w' ⟨he, hw⟩ => ⟨he, v, hw ▸ h, hw ▸ Mod.refl _ _, .inl rfl⟩
  rw [if_neg ha]
  by_cases hf : (T.free : Int) = T.most
  · rw [if_pos hf]
    exact (open_full h a (by omega) hf).mono fun e w' ⟨he, hw⟩ => ⟨he, v, hw ▸ h, hw ▸ Mod.refl _ _, .inl rfl⟩
  rw [if_neg hf]
  have hle : T.free ≤ T.l.length := HTbl.freeIn_le T.l
  by_cases hlt : T.free < T.l.length
  · exact (open_old h a (by omega) a1 hlt).mono fun e w' ⟨he, hT, hM⟩ => ⟨he, v, hT, hM, .inl rfl⟩
  · exact open_new h a (by omega) a1 (by omega) hf
end Go.Proofs.YtpcomekikeoliaaGreatDoor
