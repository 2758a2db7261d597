/- The plain law of package heap: an arena as a list of entries (pages of small places, large blocks), and its blocks. No program stands here. No condition. | The plain law of package heap: the blocks of an arena's entries; what find tells. No program stands here. No condition. | The plain law of package heap: what Free and Alloc do to the blocks. No program stands here. No condition. | The plain law of package heap: what Alloc does to the blocks. No program stands here. No condition. | The plain law of package heap: what Slide does to the blocks. No program stands here. No condition. | The plain law of package heap: Slide of any block; Audit; Live; Spare. No program stands here. No condition. -/
import Derived.Test.YtfmkiioahnphbaaDoorHeapC
set_option linter.unusedVariables false
set_option linter.unusedSimpArgs false
set_option maxRecDepth 100000
namespace Go.Proofs.YtfmkiioahnphbaaDoor
open Go

/-- How many pages an entry has. -/
def Hd.wide (h : Hd) : Nat := if h.kind = 2 then h.n.toNat else 1
/-- As the document says. -/
def Hd.Good (h : Hd) : Prop :=
  (h.kind = 1 ∧ 0 ≤ h.n ∧ h.n < 8 ∧ 0 < h.w ∧ h.w < ((2 ^ (62 / csz h.n.toNat) : Nat) : Int)) ∨ (h.kind = 2 ∧ 28 < h.w ∧ h.w ≤ 4000 ∧ h.n = (h.w + 65) / 64)

theorem Hd.Good.wide1 {h : Hd} (g : h.Good) : 1 ≤ h.wide ∧ h.wide ≤ 63 := by
  unfold Hd.wide
  rcases g with ⟨h1, _⟩ | ⟨h1, h2, h3, h4⟩
  · rw [if_neg (by omega)]; omega
  · rw [if_pos h1]; omega
theorem Hd.Good.big {h : Hd} (g : h.Good) (h2 : h.kind = 2) : (h.wide : Int) = h.n ∧ 28 < h.w ∧ h.w ≤ 4000 ∧ h.n = (h.w + 65) / 64 := by
  rcases g with ⟨h1, _⟩ | ⟨h1, h2', h3, h4⟩
  · omega
  · refine ⟨?_, h2', h3, h4⟩
    unfold Hd.wide
    rw [if_pos h1]; omega
theorem Hd.Good.kinds {h : Hd} (g : h.Good) : h.kind = 1 ∨ h.kind = 2 := g.elim (fun x => .inl x.1) (fun x => .inr x.1)
theorem Hd.Good.small {h : Hd} (g : h.Good) (h1 : h.kind ≠ 2) : h.kind = 1 ∧ h.wide = 1 ∧ 0 ≤ h.n ∧ h.n < 8 ∧ 0 < h.w ∧ h.w < ((2 ^ (62 / csz h.n.toNat) : Nat) : Int) := by
  rcases g with g | g
  · exact ⟨g.1, if_neg h1, g.2⟩
  · exact absurd g.1 h1
theorem Hd.Good.w64 {h : Hd} (g : h.Good) : 0 < h.w ∧ h.w < 18446744073709551616 ∧ 0 ≤ h.n ∧ h.n < 72057594037927936 ∧ 0 ≤ h.kind ∧ h.kind < 256 := by
  rcases g with ⟨h1, h2, h3, h4, h5⟩ | ⟨h1, h2, h3, h4⟩
  · have hr := csz_range (show h.n.toNat < 8 by omega)
    have : (2 : Nat) ^ (62 / csz h.n.toNat) ≤ 2 ^ 31 := Nat.pow_le_pow_right (by omega) (by omega)
    omega
  · omega

abbrev Ent := Nat × Hd
/-- The pages of an entry. -/
def runE (x : Ent) : List Nat := (List.range x.2.wide).map (x.1 + ·)

namespace Slb

/-- An arena of such entries. -/
structure Rep (S : Slb) (H : List Ent) : Prop where
  ok : S.Ok
  low : ∀ k ∈ S.pg, k < 1048576
  ord : H.Pairwise (fun x y => x.1 + x.2.wide ≤ y.1)
  mem : ∀ k, k ∈ S.pg ↔ ∃ x ∈ H, x.1 ≤ k ∧ k < x.1 + x.2.wide
  hd : ∀ x ∈ H, S.hd x.1 = x.2
  good : ∀ x ∈ H, x.2.Good

theorem Rep.page {S : Slb} {H : List Ent} (R : Rep S H) {x : Ent} (hx : x ∈ H) : x.1 ∈ S.pg := (R.mem x.1).2 ⟨x, hx, Nat.le_refl _, by have := (R.good x hx).wide1; omega⟩

theorem hgo_skip {S : Slb} : ∀ (L1 L2 : List Nat) (nx : Int), (∀ p ∈ L1, (p : Int) < nx) → S.hgo (L1 ++ L2) nx = S.hgo L2 nx
  | [], _, _, _ => rfl
  | p :: L1, L2, nx, h => by
    show S.hgo (p :: (L1 ++ L2)) nx = _
    unfold hgo
    rw [if_pos (h p (by simp)), hgo_skip L1 L2 nx (fun q hq => h q (by simp [hq]))]
    cases L2 <;> rfl

theorem hgo_of {S : Slb} : ∀ (H : List Ent) (nx : Int), H.Pairwise (fun x y => x.1 + x.2.wide ≤ y.1) → (∀ x ∈ H, S.hd x.1 = x.2) → (∀ x ∈ H, x.2.Good) → (∀ x ∈ H, nx ≤ x.1) → S.hgo (H.flatMap runE) nx = H
  | [], _, _, _, _, _ => rfl
  | x :: H, nx, ho, hh, hg, hn => by
    have gx := hg x (by simp)
    have w1 := gx.wide1
    have ho' := List.pairwise_cons.1 ho
    obtain ⟨m, hm⟩ : ∃ m, x.2.wide = m + 1 := ⟨x.2.wide - 1, by omega⟩
    have e : runE x = x.1 :: (List.range m).map (x.1 + 1 + ·) := by
      unfold runE
      rw [hm, List.range_succ_eq_map, List.map_cons, List.map_map]
      congr 1
      apply List.map_congr_left
      intro a _
      simp; omega
    rw [List.flatMap_cons, e]
    show S.hgo (x.1 :: ((List.range m).map (x.1 + 1 + ·) ++ H.flatMap runE)) nx = _
    unfold hgo
    rw [if_neg (by have := hn x (by simp); omega), hh x (by simp)]
    have key : ∀ nx' : Int, (∀ p ∈ (List.range m).map (x.1 + 1 + ·), (p : Int) < nx') → (∀ y ∈ H, nx' ≤ y.1) → S.hgo ((List.range m).map (x.1 + 1 + ·) ++ H.flatMap runE) nx' = H := fun nx' h1 h2 => by
      rw [hgo_skip _ _ _ h1]
      exact hgo_of H nx' ho'.2 (fun y hy => hh y (by simp [hy])) (fun y hy => hg y (by simp [hy])) h2
    congr 1
    by_cases h2 : x.2.kind = 2
    · rw [if_pos h2]
      have hb := gx.big h2
      refine key _ (fun p hp => ?_) (fun y hy => ?_)
      · obtain ⟨a, ha, rfl⟩ := List.mem_map.1 hp
        have := List.mem_range.1 ha
        omega
      · have := ho'.1 y hy
        omega
    · rw [if_neg h2]
      have hs := gx.small h2
      obtain rfl : m = 0 := by omega
      exact key _ (by simp) (fun y hy => hn y (by simp [hy]))

theorem sorted_ext : ∀ {l m : List Nat}, l.Pairwise (· < ·) → m.Pairwise (· < ·) → (∀ k, k ∈ l ↔ k ∈ m) → l = m := by
  intro l m hl hm h
  have hp : l.Perm m := (List.perm_ext_iff_of_nodup (hl.imp (by intro a b h; omega)) (hm.imp (by intro a b h; omega))).2 h
  exact hp.eq_of_pairwise (fun a b _ _ h1 h2 => by omega) hl hm

theorem mem_runE {x : Ent} {k : Nat} : k ∈ runE x ↔ x.1 ≤ k ∧ k < x.1 + x.2.wide := by
  unfold runE
  simp only [List.mem_map, List.mem_range]
  constructor
  · rintro ⟨a, ha, rfl⟩; omega
  · rintro ⟨h1, h2⟩; exact ⟨k - x.1, by omega, by omega⟩

theorem flat_sorted : ∀ {H : List Ent}, H.Pairwise (fun x y => x.1 + x.2.wide ≤ y.1) → (H.flatMap runE).Pairwise (· < ·)
  | [], _ => List.Pairwise.nil
  | x :: H, h => by
    have h' := List.pairwise_cons.1 h
    rw [List.flatMap_cons, List.pairwise_append]
    refine ⟨?_, flat_sorted h'.2, ?_⟩
    · unfold runE
      rw [List.pairwise_map]
      exact List.pairwise_lt_range.imp (by intro a b h; omega)
    · intro a ha b hb
      obtain ⟨y, hy, hby⟩ := List.mem_flatMap.1 hb
      have := h'.1 y hy
      have := mem_runE.1 ha
      have := mem_runE.1 hby
      omega

theorem Rep.pg_eq {S : Slb} {H : List Ent} (R : Rep S H) : S.pg = H.flatMap runE :=
  sorted_ext R.ok.sorted (flat_sorted R.ord) fun k => by
    rw [R.mem k, List.mem_flatMap]
    constructor
    · rintro ⟨x, hx, h⟩; exact ⟨x, hx, mem_runE.2 h⟩
    · rintro ⟨x, hx, h⟩; exact ⟨x, hx, mem_runE.1 h⟩

theorem Rep.heads {S : Slb} {H : List Ent} (R : Rep S H) : S.heads = H := by
  unfold Slb.heads
  rw [R.pg_eq]
  exact hgo_of H 0 R.ord R.hd R.good (fun x _ => by omega)

/-! Words. -/
theorem err_page {S : Slb} {a : Nat} (h : a / 64 ∈ S.pg) (hl : a / 64 < 1048576) : S.err (a : Int) = 0 :=
  err_in (by omega) (by omega) (by rw [show ((a : Int) / 64).toNat = a / 64 by omega]; exact h)
theorem rd_page {S : Slb} {a : Nat} (h : a / 64 ∈ S.pg) (hl : a / 64 < 1048576) : S.rd (a : Int) = S.wd a := by
  unfold rd; rw [read_in (err_page h hl)]; rfl
theorem write_page {S : Slb} {a : Nat} {v : Int} (h : a / 64 ∈ S.pg) (hl : a / 64 < 1048576) : S.write (a : Int) v = (0, { S with wd := fun x => if x = a then v else S.wd x }) := by
  rw [write_in (err_page h hl)]; rfl
theorem hd_page {S : Slb} {p : Nat} (h : p ∈ S.pg) (hl : p < 1048576) : S.hd p = ⟨S.wd (64 * p) % 256, S.wd (64 * p) / 256, S.wd (64 * p + 1)⟩ := by
  have e1 : S.rd ((p : Int) * 64) = S.wd (64 * p) := by
    rw [show (p : Int) * 64 = ((64 * p : Nat) : Int) by omega]
    exact rd_page (by rw [show 64 * p / 64 = p by omega]; exact h) (by omega)
  have e2 : S.rd ((p : Int) * 64 + 1) = S.wd (64 * p + 1) := by
    rw [show (p : Int) * 64 + 1 = ((64 * p + 1 : Nat) : Int) by omega]
    exact rd_page (by rw [show (64 * p + 1) / 64 = p by omega]; exact h) (by omega)
  unfold hd
  rw [e1, e2]

/-- The arena with other words. -/
abbrev wds (S : Slb) (f : Nat → Int) : Slb := { S with wd := f }
theorem hd_wds {S : Slb} {p : Nat} (h : p ∈ S.pg) (hl : p < 1048576) (f : Nat → Int) : (S.wds f).hd p = ⟨f (64 * p) % 256, f (64 * p) / 256, f (64 * p + 1)⟩ := hd_page (S := S.wds f) h hl
theorem hd_pgs {S : Slb} {p : Nat} {L : List Nat} (h : p ∈ L) (hl : p < 1048576) (f : Nat → Int) : ({ S with pg := L, wd := f } : Slb).hd p = ⟨f (64 * p) % 256, f (64 * p) / 256, f (64 * p + 1)⟩ := hd_page (S := { S with pg := L, wd := f }) h hl
theorem write_wds {S : Slb} {a : Nat} {v : Int} (h : a / 64 ∈ S.pg) (hl : a / 64 < 1048576) (f : Nat → Int) : ((S.wds f).write (a : Int) v).2 = S.wds fun x => if x = a then v else f x := by rw [write_page (S := S.wds f) h hl]

theorem put_page {S : Slb} {p : Nat} (h : p ∈ S.pg) (hl : p < 1048576) (x : Hd) : S.put p x = S.wds fun a => if a = 64 * p + 1 then x.w else if a = 64 * p then x.kind + 256 * x.n else S.wd a := by
  have e1 : S.write ((p : Int) * 64) (x.kind + 256 * x.n) = (0, S.wds fun a => if a = 64 * p then x.kind + 256 * x.n else S.wd a) := by
    rw [show (p : Int) * 64 = ((64 * p : Nat) : Int) by omega]
    exact write_page (by rw [show 64 * p / 64 = p by omega]; exact h) (by omega)
  unfold put
  rw [e1, show (p : Int) * 64 + 1 = ((64 * p + 1 : Nat) : Int) by omega, write_wds (by rw [show (64 * p + 1) / 64 = p by omega]; exact h) (by omega)]

theorem clr_page {S : Slb} {a : Nat} : ∀ {n : Nat}, (∀ i, i < n → (a + i) / 64 ∈ S.pg ∧ (a + i) / 64 < 1048576) → S.clr (a : Int) n = S.wds fun x => if a ≤ x ∧ x < a + n then 0 else S.wd x
  | 0, _ => by
    show S = _
    have : (fun x => if a ≤ x ∧ x < a + 0 then 0 else S.wd x) = S.wd := by funext x; rw [if_neg (by omega)]
    rw [wds, this]
  | n + 1, h => by
    show ((S.clr (a : Int) n).write ((a : Int) + n) 0).2 = _
    rw [clr_page (fun i hi => h i (by omega)), show (a : Int) + n = ((a + n : Nat) : Int) by omega, write_wds (h n (by omega)).1 (h n (by omega)).2]
    congr 1
    funext x
    by_cases e : x = a + n
    · rw [if_pos e, if_pos (by omega)]
    · rw [if_neg e]
      by_cases e2 : a ≤ x ∧ x < a + n
      · rw [if_pos e2, if_pos (by omega)]
      · rw [if_neg e2, if_neg (by omega)]

/-! Turns of the entries. -/
/-- Words that are no head's may turn. -/
theorem Rep.words {S : Slb} {H : List Ent} (R : Rep S H) {f : Nat → Int} (hf : ∀ a, 0 ≤ f a ∧ f a < 18446744073709551616) (hz : ∀ a, a / 64 ∉ S.pg → f a = 0)
    (hh : ∀ x ∈ H, f (64 * x.1) = S.wd (64 * x.1) ∧ f (64 * x.1 + 1) = S.wd (64 * x.1 + 1)) : Rep (S.wds f) H := by
  refine ⟨⟨R.ok.q0, R.ok.q1, R.ok.fit, R.ok.sorted, R.ok.small, hf, hz⟩, R.low, R.ord, R.mem, fun x hx => ?_, R.good⟩
  have h1 := R.page hx
  have h2 := R.hd x hx
  rw [hd_page h1 (R.low _ h1)] at h2
  rw [hd_wds h1 (R.low _ h1)]
  show (⟨f (64 * x.1) % 256, f (64 * x.1) / 256, f (64 * x.1 + 1)⟩ : Hd) = _
  rw [(hh x hx).1, (hh x hx).2]
  exact h2

/-- An entry's head is another one. -/
def updE (H : List Ent) (p : Nat) (h : Hd) : List Ent := H.map fun x => if x.1 = p then (p, h) else x

theorem Rep.inj {S : Slb} {H : List Ent} (R : Rep S H) {x y : Ent} (hx : x ∈ H) (hy : y ∈ H) {k : Nat} (h1 : x.1 ≤ k ∧ k < x.1 + x.2.wide) (h2 : y.1 ≤ k ∧ k < y.1 + y.2.wide) : x = y := by
  obtain ⟨i, hi, rfl⟩ := List.getElem_of_mem hx
  obtain ⟨j, hj, rfl⟩ := List.getElem_of_mem hy
  rcases Nat.lt_trichotomy i j with h | h | h
  · have := List.pairwise_iff_getElem.1 R.ord i j hi hj h; omega
  · subst h; rfl
  · have := List.pairwise_iff_getElem.1 R.ord j i hj hi h; omega
theorem Rep.uniq {S : Slb} {H : List Ent} (R : Rep S H) {x y : Ent} (hx : x ∈ H) (hy : y ∈ H) (h : x.1 = y.1) : x = y :=
  R.inj hx hy (k := x.1) ⟨Nat.le_refl _, by have := (R.good x hx).wide1; omega⟩ ⟨by omega, by have := (R.good y hy).wide1; omega⟩

theorem mem_updE {H : List Ent} {p : Nat} {h h' : Hd} (hp : (p, h) ∈ H) {y : Ent} : y ∈ updE H p h' ↔ y = (p, h') ∨ (y ∈ H ∧ y.1 ≠ p) := by
  unfold updE
  simp only [List.mem_map]
  constructor
  · rintro ⟨x, hx, rfl⟩
    by_cases e : x.1 = p
    · rw [if_pos e]; exact .inl rfl
    · rw [if_neg e]; exact .inr ⟨hx, e⟩
  · rintro (rfl | ⟨h1, h2⟩)
    · exact ⟨_, hp, if_pos rfl⟩
    · exact ⟨y, h1, if_neg h2⟩

theorem Rep.putE {S : Slb} {H : List Ent} (R : Rep S H) {p : Nat} {h h' : Hd} (hp : (p, h) ∈ H) (hg : h'.Good) (hw : h'.wide = h.wide) : Rep (S.put p h') (updE H p h') := by
  have h1 : p ∈ S.pg := R.page hp
  have hl := R.low _ h1
  rw [put_page h1 hl]
  have gw := hg.w64
  have hwd : ∀ x ∈ H, (updE [x] p h') = [if x.1 = p then (p, h') else x] := fun _ _ => rfl
  have wide_eq : ∀ x ∈ H, (if x.1 = p then ((p, h') : Ent) else x).1 = x.1 ∧ (if x.1 = p then ((p, h') : Ent) else x).2.wide = x.2.wide := fun x hx => by
    by_cases e : x.1 = p
    · rw [if_pos e]
      have := R.uniq hx hp e
      subst this
      exact ⟨rfl, hw⟩
    · rw [if_neg e]; exact ⟨rfl, rfl⟩
  have rg : ∀ a, 0 ≤ (if a = 64 * p + 1 then h'.w else if a = 64 * p then h'.kind + 256 * h'.n else S.wd a) ∧ (if a = 64 * p + 1 then h'.w else if a = 64 * p then h'.kind + 256 * h'.n else S.wd a) < 18446744073709551616 := fun a => by
    split
    · omega
    split
    · omega
    · exact R.ok.words a
  refine ⟨⟨R.ok.q0, R.ok.q1, R.ok.fit, R.ok.sorted, R.ok.small, rg, fun a ha => ?_⟩, R.low, ?_, fun k => ?_, fun y hy => ?_, fun y hy => ?_⟩
  · have ha : a / 64 ∉ S.pg := ha
    show (if a = 64 * p + 1 then h'.w else if a = 64 * p then h'.kind + 256 * h'.n else S.wd a) = 0
    rw [if_neg (fun e => ha (by rw [show a / 64 = p by omega]; exact h1)), if_neg (fun e => ha (by rw [show a / 64 = p by omega]; exact h1))]
    exact R.ok.zero a ha
  · unfold updE
    rw [List.pairwise_map]
    refine R.ord.imp_of_mem ?_
    intro x y hx hy hxy
    rw [(wide_eq x hx).1, (wide_eq x hx).2, (wide_eq y hy).1]
    exact hxy
  · show k ∈ S.pg ↔ _
    rw [R.mem k]
    unfold updE
    constructor
    · rintro ⟨x, hx, hk⟩
      refine ⟨_, List.mem_map.2 ⟨x, hx, rfl⟩, ?_⟩
      rw [(wide_eq x hx).1, (wide_eq x hx).2]; exact hk
    · rintro ⟨y, hy, hk⟩
      obtain ⟨x, hx, rfl⟩ := List.mem_map.1 hy
      rw [(wide_eq x hx).1, (wide_eq x hx).2] at hk
      exact ⟨x, hx, hk⟩
  · rcases (mem_updE hp).1 hy with rfl | ⟨h2, h3⟩
    · rw [hd_wds h1 hl]
      show (⟨_, _, _⟩ : Hd) = h'
      rw [if_neg (by omega), if_pos rfl, if_pos rfl]
      obtain ⟨k', n', w'⟩ := h'
      dsimp only at gw ⊢
      congr 1 <;> omega
    · have hy1 := R.page h2
      have e := R.hd y h2
      rw [hd_page hy1 (R.low _ hy1)] at e
      rw [hd_wds hy1 (R.low _ hy1)]
      show (⟨_, _, _⟩ : Hd) = y.2
      rw [if_neg (by omega), if_neg (by omega), if_neg (by omega), if_neg (by omega)]
      exact e
  · rcases (mem_updE hp).1 hy with rfl | ⟨h2, h3⟩
    · exact hg
    · exact R.good y h2

/-- An entry more. -/
def insE (H : List Ent) (e : Ent) : List Ent := H.filter (fun x => decide (x.1 < e.1)) ++ e :: H.filter (fun x => decide (e.1 < x.1))
/-- An entry less. -/
def delE (H : List Ent) (p : Nat) : List Ent := H.filter fun x => decide (x.1 ≠ p)

theorem Rep.free {S : Slb} {H : List Ent} (R : Rep S H) {f n : Nat} (hn : 1 ≤ n) (hf : freeB S.pg f n = true) {x : Ent} (hx : x ∈ H) : x.1 + x.2.wide ≤ f ∨ f + n ≤ x.1 := by
  have hf := freeB_iff.1 hf
  rcases Nat.lt_or_ge x.1 f with h | h
  · refine .inl (Classical.byContradiction fun hc => ?_)
    have := hf f ((R.mem f).2 ⟨x, hx, by omega, by omega⟩)
    omega
  · rcases hf x.1 (R.page hx) with h1 | h1
    · omega
    · exact .inr h1

theorem mem_insE {H : List Ent} {e y : Ent} (hne : ∀ x ∈ H, x.1 ≠ e.1) : y ∈ insE H e ↔ y = e ∨ y ∈ H := by
  unfold insE
  simp only [List.mem_append, List.mem_cons, List.mem_filter, decide_eq_true_eq]
  constructor
  · rintro (h | h | h)
    · exact .inr h.1
    · exact .inl h
    · exact .inr h.1
  · rintro (h | h)
    · exact .inr (.inl h)
    · have := hne y h
      rcases Nat.lt_or_ge y.1 e.1 with h1 | h1
      · exact .inl ⟨h, h1⟩
      · exact .inr (.inr ⟨h, by omega⟩)

/-- Pages that are free become an entry. -/
theorem Rep.add {S : Slb} {H : List Ent} (R : Rep S H) {f : Nat} {h : Hd} (hf : freeB S.pg f h.wide = true) (hg : h.Good) (hq : ((S.pg.length : Int) + h.wide) * 64 ≤ S.quota) (hs : f + h.wide ≤ 1048576) :
    Rep (({ S with pg := more S.pg f h.wide } : Slb).put f h) (insE H (f, h)) := by
  have w1 := hg.wide1
  have gw := hg.w64
  have hmem : ∀ k, k ∈ more S.pg f h.wide ↔ k ∈ S.pg ∨ f ≤ k ∧ k < f + h.wide := fun k => mem_more hf
  have hok := more_ok R.ok hf hq (by omega)
  have h1 : f ∈ more S.pg f h.wide := (hmem f).2 (.inr ⟨Nat.le_refl _, by omega⟩)
  have hne : ∀ x ∈ H, x.1 ≠ f := fun x hx e => by
    rcases R.free w1.1 hf hx with h | h
    · have := (R.good x hx).wide1; omega
    · omega
  have hlow : ∀ k ∈ more S.pg f h.wide, k < 1048576 := fun k hk => by
    rcases (hmem k).1 hk with h | h
    · exact R.low k h
    · omega
  have fr : ∀ x ∈ H, x.1 ≠ f → x.1 < f → x.1 + x.2.wide ≤ f := fun x hx _ hlt => by
    rcases R.free w1.1 hf hx with h | h
    · exact h
    · omega
  rw [put_page (S := { S with pg := more S.pg f h.wide }) h1 (by omega)]
  refine ⟨⟨hok.q0, hok.q1, hok.fit, hok.sorted, hok.small, fun a => ?_, fun a ha => ?_⟩, hlow, ?_, fun k => ?_, fun y hy => ?_, fun y hy => ?_⟩
  · dsimp only
    split
    · omega
    split
    · omega
    · exact R.ok.words a
  · have ha : a / 64 ∉ more S.pg f h.wide := ha
    show (if a = 64 * f + 1 then h.w else if a = 64 * f then h.kind + 256 * h.n else S.wd a) = 0
    rw [if_neg (fun e => ha (by rw [show a / 64 = f by omega]; exact h1)), if_neg (fun e => ha (by rw [show a / 64 = f by omega]; exact h1))]
    exact R.ok.zero a fun hin => ha ((hmem _).2 (.inl hin))
  · unfold insE
    rw [List.pairwise_append, List.pairwise_cons]
    refine ⟨R.ord.filter _, ⟨fun y hy => ?_, R.ord.filter _⟩, fun x hx y hy => ?_⟩
    · simp only [List.mem_filter, decide_eq_true_eq] at hy
      have := R.free w1.1 hf hy.1
      show f + h.wide ≤ y.1
      omega
    · simp only [List.mem_filter, decide_eq_true_eq] at hx
      have hxf := fr x hx.1 (hne x hx.1) hx.2
      rcases List.mem_cons.1 hy with rfl | hy
      · exact hxf
      · simp only [List.mem_filter, decide_eq_true_eq] at hy
        omega
  · show k ∈ more S.pg f h.wide ↔ _
    rw [hmem k, R.mem k]
    constructor
    · rintro (⟨x, hx, hk⟩ | hk)
      · exact ⟨x, (mem_insE hne).2 (.inr hx), hk⟩
      · exact ⟨(f, h), (mem_insE hne).2 (.inl rfl), hk⟩
    · rintro ⟨y, hy, hk⟩
      rcases (mem_insE hne).1 hy with rfl | h2
      · exact .inr hk
      · exact .inl ⟨y, h2, hk⟩
  · rcases (mem_insE hne).1 hy with rfl | h2
    · rw [hd_pgs h1 (by omega)]
      show (⟨_, _, _⟩ : Hd) = h
      rw [if_neg (by omega), if_pos rfl, if_pos rfl]
      obtain ⟨k', n', w'⟩ := h
      dsimp only at gw ⊢
      congr 1 <;> omega
    · have hy1 := R.page h2
      have e := R.hd y h2
      have hyf := hne y h2
      rw [hd_page hy1 (R.low _ hy1)] at e
      rw [hd_pgs ((hmem _).2 (.inl hy1)) (R.low _ hy1)]
      show (⟨_, _, _⟩ : Hd) = y.2
      rw [if_neg (by omega), if_neg (by omega), if_neg (by omega), if_neg (by omega)]
      exact e
  · rcases (mem_insE hne).1 hy with rfl | h2
    · exact hg
    · exact R.good y h2

theorem mem_delE {H : List Ent} {p : Nat} {y : Ent} : y ∈ delE H p ↔ y ∈ H ∧ y.1 ≠ p := by unfold delE; simp

/-- An entry's release. -/
theorem Rep.release_eq {S : Slb} {H : List Ent} (R : Rep S H) {p : Nat} {h : Hd} (hp : (p, h) ∈ H) : S.release p h.wide = (0, { S with pg := less S.pg p h.wide, wd := fun a => if p ≤ a / 64 ∧ a / 64 < p + h.wide then 0 else S.wd a }) := by
  have w1 := (R.good _ hp).wide1
  have hin : ∀ k, k < h.wide → p + k ∈ S.pg := fun k hk => (R.mem _).2 ⟨_, hp, by show p ≤ p + k; omega, by show p + k < p + h.wide; omega⟩
  have hl := R.low _ (hin (h.wide - 1) (by dsimp only at w1; omega))
  dsimp only at w1
  unfold release
  rw [if_neg (by omega), if_pos ?_]
  · rfl
  · rw [List.all_eq_true]
    intro k hk
    have hk := List.mem_range.1 hk
    rw [has_iff]
    refine ⟨by omega, ?_⟩
    rw [show ((p : Int) + (k : Int)).toNat = p + k by omega]
    exact hin k (by omega)

theorem Rep.del {S : Slb} {H : List Ent} (R : Rep S H) {p : Nat} {h : Hd} (hp : (p, h) ∈ H) : Rep (S.release p h.wide).2 (delE H p) := by
  have hok := release_ok R.ok p h.wide
  rw [R.release_eq hp] at hok ⊢
  have w1 := (R.good _ hp).wide1
  have far : ∀ y ∈ H, y.1 ≠ p → ∀ k, y.1 ≤ k ∧ k < y.1 + y.2.wide → ¬ (p ≤ k ∧ k < p + h.wide) := fun y hy hne k hk h2 => hne (by rw [R.inj hy hp hk h2])
  have hm : ∀ k, k ∈ less S.pg p h.wide ↔ k ∈ S.pg ∧ ¬ (p ≤ k ∧ k < p + h.wide) := fun k => mem_less
  refine ⟨hok, fun k hk => R.low k ((hm k).1 hk).1, R.ord.filter _, fun k => ?_, fun y hy => ?_, fun y hy => R.good y (mem_delE.1 hy).1⟩
  · show k ∈ less S.pg p h.wide ↔ _
    rw [hm k, R.mem k]
    constructor
    · rintro ⟨⟨x, hx, hk⟩, hn⟩
      refine ⟨x, mem_delE.2 ⟨hx, fun e => hn ?_⟩, hk⟩
      have := R.uniq hx hp e
      subst this
      exact hk
    · rintro ⟨y, hy, hk⟩
      have hy := mem_delE.1 hy
      exact ⟨⟨y, hy.1, hk⟩, far y hy.1 hy.2 k hk⟩
  · have hy := mem_delE.1 hy
    have hy1 := R.page hy.1
    have e := R.hd y hy.1
    have hyw := (R.good y hy.1).wide1
    have hn := far y hy.1 hy.2 y.1 ⟨Nat.le_refl _, by omega⟩
    rw [hd_page hy1 (R.low _ hy1)] at e
    rw [hd_pgs ((hm _).2 ⟨hy1, hn⟩) (R.low _ hy1)]
    show (⟨_, _, _⟩ : Hd) = y.2
    rw [show 64 * y.1 / 64 = y.1 by omega, show (64 * y.1 + 1) / 64 = y.1 by omega, if_neg hn, if_neg hn]
    exact e
end Slb
end Go.Proofs.YtfmkiioahnphbaaDoor

namespace Go.Proofs.YtfmkiioahnphbaaDoor
open Go

/-- The blocks of an entry: their addresses, and how many words each has. -/
def blkE (x : Ent) : List (Nat × Nat) :=
  if x.2.kind = 2 then [(64 * x.1 + 2, x.2.w.toNat)]
  else ((List.range (62 / csz x.2.n.toNat)).filter fun k => x.2.w.toNat.testBit k).map fun k => (64 * x.1 + 2 + k * csz x.2.n.toNat, csz x.2.n.toNat)
def blks (H : List Ent) : List (Nat × Nat) := H.flatMap blkE

theorem blkE_big {x : Ent} (h : x.2.kind = 2) : blkE x = [(64 * x.1 + 2, x.2.w.toNat)] := if_pos h
theorem blkE_small {x : Ent} (h : x.2.kind = 1) : blkE x = ((List.range (62 / csz x.2.n.toNat)).filter fun k => x.2.w.toNat.testBit k).map fun k => (64 * x.1 + 2 + k * csz x.2.n.toNat, csz x.2.n.toNat) := if_neg (by omega)
theorem mem_small {x : Ent} (h : x.2.kind = 1) {b : Nat × Nat} : b ∈ blkE x ↔ ∃ k, k < 62 / csz x.2.n.toNat ∧ x.2.w.toNat.testBit k = true ∧ b = (64 * x.1 + 2 + k * csz x.2.n.toNat, csz x.2.n.toNat) := by
  rw [blkE_small h]
  simp only [List.mem_map, List.mem_filter, List.mem_range]
  constructor
  · rintro ⟨k, ⟨h1, h2⟩, rfl⟩; exact ⟨k, h1, h2, rfl⟩
  · rintro ⟨k, h1, h2, rfl⟩; exact ⟨k, ⟨h1, h2⟩, rfl⟩

theorem slot_in {k n : Nat} (hn : n < 8) (hk : k < 62 / csz n) : k * csz n + csz n ≤ 62 ∧ 2 ≤ csz n := by
  have hr := csz_range hn
  have : (k + 1) * csz n ≤ 62 / csz n * csz n := Nat.mul_le_mul_right _ hk
  rw [Nat.add_mul, Nat.one_mul] at this
  omega

theorem blkE_in {x : Ent} (g : x.2.Good) {b : Nat × Nat} (hb : b ∈ blkE x) : 64 * x.1 + 2 ≤ b.1 ∧ b.1 + b.2 ≤ 64 * (x.1 + x.2.wide) ∧ 2 ≤ b.2 ∧ b.2 ≤ 4000 := by
  by_cases h2 : x.2.kind = 2
  · rw [blkE_big h2] at hb
    simp only [List.mem_singleton] at hb
    subst hb
    have hg := g.big h2
    dsimp only
    omega
  · have hs := g.small h2
    obtain ⟨k, hk, _, rfl⟩ := (mem_small hs.1).1 hb
    have := slot_in (show x.2.n.toNat < 8 by omega) hk
    have hr := csz_range (show x.2.n.toNat < 8 by omega)
    rw [hs.2.1]
    dsimp only
    omega

theorem blkE_pair {x : Ent} (g : x.2.Good) : (blkE x).Pairwise fun a b => a.1 + a.2 ≤ b.1 := by
  by_cases h2 : x.2.kind = 2
  · rw [blkE_big h2]; exact List.pairwise_singleton _ _
  · have hs := g.small h2
    rw [blkE_small hs.1, List.pairwise_map]
    refine (List.pairwise_lt_range.filter _).imp ?_
    intro a b h
    have : (a + 1) * csz x.2.n.toNat ≤ b * csz x.2.n.toNat := Nat.mul_le_mul_right _ h
    rw [Nat.add_mul, Nat.one_mul] at this
    dsimp only
    omega

namespace Slb
variable {S : Slb} {H : List Ent}

theorem Rep.pair (R : Rep S H) : (blks H).Pairwise fun a b => a.1 + a.2 ≤ b.1 := by
  unfold blks
  rw [List.pairwise_flatMap]
  refine ⟨fun x hx => blkE_pair (R.good x hx), R.ord.imp_of_mem ?_⟩
  intro x y hx hy hxy a ha b hb
  have h1 := blkE_in (R.good x hx) ha
  have h2 := blkE_in (R.good y hy) hb
  omega

theorem mem_blks {b : Nat × Nat} : b ∈ blks H ↔ ∃ x ∈ H, b ∈ blkE x := by unfold blks; rw [List.mem_flatMap]

theorem Rep.blk_range (R : Rep S H) {b : Nat × Nat} (hb : b ∈ blks H) : 2 ≤ b.1 ∧ 2 ≤ b.2 ∧ b.2 ≤ 4000 ∧ b.1 + b.2 ≤ 67108864 := by
  obtain ⟨x, hx, hb⟩ := mem_blks.1 hb
  have h1 := blkE_in (R.good x hx) hb
  have hw := (R.good x hx).wide1
  have hl := R.low (x.1 + (x.2.wide - 1)) ((R.mem _).2 ⟨x, hx, by omega, by omega⟩)
  omega

/-- Two blocks with a word together are one. -/
theorem Rep.apart (R : Rep S H) {b c : Nat × Nat} (hb : b ∈ blks H) (hc : c ∈ blks H) {a : Nat} (h1 : b.1 ≤ a ∧ a < b.1 + b.2) (h2 : c.1 ≤ a ∧ a < c.1 + c.2) : b = c := by
  obtain ⟨i, hi, rfl⟩ := List.getElem_of_mem hb
  obtain ⟨j, hj, rfl⟩ := List.getElem_of_mem hc
  rcases Nat.lt_trichotomy i j with h | h | h
  · have := List.pairwise_iff_getElem.1 R.pair i j hi hj h; omega
  · subst h; rfl
  · have := List.pairwise_iff_getElem.1 R.pair j i hj hi h; omega
theorem Rep.blk_uniq (R : Rep S H) {b c : Nat × Nat} (hb : b ∈ blks H) (hc : c ∈ blks H) (h : b.1 = c.1) : b = c := by
  have h1 := R.blk_range hb
  have h2 := R.blk_range hc
  exact R.apart hb hc (a := b.1) (by omega) (by omega)
/-- A block's words are granted, and no head's. -/
theorem Rep.blk_page (R : Rep S H) {b : Nat × Nat} (hb : b ∈ blks H) {a : Nat} (h : b.1 ≤ a ∧ a < b.1 + b.2) : a / 64 ∈ S.pg ∧ a / 64 < 1048576 ∧ ∀ y ∈ H, a ≠ 64 * y.1 ∧ a ≠ 64 * y.1 + 1 := by
  obtain ⟨x, hx, hb⟩ := mem_blks.1 hb
  have h1 := blkE_in (R.good x hx) hb
  have hm : a / 64 ∈ S.pg := (R.mem _).2 ⟨x, hx, by omega, by omega⟩
  refine ⟨hm, R.low _ hm, fun y hy => ?_⟩
  have hyw := (R.good y hy).wide1
  have key : ∀ a', a' = 64 * y.1 ∨ a' = 64 * y.1 + 1 → a ≠ a' := fun a' ha' e => by
    have := R.inj hx hy (k := y.1) ⟨by omega, by omega⟩ ⟨Nat.le_refl _, by omega⟩
    subst this
    omega
  exact ⟨key _ (.inl rfl), key _ (.inr rfl)⟩

theorem nodup_blks (R : Rep S H) : (blks H).Nodup := R.pair.imp_of_mem (by
  intro a b ha hb h e
  subst e
  have := R.blk_range ha
  omega)

/-! What find tells. -/
theorem hplace_in {p n k : Nat} (hn : n < 8) (hk : k < 62 / csz n) : hplace p (n : Int) (k : Int) = ((64 * p + 2 + k * csz n : Nat) : Int) := by
  unfold hplace cplace
  rw [cslots_in (by omega) (by omega), csize_in (by omega) (by omega), Int.toNat_natCast]
  dsimp only
  rw [if_pos ⟨⟨by omega, by omega⟩, by omega, by omega⟩]
  dsimp only
  rw [← Int.natCast_mul]
  omega

/-- What is at an address. -/
theorem Rep.findF_some (R : Rep S H) {x : Ent} (hx : x ∈ H) {a : Int} {r : Nat × Int × Hd} (h : findF a x = some r) :
    r.1 = x.1 ∧ r.2.2 = x.2 ∧ ((x.2.kind = 2 ∧ r.2.1 = 0 ∧ a = ((64 * x.1 + 2 : Nat) : Int)) ∨ (x.2.kind = 1 ∧ ∃ k : Nat, r.2.1 = k ∧ k < 62 / csz x.2.n.toNat ∧ x.2.w.toNat.testBit k = true ∧ a = ((64 * x.1 + 2 + k * csz x.2.n.toNat : Nat) : Int))) := by
  unfold findF at h
  split at h
  · rename_i hc
    cases h
    exact ⟨rfl, rfl, .inl ⟨hc.1, rfl, by omega⟩⟩
  split at h
  · cases h
  · rename_i h1 h2
    have hk1 : x.2.kind = 1 := Classical.byContradiction fun e => h2 (.inl e)
    obtain ⟨k, hk⟩ : ∃ k, slotAt x.1 x.2 a = some k := by
      cases hs : slotAt x.1 x.2 a with
      | none => rw [hs] at h; cases h
      | some k => exact ⟨k, rfl⟩
    rw [hk] at h
    cases h
    unfold slotAt at hk
    have hs := (R.good x hx).small (by omega)
    have hp := List.find?_some hk
    have hm := List.mem_range.1 (List.mem_of_find?_eq_some hk)
    rw [cslots_in hs.2.2.1 hs.2.2.2.1] at hm
    dsimp only at hm
    rw [Int.toNat_natCast] at hm
    simp only [Bool.and_eq_true, decide_eq_true_eq, Bt.has] at hp
    have hr := csz_range (show x.2.n.toNat < 8 by omega)
    refine ⟨rfl, rfl, .inr ⟨hk1, k, rfl, hm, by simpa using hp.2.2, ?_⟩⟩
    have e := hplace_in (p := x.1) (show x.2.n.toNat < 8 by omega) hm
    rw [show ((x.2.n.toNat : Nat) : Int) = x.2.n by omega] at e
    rw [← hp.1, e]

theorem Rep.findF_blk (R : Rep S H) {x : Ent} (hx : x ∈ H) {b : Nat × Nat} (hb : b ∈ blkE x) : (findF (b.1 : Int) x).isSome = true := by
  by_cases h2 : x.2.kind = 2
  · rw [blkE_big h2] at hb
    simp only [List.mem_singleton] at hb
    subst hb
    unfold findF
    rw [if_pos ⟨h2, by dsimp only; omega⟩]
    rfl
  · have hs := (R.good x hx).small h2
    obtain ⟨k, hk, ht, rfl⟩ := (mem_small hs.1).1 hb
    have hin := slot_in (show x.2.n.toNat < 8 by omega) hk
    have hr := csz_range (show x.2.n.toNat < 8 by omega)
    have e := hplace_in (p := x.1) (show x.2.n.toNat < 8 by omega) hk
    rw [show ((x.2.n.toNat : Nat) : Int) = x.2.n by omega] at e
    unfold findF
    rw [if_neg (fun h => h2 h.1), if_neg ?_]
    · have hsl : (slotAt x.1 x.2 ((64 * x.1 + 2 + k * csz x.2.n.toNat : Nat) : Int)).isSome = true := by
        unfold slotAt
        rw [List.find?_isSome]
        refine ⟨k, List.mem_range.2 ?_, ?_⟩
        · rw [cslots_in hs.2.2.1 hs.2.2.2.1]
          dsimp only
          omega
        · rw [e]
          have hk64 : (k : Int) < 64 := by omega
          simp [Bt.has, ht, hk64]
      obtain ⟨j, hj⟩ := Option.isSome_iff_exists.1 hsl
      rw [hj]
      rfl
    · rintro (h | h)
      · exact h hs.1
      · apply h
        dsimp only
        rw [Int.tdiv_eq_ediv_of_nonneg (by omega)]
        omega

theorem Rep.find_none (R : Rep S H) {a : Int} (h : S.find a = none) : ∀ b ∈ blks H, (b.1 : Int) ≠ a := fun b hb e => by
  obtain ⟨x, hx, hbx⟩ := mem_blks.1 hb
  unfold Slb.find at h
  rw [R.heads, List.findSome?_eq_none_iff] at h
  have h1 := h x hx
  have h2 := R.findF_blk hx hbx
  rw [e, h1] at h2
  cases h2

/-- A block that is found. -/
structure IsBlk (H : List Ent) (a : Nat) (p : Nat) (k : Int) (h : Hd) (r : Nat) : Prop where
  ent : (p, h) ∈ H
  blk : (a, r) ∈ blkE (p, h)
  what : (h.kind = 2 ∧ k = 0 ∧ a = 64 * p + 2 ∧ r = h.w.toNat) ∨ (h.kind = 1 ∧ r = csz h.n.toNat ∧ ∃ j : Nat, k = j ∧ j < 62 / csz h.n.toNat ∧ h.w.toNat.testBit j = true ∧ a = 64 * p + 2 + j * csz h.n.toNat)

theorem IsBlk.mem {a p : Nat} {k : Int} {h : Hd} {r : Nat} (B : IsBlk H a p k h r) : (a, r) ∈ blks H := mem_blks.2 ⟨_, B.ent, B.blk⟩

theorem Rep.find_some (R : Rep S H) {a : Int} {p : Nat} {k : Int} {h : Hd} (hf : S.find a = some (p, k, h)) : ∃ a' r : Nat, a = a' ∧ IsBlk H a' p k h r := by
  unfold Slb.find at hf
  rw [R.heads] at hf
  obtain ⟨x, hx, hfx⟩ := List.exists_of_findSome?_eq_some hf
  obtain ⟨e1, e2, h3⟩ := R.findF_some hx hfx
  obtain ⟨q, h'⟩ := x
  dsimp only at e1 e2 h3
  subst e1 e2
  rcases h3 with ⟨h4, h5, h6⟩ | ⟨h4, j, h5, h6, h7, h8⟩
  · exact ⟨64 * p + 2, h.w.toNat, h6, hx, by rw [blkE_big h4]; simp, .inl ⟨h4, h5, rfl, rfl⟩⟩
  · exact ⟨_, csz h.n.toNat, h8, hx, (mem_small h4).2 ⟨j, h6, h7, rfl⟩, .inr ⟨h4, rfl, j, h5, h6, h7, rfl⟩⟩

theorem Rep.find_blk (R : Rep S H) {b : Nat × Nat} (hb : b ∈ blks H) : ∃ p k h, S.find (b.1 : Int) = some (p, k, h) ∧ IsBlk H b.1 p k h b.2 := by
  cases hf : S.find (b.1 : Int) with
  | none => exact absurd rfl (R.find_none hf b hb)
  | some r =>
    obtain ⟨p, k, h⟩ := r
    obtain ⟨a', r, e, B⟩ := R.find_some hf
    obtain rfl : b.1 = a' := by omega
    have := R.blk_uniq hb B.mem rfl
    obtain rfl : r = b.2 := (congrArg Prod.snd this).symm
    exact ⟨p, k, h, rfl, B⟩

theorem Rep.room_blk (R : Rep S H) {b : Nat × Nat} (hb : b ∈ blks H) : S.room (b.1 : Int) = ((b.2 : Int), 0) := by
  obtain ⟨p, k, h, hf, B⟩ := R.find_blk hb
  unfold room
  rw [hf]
  dsimp only
  have g := R.good _ B.ent
  have hw := g.w64
  dsimp only at g hw
  rcases B.what with ⟨h1, _, _, h4⟩ | ⟨h1, h2, _⟩
  · rw [if_pos h1, h4]
    have := g.big h1
    congr 1
    unfold RowKit.wrap64
    omega
  · have hs := g.small (by omega)
    rw [if_neg (by omega), csize_in hs.2.2.1 hs.2.2.2.1, h2]
theorem room_none {a : Int} (h : S.find a = none) : S.room a = (0, 5) := by unfold room; rw [h]
end Slb
end Go.Proofs.YtfmkiioahnphbaaDoor

namespace Go.Proofs.YtfmkiioahnphbaaDoor
open Go

theorem filter_more {n k : Nat} {t t' : Nat → Bool} (hk : k < n) (ht : t k = false) (ht' : ∀ i, t' i = (t i || decide (i = k))) : ((List.range n).filter t').Perm (k :: (List.range n).filter t) := by
  refine (List.perm_ext_iff_of_nodup (List.nodup_range.filter _) (List.nodup_cons.2 ⟨fun h => ?_, List.nodup_range.filter _⟩)).2 fun i => ?_
  · rw [List.mem_filter, ht] at h
    cases h.2
  · simp only [List.mem_filter, List.mem_cons, List.mem_range, ht']
    by_cases e : i = k
    · subst e; simp [hk]
    · simp [e]

theorem blkE_set {p : Nat} {n : Int} {N k : Nat} (hn : n.toNat < 8) (hk : k < 62 / csz n.toNat) (hb : N.testBit k = false) :
    (blkE (p, ⟨1, n, (Bt.set N k : Nat)⟩)).Perm ((64 * p + 2 + k * csz n.toNat, csz n.toNat) :: blkE (p, ⟨1, n, (N : Nat)⟩)) := by
  have hr := csz_range hn
  rw [blkE_small rfl, blkE_small rfl]
  dsimp only
  rw [Int.toNat_natCast, Int.toNat_natCast]
  exact (filter_more hk hb (fun i => Bt.set_testBit k (by omega) i)).map (fun k => (64 * p + 2 + k * csz n.toNat, csz n.toNat))

theorem good_set {n : Int} {N k : Nat} (g : (⟨1, n, (N : Nat)⟩ : Hd).Good ∨ ((0 ≤ n ∧ n < 8) ∧ N = 0)) (hk : k < 62 / csz n.toNat) : (⟨1, n, (Bt.set N k : Nat)⟩ : Hd).Good := by
  have hn : 0 ≤ n ∧ n < 8 ∧ N < 2 ^ (62 / csz n.toNat) := by
    rcases g with g | ⟨h1, h2⟩
    · have hs := g.small (by show (1 : Int) ≠ 2; omega)
      dsimp only at hs
      omega
    · subst h2
      exact ⟨h1.1, h1.2, Nat.two_pow_pos _⟩
  have hr := csz_range (show n.toNat < 8 by omega)
  have hset : Bt.set N (k : Int) = N ||| 2 ^ k := by
    unfold Bt.set
    rw [if_pos (by unfold Bt.okK; simp; omega), Int.toNat_natCast]
  refine .inl ⟨rfl, hn.1, hn.2.1, ?_, ?_⟩
  · have : (Bt.set N (k : Int)).testBit k = true := by rw [Bt.set_testBit k (by omega)]; simp
    have h0 : Bt.set N (k : Int) ≠ 0 := fun e => by rw [e] at this; simp at this
    dsimp only; omega
  · have : Bt.set N (k : Int) < 2 ^ (62 / csz n.toNat) := by
      rw [hset]
      exact Nat.or_lt_two_pow hn.2.2 (Nat.pow_lt_pow_right (by omega) hk)
    dsimp only; omega

namespace Slb
variable {S : Slb} {H : List Ent}

theorem Rep.split (R : Rep S H) {e : Ent} (he : e ∈ H) : ∃ A B, H = A ++ e :: B ∧ (∀ y ∈ A, y.1 ≠ e.1) ∧ (∀ y ∈ B, y.1 ≠ e.1) := by
  obtain ⟨A, B, rfl⟩ := List.append_of_mem he
  have h := R.ord
  rw [List.pairwise_append, List.pairwise_cons] at h
  refine ⟨A, B, rfl, fun y hy hye => ?_, fun y hy hye => ?_⟩
  · have := h.2.2 y hy e (by simp)
    have := (R.good y (by simp [hy])).wide1
    omega
  · have := h.2.1.1 y hy
    have := (R.good e (by simp)).wide1
    omega
theorem updE_split {A B : List Ent} {p : Nat} {h h' : Hd} (hA : ∀ y ∈ A, y.1 ≠ p) (hB : ∀ y ∈ B, y.1 ≠ p) : updE (A ++ (p, h) :: B) p h' = A ++ (p, h') :: B := by
  have key : ∀ L : List Ent, (∀ y ∈ L, y.1 ≠ p) → updE L p h' = L := fun L hL => by
    unfold updE
    conv => rhs; rw [← List.map_id L]
    exact List.map_congr_left fun y hy => if_neg (hL y hy)
  unfold updE at key ⊢
  rw [List.map_append, List.map_cons, key A hA, key B hB, if_pos rfl]
theorem delE_split {A B : List Ent} {p : Nat} {h : Hd} (hA : ∀ y ∈ A, y.1 ≠ p) (hB : ∀ y ∈ B, y.1 ≠ p) : delE (A ++ (p, h) :: B) p = A ++ B := by
  unfold delE
  rw [List.filter_append, List.filter_cons_of_neg (by simp), List.filter_eq_self.2 (fun y hy => by simpa using hA y hy), List.filter_eq_self.2 (fun y hy => by simpa using hB y hy)]

theorem Rep.blks_upd (R : Rep S H) {p : Nat} {h h' : Hd} (hp : (p, h) ∈ H) {l : List (Nat × Nat)} (hl : (blkE (p, h')).Perm (l ++ blkE (p, h))) : (blks (updE H p h')).Perm (l ++ blks H) := by
  obtain ⟨A, B, rfl, hA, hB⟩ := R.split hp
  rw [updE_split hA hB]
  unfold blks
  rw [List.flatMap_append, List.flatMap_cons, List.flatMap_append, List.flatMap_cons]
  have h1 : (blkE (p, h') ++ B.flatMap blkE).Perm (l ++ (blkE (p, h) ++ B.flatMap blkE)) := by
    rw [← List.append_assoc]; exact hl.append_right _
  exact (h1.append_left _).trans (List.perm_append_comm_assoc _ _ _)
theorem Rep.blks_del (R : Rep S H) {p : Nat} {h : Hd} (hp : (p, h) ∈ H) : (blks H).Perm (blkE (p, h) ++ blks (delE H p)) := by
  obtain ⟨A, B, rfl, hA, hB⟩ := R.split hp
  rw [delE_split hA hB]
  unfold blks
  rw [List.flatMap_append, List.flatMap_cons, List.flatMap_append, ← List.append_assoc, ← List.append_assoc]
  exact List.perm_append_comm.append_right _
theorem insE_perm {e : Ent} (hne : ∀ x ∈ H, x.1 ≠ e.1) : (insE H e).Perm (e :: H) := by
  have h2 : H.filter (fun x => decide (e.1 < x.1)) = H.filter (fun x => !decide (x.1 < e.1)) := List.filter_congr fun x hx => by
    have := hne x hx
    by_cases h : x.1 < e.1
    · have : ¬ e.1 < x.1 := by omega
      simp [h, this]
    · have : e.1 < x.1 := by omega
      simp [h, this]
  unfold insE
  rw [h2]
  exact List.perm_middle.trans ((List.filter_append_perm _ H).cons e)
theorem blks_ins {e : Ent} (hne : ∀ x ∈ H, x.1 ≠ e.1) : (blks (insE H e)).Perm (blkE e ++ blks H) := by
  have := (insE_perm hne).flatMap_right blkE
  exact this

/-- A block's words may turn. -/
theorem Rep.wordsB (R : Rep S H) {b : Nat × Nat} (hb : b ∈ blks H) {f : Nat → Int} (hf : ∀ a, 0 ≤ f a ∧ f a < 18446744073709551616) (hs : ∀ a, ¬ (b.1 ≤ a ∧ a < b.1 + b.2) → f a = S.wd a) : Rep (S.wds f) H := by
  refine R.words hf (fun a ha => ?_) (fun x hx => ?_)
  · rw [hs a (fun h => ha (R.blk_page hb h).1)]
    exact R.ok.zero a ha
  · exact ⟨hs _ (fun h => ((R.blk_page hb h).2.2 x hx).1 rfl), hs _ (fun h => ((R.blk_page hb h).2.2 x hx).2 rfl)⟩

/-- What a call that makes a block brings. -/
structure Alloced (S S' : Slb) (H H' : List Ent) (a r : Nat) : Prop where
  rep : Rep S' H'
  quota : S'.quota = S.quota
  perm : (blks H').Perm ((a, r) :: blks H)
  zero : ∀ i, i < r → S'.wd (a + i) = 0
  same : ∀ b ∈ blks H, ∀ i, i < b.2 → S'.wd (b.1 + i) = S.wd (b.1 + i)

/-- A block's words are cleared. -/
theorem Rep.clrB (R : Rep S H) {a r : Nat} (hb : (a, r) ∈ blks H) : S.clr a r = (S.wds fun x => if a ≤ x ∧ x < a + r then 0 else S.wd x) ∧ Rep (S.clr a r) H := by
  have e : S.clr a r = S.wds fun x => if a ≤ x ∧ x < a + r then 0 else S.wd x := clr_page fun i hi => by
    have := R.blk_page hb (a := a + i) (by dsimp only; omega)
    exact ⟨this.1, this.2.1⟩
  refine ⟨e, ?_⟩
  rw [e]
  refine R.wordsB hb (fun x => ?_) (fun x hx => if_neg hx)
  split
  · omega
  · exact R.ok.words x

theorem Rep.take (R : Rep S H) {p : Nat} {n : Int} {N k : Nat} (hp : (p, ⟨1, n, (N : Nat)⟩) ∈ H) (hk : k < 62 / csz n.toNat) (hb : N.testBit k = false) :
    ∃ S', S.take p k = (((64 * p + 2 + k * csz n.toNat : Nat) : Int), S') ∧ Alloced S S' H (updE H p ⟨1, n, (Bt.set N k : Nat)⟩) (64 * p + 2 + k * csz n.toNat) (csz n.toNat) ∧ S'.pg = S.pg := by
  have g := R.good _ hp
  have hs := g.small (by show (1 : Int) ≠ 2; omega)
  have hpp : p ∈ S.pg := R.page hp
  have hpl := R.low _ hpp
  have hhd := R.hd _ hp
  dsimp only at hs hhd
  have gs := good_set (.inl g) hk
  have R1 := R.putE hp gs rfl
  have hperm : (blks (updE H p ⟨1, n, (Bt.set N k : Nat)⟩)).Perm ((64 * p + 2 + k * csz n.toNat, csz n.toNat) :: blks H) := R.blks_upd hp (l := [_]) (blkE_set (by omega) hk hb)
  have hin : (64 * p + 2 + k * csz n.toNat, csz n.toNat) ∈ blks (updE H p ⟨1, n, (Bt.set N k : Nat)⟩) := hperm.mem_iff.2 (by simp)
  obtain ⟨e2, R2⟩ := R1.clrB hin
  have ep := hplace_in (p := p) (show n.toNat < 8 by omega) hk
  rw [show ((n.toNat : Nat) : Int) = n by omega] at ep
  refine ⟨_, ?_, ⟨R2, ?_, hperm, fun i hi => ?_, fun b hb i hi => ?_⟩, ?_⟩
  · unfold Slb.take
    rw [hhd]
    dsimp only
    rw [ep, csize_in hs.2.2.1 hs.2.2.2.1, Int.toNat_natCast]
    dsimp only
    rw [Int.toNat_natCast]
  · rw [e2, put_page hpp hpl]
  · rw [e2]
    show (if _ then (0 : Int) else _) = 0
    rw [if_pos (by omega)]
  · have hbm : b ∈ blks (updE H p ⟨1, n, (Bt.set N k : Nat)⟩) := hperm.mem_iff.2 (by simp [hb])
    rw [e2]
    show (if _ then (0 : Int) else _) = _
    rw [if_neg (fun h => ?_), put_page hpp hpl]
    · have hpg := (R.blk_page hb (a := b.1 + i) (by omega)).2.2 _ hp
      dsimp only at hpg ⊢
      rw [if_neg hpg.2, if_neg hpg.1]
    · have := R1.apart hin hbm (a := b.1 + i) (by dsimp only; omega) (by omega)
      have hnd := nodup_blks R1
      have hnd2 := (hperm.nodup_iff.1 hnd)
      rw [List.nodup_cons] at hnd2
      exact hnd2.1 (this ▸ hb)
  · rw [e2, put_page hpp hpl]

/-! Free. -/
structure Freed (S S' : Slb) (H H' : List Ent) (a r : Nat) : Prop where
  rep : Rep S' H'
  quota : S'.quota = S.quota
  perm : (blks H).Perm ((a, r) :: blks H')
  same : ∀ b ∈ blks H', ∀ i, i < b.2 → S'.wd (b.1 + i) = S.wd (b.1 + i)

theorem Rep.delEnt (R : Rep S H) {p : Nat} {h : Hd} (hp : (p, h) ∈ H) {a r : Nat} (hb : blkE (p, h) = [(a, r)]) : Freed S (S.release p h.wide).2 H (delE H p) a r := by
  have R' := R.del hp
  have hperm := R.blks_del hp
  rw [hb] at hperm
  refine ⟨R', by rw [R.release_eq hp], hperm, fun b hb i hi => ?_⟩
  have hbm : b ∈ blks H := hperm.mem_iff.2 (by simp [hb])
  rw [R.release_eq hp]
  show (if _ then (0 : Int) else _) = _
  rw [if_neg (fun h2 => ?_)]
  have h1 := (R'.blk_page hb (a := b.1 + i) (by omega)).1
  rw [R.release_eq hp] at h1
  exact (mem_less.1 h1).2 h2

theorem Rep.blkE_clear (R : Rep S H) {p : Nat} {n : Int} {N j : Nat} (hp : (p, ⟨1, n, (N : Nat)⟩) ∈ H) (hj : j < 62 / csz n.toNat) (hb : N.testBit j = true) :
    (blkE (p, ⟨1, n, (N : Nat)⟩)).Perm ((64 * p + 2 + j * csz n.toNat, csz n.toNat) :: blkE (p, ⟨1, n, (Bt.clear N j : Nat)⟩)) ∧ (Bt.clear N j ≠ 0 → (⟨1, n, (Bt.clear N j : Nat)⟩ : Hd).Good) := by
  have g := R.good _ hp
  have hs := g.small (by show (1 : Int) ≠ 2; omega)
  have gw := g.w64
  dsimp only at hs gw
  have hr := csz_range (show n.toNat < 8 by omega)
  have hN : N < 18446744073709551616 := by omega
  refine ⟨?_, fun h0 => ?_⟩
  · rw [blkE_small rfl, blkE_small rfl]
    dsimp only
    rw [Int.toNat_natCast, Int.toNat_natCast]
    refine (filter_more (t := fun k => (Bt.clear N j).testBit k) hj ?_ (fun i => ?_)).map (fun k => (64 * p + 2 + k * csz n.toNat, csz n.toNat))
    · rw [Bt.clear_testBit j (by omega) _ hN]; simp
    · rw [Bt.clear_testBit j (by omega) _ hN]
      by_cases e : i = j
      · subst e; simp [hb]
      · simp [e]
  · have : Bt.clear N (j : Int) ≤ N := by
      unfold Bt.clear
      split
      · exact Nat.and_le_left
      · omega
    refine .inl ⟨rfl, hs.2.2.1, hs.2.2.2.1, ?_, ?_⟩ <;> dsimp only <;> omega

theorem release_one {S : Slb} {p : Nat} (h : p ∈ S.pg) (hl : p < 1048576) : S.release p 1 = (0, { S with pg := less S.pg p 1, wd := fun a => if p ≤ a / 64 ∧ a / 64 < p + 1 then 0 else S.wd a }) := by
  have e : (List.range (1 : Int).toNat).all (fun k => S.has ((p : Int) + (k : Int))) = true := by
    rw [List.all_eq_true]
    intro k hk
    have : k < 1 := List.mem_range.1 hk
    obtain rfl : k = 0 := by omega
    exact has_iff.2 ⟨by omega, by simpa using h⟩
  unfold release
  rw [if_neg (by omega), if_pos e]
  rfl
/-- A page's release asks nothing of its words. -/
theorem release_put {p : Nat} (h : p ∈ S.pg) (hl : p < 1048576) (x : Hd) : ((S.put p x).release p 1).2 = (S.release p 1).2 := by
  have hp : (S.put p x).pg = S.pg := by rw [put_page h hl]
  rw [release_one h hl, release_one (by rw [hp]; exact h) hl, put_page h hl]
  show ({ S with pg := _, wd := _ } : Slb) = { S with pg := _, wd := _ }
  congr 1
  funext a
  dsimp only
  split
  · rfl
  · rename_i hn
    rw [if_neg (by omega), if_neg (by omega)]

theorem Rep.leave (R : Rep S H) {p : Nat} {n : Int} {N j : Nat} (hp : (p, ⟨1, n, (N : Nat)⟩) ∈ H) (hj : j < 62 / csz n.toNat) (hb : N.testBit j = true) :
    Freed S (S.leave p j) H (if Bt.clear N j = 0 then delE H p else updE H p ⟨1, n, (Bt.clear N j : Nat)⟩) (64 * p + 2 + j * csz n.toNat) (csz n.toNat) ∧ (S.leave p j).pg = (if Bt.clear N j = 0 then less S.pg p 1 else S.pg) ∧ (Bt.clear N j = 0 → blkE (p, ⟨1, n, (N : Nat)⟩) = [(64 * p + 2 + j * csz n.toNat, csz n.toNat)]) := by
  have hpp : p ∈ S.pg := R.page hp
  have hpl := R.low _ hpp
  have hhd := R.hd _ hp
  dsimp only at hhd
  obtain ⟨hperm, hgood⟩ := R.blkE_clear hp hj hb
  have hone : Bt.clear N (j : Int) = 0 → blkE (p, ⟨1, n, (N : Nat)⟩) = [(64 * p + 2 + j * csz n.toNat, csz n.toNat)] := fun h0 => by
    have e : blkE (p, ⟨1, n, (Bt.clear N j : Nat)⟩) = [] := by
      rw [blkE_small rfl, h0]
      simp
    rw [e] at hperm
    exact List.perm_singleton.1 hperm
  unfold Slb.leave
  rw [hhd]
  dsimp only
  rw [Int.toNat_natCast]
  by_cases h0 : Bt.clear N (j : Int) = 0
  · rw [if_pos ⟨rfl, by omega⟩, if_pos h0, if_pos h0, release_put hpp hpl]
    refine ⟨R.delEnt hp (hone h0), ?_, hone⟩
    rw [release_one hpp hpl]
  · rw [if_neg (fun h => h0 (by omega)), if_neg h0, if_neg h0]
    have R1 := R.putE hp (hgood h0) rfl
    have hnew := R1.good _ ((mem_updE hp).2 (.inl rfl))
    have back : (blks H).Perm ((64 * p + 2 + j * csz n.toNat, csz n.toNat) :: blks (updE H p ⟨1, n, (Bt.clear N j : Nat)⟩)) := by
      obtain ⟨A, B, rfl, hA, hB⟩ := R.split hp
      rw [updE_split hA hB]
      unfold blks
      rw [List.flatMap_append, List.flatMap_cons, List.flatMap_append, List.flatMap_cons]
      refine ((hperm.append_right _).append_left _).trans ?_
      rw [List.cons_append]
      exact List.perm_middle
    refine ⟨⟨R1, by rw [put_page hpp hpl], back, fun b hb i hi => ?_⟩, by rw [put_page hpp hpl], hone⟩
    have hbm : b ∈ blks H := back.mem_iff.2 (by simp [hb])
    have hpg := (R.blk_page hbm (a := b.1 + i) (by omega)).2.2 _ hp
    rw [put_page hpp hpl]
    dsimp only at hpg ⊢
    rw [if_neg hpg.2, if_neg hpg.1]

theorem hfree_none {a : Int} (h : S.find a = none) : S.hfree a = (5, S) := by unfold hfree; rw [h]
theorem Rep.hfree (R : Rep S H) {b : Nat × Nat} (hb : b ∈ blks H) : ∃ S' H', S.hfree (b.1 : Int) = (0, S') ∧ Freed S S' H H' b.1 b.2 ∧
    ∃ p h, (p, h) ∈ H ∧ b ∈ blkE (p, h) ∧ ((H' = delE H p ∧ S'.pg = less S.pg p h.wide ∧ blkE (p, h) = [b]) ∨ (h.kind = 1 ∧ ∃ w, w < h.w ∧ H' = updE H p ⟨1, h.n, w⟩ ∧ S'.pg = S.pg ∧ (blkE (p, h)).Perm (b :: blkE (p, ⟨1, h.n, w⟩)))) := by
  obtain ⟨p, k, h, hf, B⟩ := R.find_blk hb
  have g := R.good _ B.ent
  have gw := g.w64
  dsimp only at g gw
  unfold Slb.hfree
  rw [hf]
  dsimp only
  rcases B.what with ⟨h1, _, h3, h4⟩ | ⟨h1, h2, j, rfl, h4, h5, h6⟩
  · rw [if_pos h1]
    have hbig := g.big h1
    have e1 : blkE (p, h) = [b] := by
      rw [blkE_big h1]
      congr 1
      exact Prod.ext h3.symm h4.symm
    have hF := R.delEnt B.ent (a := b.1) (r := b.2) e1
    rw [← hbig.1]
    exact ⟨_, _, by rw [R.release_eq B.ent], by have := hF; rw [R.release_eq B.ent] at this; exact this, p, h, B.ent, by rw [e1]; simp, .inl ⟨rfl, rfl, e1⟩⟩
  · rw [if_neg (by omega)]
    obtain ⟨kd, n, ww⟩ := h
    dsimp only at h1 h2 h4 h5 h6 gw
    subst h1
    obtain ⟨N, rfl⟩ := Int.eq_ofNat_of_zero_le (show 0 ≤ ww by omega)
    rw [Int.toNat_natCast] at h5
    obtain ⟨hF, hpg, hone⟩ := R.leave B.ent h4 h5
    obtain ⟨hperm, hgood⟩ := R.blkE_clear B.ent h4 h5
    rw [← h6, ← h2] at hF hone hperm
    refine ⟨_, _, rfl, hF, p, _, B.ent, by rw [hperm.mem_iff]; simp, ?_⟩
    by_cases h0 : Bt.clear N (j : Int) = 0
    · rw [if_pos h0] at hpg ⊢
      exact .inl ⟨rfl, hpg, hone h0⟩
    · rw [if_neg h0] at hpg ⊢
      refine .inr ⟨rfl, _, ?_, rfl, hpg, hperm⟩
      have hne : Bt.clear N (j : Int) ≠ N := fun e => by
        have := Bt.clear_testBit j (by have := csz_range (show n.toNat < 8 by have := g.small (by show (1 : Int) ≠ 2; omega); dsimp only at this; omega); omega) j (N := N) (by omega)
        rw [e, h5] at this
        simp at this
      have hle : Bt.clear N (j : Int) ≤ N := by
        unfold Bt.clear
        split
        · exact Nat.and_le_left
        · omega
      dsimp only
      omega
end Slb
end Go.Proofs.YtfmkiioahnphbaaDoor

namespace Go.Proofs.YtfmkiioahnphbaaDoor
open Go

namespace Slb
variable {S : Slb} {H : List Ent}

/-! The free slots of a class. -/
/-- A free slot: of a page of small places of a class. -/
structure Open (H : List Ent) (c : Nat) (a : Nat) (p : Nat) (N k : Nat) : Prop where
  ent : (p, ⟨1, (c : Nat), (N : Nat)⟩) ∈ H
  lt : k < 62 / csz c
  bit : N.testBit k = false
  addr : a = 64 * p + 2 + k * csz c

theorem Rep.head_small (R : Rep S H) {x : Ent} (hx : x ∈ H) (h1 : x.2.kind = 1) : ∃ c N : Nat, c < 8 ∧ x.2 = ⟨1, (c : Nat), (N : Nat)⟩ ∧ N < 18446744073709551616 := by
  have g := R.good x hx
  have hs := g.small (by omega)
  have hw := g.w64
  obtain ⟨p, kd, n, w⟩ := x
  dsimp only at h1 hs hw ⊢
  exact ⟨n.toNat, w.toNat, by omega, by rw [h1]; congr 1 <;> omega, by omega⟩

theorem free_nat {N : Nat} (hN : N < 18446744073709551616) {n : Nat} (hn : n ≤ 64) :
    (Bt.free N n = -1 ∧ ∀ i, i < n → N.testBit i = true) ∨ ∃ k : Nat, Bt.free N n = k ∧ k < n ∧ N.testBit k = false ∧ ∀ i, i < k → N.testBit i = true := by
  have h := Bt.free_spec hN n
  have e : Bt.cl n = n := by unfold Bt.cl; omega
  rw [e] at h
  exact h

theorem Rep.spot_some (R : Rep S H) {c : Nat} (hc : c < 8) {p : Nat} {k : Int} (h : S.spot c = some (p, k)) : ∃ (j N a : Nat), k = j ∧ Open H c a p N j ∧ ∀ a' p' N' k', Open H c a' p' N' k' → a ≤ a' := by
  have hr := csz_range hc
  unfold Slb.spot at h
  rw [R.heads] at h
  obtain ⟨A, x, B, rfl, hx, hA⟩ := List.findSome?_eq_some_iff.1 h
  have hxm : x ∈ A ++ x :: B := by simp
  unfold spotF at hx
  split at hx
  · rename_i hcond
    cases hx
    obtain ⟨h1, h2, h3⟩ := hcond
    obtain ⟨c', N, hc', he, hN⟩ := R.head_small hxm h1
    obtain ⟨p, hd⟩ := x
    dsimp only at he h2 h3 ⊢
    subst he
    dsimp only at h2 h3 ⊢
    obtain rfl : c' = c := by omega
    rw [cslots_in (by omega) (by omega), Int.toNat_natCast] at h3 ⊢
    dsimp only at h3 ⊢
    rw [Int.toNat_natCast] at h3 ⊢
    rcases free_nat hN (n := 62 / csz c') (by omega) with ⟨e, _⟩ | ⟨k, e, hk, hb, hbef⟩
    · rw [e] at h3; omega
    · refine ⟨k, N, _, e, ⟨hxm, hk, hb, rfl⟩, fun a' p' N' k' O => ?_⟩
      have ho := R.ord
      rw [List.pairwise_append, List.pairwise_cons] at ho
      have hk' := O.lt
      rw [O.addr]
      have hm := O.ent
      simp only [List.mem_append, List.mem_cons] at hm
      rcases hm with hm | hm | hm
      · have hnone := hA _ hm
        unfold spotF at hnone
        dsimp only at hnone
        have g := (R.good _ (show (p', (⟨1, (c' : Nat), (N' : Nat)⟩ : Hd)) ∈ A ++ _ by simp [hm])).w64
        dsimp only at g
        rw [cslots_in (by omega) (by omega), Int.toNat_natCast, Int.toNat_natCast] at hnone
        dsimp only at hnone
        rcases free_nat (show N' < 18446744073709551616 by omega) (n := 62 / csz c') (by omega) with ⟨_, hall⟩ | ⟨k2, e2, _, _, _⟩
        · exact Bool.noConfusion (O.bit.symm.trans (hall k' hk'))
        · rw [if_pos ⟨rfl, rfl, by rw [e2]; omega⟩] at hnone
          cases hnone
      · cases hm
        rcases Nat.lt_or_ge k' k with hlt | hge
        · exact Bool.noConfusion (O.bit.symm.trans (hbef k' hlt))
        · have : k * csz c' ≤ k' * csz c' := Nat.mul_le_mul_right _ hge
          omega
      · have h1 := ho.2.1.1 _ hm
        have hin := slot_in hc hk
        dsimp only [Hd.wide] at h1
        simp at h1
        omega
  · cases hx

theorem Rep.spot_none (R : Rep S H) {c : Nat} (hc : c < 8) (h : S.spot c = none) : ∀ a p N k, ¬ Open H c a p N k := fun a p N k O => by
  have hr := csz_range hc
  unfold Slb.spot at h
  rw [R.heads, List.findSome?_eq_none_iff] at h
  have hn := h _ O.ent
  have g := (R.good _ O.ent).w64
  unfold spotF at hn
  dsimp only at hn g
  rw [cslots_in (by omega) (by omega), Int.toNat_natCast, Int.toNat_natCast] at hn
  dsimp only at hn
  rcases free_nat (show N < 18446744073709551616 by omega) (n := 62 / csz c) (by omega) with ⟨_, hall⟩ | ⟨k2, e2, _, _, _⟩
  · exact Bool.noConfusion (O.bit.symm.trans (hall k O.lt))
  · rw [if_pos ⟨rfl, rfl, by rw [e2]; omega⟩] at hn
    cases hn

/-- How many words the place of a block has. -/
def roomOf (n : Int) : Nat := if n ≤ 28 then csz (clsOf n) else n.toNat
theorem le_roomOf {n : Int} (h : n ≤ 4000) : n ≤ (roomOf n : Nat) := by
  unfold roomOf
  split
  · rename_i h; exact clsOf_le h
  · omega
theorem roomOf_range {n : Int} (h1 : 1 ≤ n) (h2 : n ≤ 4000) : 2 ≤ roomOf n ∧ roomOf n ≤ 4000 := by
  have hc := csz_range (clsOf_lt n)
  unfold roomOf
  split <;> omega
/-- How many pages a block of its own takes. -/
def pagesOf (n : Int) : Nat := if n ≤ 28 then 1 else ((n + 65) / 64).toNat

/-- How the entries stand behind Alloc. -/
inductive AllocWay (S S' : Slb) (H H' : List Ent) (n : Int) (a : Nat) : Prop
  | slot (p N k : Nat) (h : n ≤ 28) (o : Open H (clsOf n) a p N k) (least : ∀ a' p' N' k', Open H (clsOf n) a' p' N' k' → a ≤ a') (e : H' = updE H p ⟨1, (clsOf n : Nat), (Bt.set N k : Nat)⟩) (pg : S'.pg = S.pg)
  | page (f : Nat) (h : n ≤ 28) (none : ∀ a p N k, ¬ Open H (clsOf n) a p N k) (ne : ∀ x ∈ H, x.1 ≠ f) (e : H' = insE H (f, ⟨1, (clsOf n : Nat), 1⟩)) (pg : S'.pg = more S.pg f 1) (fr : f = least S.pg 1) (q : ((S.pg.length : Int) + 1) * 64 ≤ S.quota) (ad : a = 64 * f + 2)
  | large (f m : Nat) (h : 28 < n) (hm : m = pagesOf n) (ne : ∀ x ∈ H, x.1 ≠ f) (e : H' = insE H (f, ⟨2, (m : Nat), n⟩)) (pg : S'.pg = more S.pg f m) (fr : f = least S.pg m) (q : ((S.pg.length : Int) + m) * 64 ≤ S.quota) (ad : a = 64 * f + 2)

theorem Rep.fresh_page (R : Rep S H) {f n : Nat} (hn : 1 ≤ n) (hf : freeB S.pg f n = true) : ∀ x ∈ H, x.1 ≠ f := fun x hx e => by
  have := (R.good x hx).wide1
  rcases R.free hn hf hx with h | h <;> omega

theorem Rep.least_le (R : Rep S H) {m : Nat} (h1 : 1 ≤ m) (h2 : m ≤ 64) : least S.pg m + m ≤ 1048576 := by
  obtain ⟨l1, _, _⟩ := least_spec S.pg m h1
  have hlen : S.pg.length ≤ 4096 := by have := R.ok.fit; have := R.ok.q1; omega
  have : m * S.pg.length ≤ 64 * 4096 := Nat.mul_le_mul h2 hlen
  omega

/-- A new entry's block: other blocks' words stay, its own are 0. -/
theorem Rep.addB (R : Rep S H) {f m : Nat} {h : Hd} {a r : Nat} (hm : h.wide = m) (hf : freeB S.pg f m = true) (hg : h.Good) (hq : ((S.pg.length : Int) + m) * 64 ≤ S.quota) (hs : f + m ≤ 1048576) (hb : blkE (f, h) = [(a, r)]) :
    Alloced S (({ S with pg := more S.pg f m } : Slb).put f h) H (insE H (f, h)) a r := by
  subst hm
  have w1 := hg.wide1
  have hne := R.fresh_page w1.1 hf
  have R' := R.add hf hg hq hs
  have h1 : f ∈ more S.pg f h.wide := (mem_more hf).2 (.inr ⟨Nat.le_refl _, by omega⟩)
  have hperm := blks_ins (e := (f, h)) hne
  rw [hb] at hperm
  have hin := blkE_in (x := (f, h)) hg (b := (a, r)) (by rw [hb]; simp)
  dsimp only at hin
  have e := put_page (S := { S with pg := more S.pg f h.wide }) h1 (by omega) h
  refine ⟨R', by rw [e], hperm, fun i hi => ?_, fun b hbm i hi => ?_⟩
  · rw [e]
    show (if a + i = 64 * f + 1 then h.w else if a + i = 64 * f then h.kind + 256 * h.n else S.wd (a + i)) = 0
    rw [if_neg (by omega), if_neg (by omega)]
    refine R.ok.zero _ fun hc => ?_
    rcases freeB_iff.1 hf _ hc with h2 | h2 <;> omega
  · have hpg := (R.blk_page hbm (a := b.1 + i) (by omega)).1
    rw [e]
    show (if b.1 + i = 64 * f + 1 then h.w else if b.1 + i = 64 * f then h.kind + 256 * h.n else S.wd (b.1 + i)) = S.wd (b.1 + i)
    rcases freeB_iff.1 hf _ hpg with h2 | h2
    · rw [if_neg (by omega), if_neg (by omega)]
    · rw [if_neg (by omega), if_neg (by omega)]

theorem grant_quo' {n : Nat} (h1 : 1 ≤ n) (h2 : n ≤ 4096) (hq : S.quota < ((S.pg.length : Int) + n) * 64) : S.grant n = (0, 3, S) := grant_quo (by omega) (by omega) hq
theorem grant_ok' {n : Nat} (h1 : 1 ≤ n) (h2 : n ≤ 4096) (hq : ((S.pg.length : Int) + n) * 64 ≤ S.quota) : S.grant n = (((least S.pg n : Nat) : Int), 0, { S with pg := more S.pg (least S.pg n) n }) := by
  unfold grant
  rw [if_neg (by omega), if_neg (by omega)]
  rfl

theorem halloc_bad' {n : Int} (h : n < 1 ∨ 4000 < n) : S.halloc n = (0, 2, S) := if_pos h

theorem Rep.halloc (R : Rep S H) {n : Int} (h1 : 1 ≤ n) (h2 : n ≤ 4000) :
    (S.halloc n = (0, 3, S) ∧ S.quota < ((S.pg.length : Int) + pagesOf n) * 64 ∧ (n ≤ 28 → ∀ a p N k, ¬ Open H (clsOf n) a p N k)) ∨
    ∃ (a : Nat) (S' : Slb) (H' : List Ent), S.halloc n = (((a : Nat) : Int), 0, S') ∧ Alloced S S' H H' a (roomOf n) ∧ AllocWay S S' H H' n a := by
  unfold Slb.halloc
  rw [if_neg (by omega)]
  by_cases h28 : n ≤ 28
  · rw [if_pos h28]
    have hc := clsOf_lt n
    have hrm : roomOf n = csz (clsOf n) := if_pos h28
    have hpm : pagesOf n = 1 := if_pos h28
    have hr := csz_range hc
    cases hsp : S.spot (clsOf n : Nat) with
    | some r =>
      obtain ⟨p, k⟩ := r
      obtain ⟨j, N, a, rfl, O, hleast⟩ := R.spot_some hc hsp
      obtain ⟨S', e, hA, hpg⟩ := R.take O.ent (by rw [Int.toNat_natCast]; exact O.lt) O.bit
      rw [Int.toNat_natCast, ← O.addr] at e hA
      refine .inr ⟨a, S', _, ?_, by rw [hrm]; exact hA, .slot p N j h28 O hleast rfl hpg⟩
      dsimp only
      rw [e]
    | none =>
      have hno := R.spot_none hc hsp
      dsimp only
      by_cases hq : S.quota < ((S.pg.length : Int) + (1 : Nat)) * 64
      · have eg := grant_quo' (n := 1) (by omega) (by omega) hq
        rw [show ((1 : Nat) : Int) = 1 from rfl] at eg
        rw [eg]
        dsimp only
        rw [if_neg (by omega)]
        exact .inl ⟨rfl, by rw [hpm]; exact hq, fun _ => hno⟩
      · have eg := grant_ok' (S := S) (n := 1) (by omega) (by omega) (by omega)
        rw [show ((1 : Nat) : Int) = 1 from rfl] at eg
        rw [eg]
        dsimp only
        rw [if_pos rfl]
        obtain ⟨f, hf⟩ : ∃ f, least S.pg 1 = f := ⟨_, rfl⟩
        have hfr := (least_spec S.pg 1 (by omega)).2.1
        have hlow := R.least_le (m := 1) (by omega) (by omega)
        rw [hf] at hfr hlow ⊢
        have hg : (⟨1, (clsOf n : Nat), 1⟩ : Hd).Good := by
          have := good_set (n := (clsOf n : Nat)) (N := 0) (k := 0) (.inr ⟨by omega, rfl⟩) (by rw [Int.toNat_natCast]; omega)
          exact this
        have hb : blkE (f, ⟨1, (clsOf n : Nat), 1⟩) = [(64 * f + 2, csz (clsOf n))] := by
          have := blkE_set (p := f) (n := (clsOf n : Nat)) (N := 0) (k := 0) (by rw [Int.toNat_natCast]; omega) (by rw [Int.toNat_natCast]; omega) (by simp)
          have e0 : blkE (f, ⟨1, (clsOf n : Nat), ((0 : Nat) : Int)⟩) = [] := by rw [blkE_small rfl]; simp
          rw [e0] at this
          have this : blkE (f, ⟨1, (clsOf n : Nat), 1⟩) = [(64 * f + 2 + 0 * csz ((clsOf n : Nat) : Int).toNat, csz ((clsOf n : Nat) : Int).toNat)] := List.perm_singleton.1 this
          rw [Int.toNat_natCast, Nat.zero_mul, Nat.add_zero] at this
          exact this
        have hA := R.addB (m := 1) rfl hfr hg (by omega) hlow hb
        have h1f : f ∈ more S.pg f 1 := (mem_more hfr).2 (.inr ⟨Nat.le_refl _, by omega⟩)
        have hmem : (64 * f + 2, csz (clsOf n)) ∈ blks (insE H (f, ⟨1, (clsOf n : Nat), 1⟩)) := hA.perm.mem_iff.2 (by simp)
        obtain ⟨ec, Rc⟩ := hA.rep.clrB hmem
        -- the head with no slot taken, and then with one
        have etk : (({ S with pg := more S.pg f 1 } : Slb).put f ⟨1, (clsOf n : Nat), 0⟩).take f 0 = (((64 * f + 2 : Nat) : Int), (({ S with pg := more S.pg f 1 } : Slb).put f ⟨1, (clsOf n : Nat), 1⟩).clr ((64 * f + 2 : Nat) : Int) (csz (clsOf n))) := by
          have e0 := put_page (S := { S with pg := more S.pg f 1 }) h1f (by omega) ⟨1, (clsOf n : Nat), 0⟩
          have hh : (({ S with pg := more S.pg f 1 } : Slb).put f ⟨1, (clsOf n : Nat), 0⟩).hd f = ⟨1, (clsOf n : Nat), 0⟩ := by
            rw [e0, hd_pgs h1f (by omega), if_neg (by omega), if_pos rfl, if_pos rfl]
            dsimp only
            congr 1 <;> omega
          have ep : hplace (f : Int) ((clsOf n : Nat) : Int) 0 = ((64 * f + 2 : Nat) : Int) := by
            have := hplace_in (p := f) (k := 0) hc (by omega)
            rw [Nat.zero_mul, Nat.add_zero] at this
            exact this
          have e2 : (({ S with pg := more S.pg f 1 } : Slb).put f ⟨1, (clsOf n : Nat), 0⟩).put f ⟨1, (clsOf n : Nat), 1⟩ = ({ S with pg := more S.pg f 1 } : Slb).put f ⟨1, (clsOf n : Nat), 1⟩ := by
            rw [e0, put_page (S := { S with pg := more S.pg f 1 }) h1f (by omega) ⟨1, (clsOf n : Nat), 1⟩, put_page (by exact h1f) (by omega)]
            show ({ S with pg := _, wd := _ } : Slb) = { S with pg := _, wd := _ }
            congr 1
            funext x
            dsimp only
            by_cases q1 : x = 64 * f + 1
            · simp [q1]
            · by_cases q2 : x = 64 * f
              · simp [q2]
              · simp [q1, q2]
          unfold Slb.take
          rw [hh]
          dsimp only
          rw [ep, csize_in (by omega) (by omega), Int.toNat_natCast, show ((Bt.set (Int.toNat 0) 0 : Nat) : Int) = 1 from rfl, e2, Int.toNat_natCast]
        rw [etk]
        refine .inr ⟨64 * f + 2, _, _, rfl, ⟨Rc, ?_, by rw [hrm]; exact hA.perm, fun i hi => ?_, fun b hb i hi => ?_⟩, .page f h28 hno (R.fresh_page (by omega) hfr) rfl ?_ hf.symm (by omega) rfl⟩
        · rw [ec]; exact hA.quota
        · rw [hrm] at hi
          rw [ec]
          exact if_pos (by omega)
        · rw [ec]
          show (if _ then (0 : Int) else _) = _
          rw [if_neg (fun hc => ?_)]
          · exact hA.same b hb i hi
          · have hbm : b ∈ blks (insE H (f, ⟨1, (clsOf n : Nat), 1⟩)) := hA.perm.mem_iff.2 (by simp [hb])
            have := hA.rep.apart hmem hbm (a := b.1 + i) (by dsimp only; omega) (by omega)
            have hnd := hA.perm.nodup_iff.1 (nodup_blks hA.rep)
            rw [List.nodup_cons] at hnd
            exact hnd.1 (this ▸ hb)
        · rw [ec, put_page (S := { S with pg := more S.pg f 1 }) h1f (by omega)]
  · rw [if_neg h28]
    have hrm : roomOf n = n.toNat := if_neg h28
    obtain ⟨m, hm⟩ : ∃ m : Nat, (n + 65) / 64 = m := ⟨((n + 65) / 64).toNat, by omega⟩
    have hpm : pagesOf n = m := by unfold pagesOf; rw [if_neg h28]; omega
    have hmb : 1 ≤ m ∧ m ≤ 64 := by omega
    rw [hm]
    by_cases hq : S.quota < ((S.pg.length : Int) + m) * 64
    · rw [grant_quo' hmb.1 (by omega) hq]
      dsimp only
      rw [if_neg (by omega)]
      exact .inl ⟨rfl, by rw [hpm]; exact hq, fun h => absurd h h28⟩
    · rw [grant_ok' hmb.1 (by omega) (by omega)]
      dsimp only
      rw [if_pos rfl]
      obtain ⟨f, hf⟩ : ∃ f, least S.pg m = f := ⟨_, rfl⟩
      have hfr := (least_spec S.pg m hmb.1).2.1
      have hlow := R.least_le (m := m) hmb.1 hmb.2
      rw [hf] at hfr hlow ⊢
      have hg : (⟨2, (m : Nat), n⟩ : Hd).Good := .inr ⟨rfl, by dsimp only; omega, h2, hm.symm⟩
      have hw : (⟨2, (m : Nat), n⟩ : Hd).wide = m := by unfold Hd.wide; rw [if_pos rfl, Int.toNat_natCast]
      have hA := R.addB (h := ⟨2, (m : Nat), n⟩) hw hfr hg (by omega) hlow (blkE_big rfl)
      refine .inr ⟨64 * f + 2, _, _, by congr 1; omega, by rw [hrm]; exact hA, .large f m (by omega) hpm.symm (R.fresh_page hmb.1 hfr) rfl ?_ hf.symm (by omega) rfl⟩
      rw [put_page (S := { S with pg := more S.pg f m }) ((mem_more hfr).2 (.inr ⟨Nat.le_refl _, by omega⟩)) (by omega)]
end Slb
end Go.Proofs.YtfmkiioahnphbaaDoor

namespace Go.Proofs.YtfmkiioahnphbaaDoor
open Go

namespace Slb
variable {S : Slb} {H : List Ent}

/-! The least place of a large block. -/
theorem run_free (S : Slb) : ∀ p q : Nat, p - S.runAt p ≤ q → q < p → q ∉ S.pg
  | 0, q, _, h => by omega
  | p + 1, q, h1, h2 => by
    have hle := runAt_le S p
    unfold runAt at h1
    split at h1
    · omega
    · rename_i hh
      rcases Nat.lt_or_ge q p with h | h
      · exact run_free S p q (by omega) h
      · obtain rfl : q = p := by omega
        exact fun hc => hh (has_nat.2 hc)
theorem run_ge (S : Slb) {g : Nat} : ∀ p : Nat, g ≤ p → (∀ q, g ≤ q → q < p → q ∉ S.pg) → p - g ≤ S.runAt p
  | 0, _, _ => by omega
  | p + 1, h1, h2 => by
    rcases Nat.lt_or_ge g (p + 1) with h | h
    · have ih := run_ge S (g := g) p (by omega) (fun q a b => h2 q a (by omega))
      unfold runAt
      rw [if_neg (fun hc => h2 p (by omega) (by omega) (has_nat.1 hc))]
      omega
    · omega
theorem run_hit (S : Slb) {n : Nat} (hn : 1 ≤ n) : ∀ p : Nat, n ≤ S.runAt p → ∃ k, k < p ∧ S.lowF n k = true
  | 0, h => by unfold runAt at h; omega
  | p + 1, h => by
    unfold runAt at h
    split at h
    · omega
    · rename_i hh
      rcases Nat.lt_or_ge (S.runAt p) n with h1 | h1
      · refine ⟨p, by omega, ?_⟩
        unfold lowF
        have hr : S.runAt (p + 1) = S.runAt p + 1 := by
          show (if _ then 0 else _) = _
          rw [if_neg hh]
        rw [hr]
        simp only [Bool.and_eq_true, Bool.not_eq_true', decide_eq_true_eq]
        exact ⟨by simpa using hh, by omega⟩
      · obtain ⟨k, h2, h3⟩ := run_hit S hn p h1
        exact ⟨k, by omega, h3⟩

theorem Rep.low_eq (R : Rep S H) {p : Nat} {h : Hd} (hp : (p, h) ∈ H) {n : Nat} (hn : h.wide = n) : S.low p n = (least (less S.pg p n) n : Nat) := by
  subst hn
  have w1 := (R.good _ hp).wide1.1
  dsimp only at w1
  generalize hN : h.wide = n at *
  have own : ∀ k, p ≤ k → k < p + n → k ∈ S.pg := fun k h1 h2 => (R.mem k).2 ⟨_, hp, h1, by show k < p + h.wide; omega⟩
  unfold Slb.low
  cases hf : (List.range p).find? (S.lowF n) with
  | some t =>
    have ht := List.find?_some hf
    have htp := List.mem_range.1 (List.mem_of_find?_eq_some hf)
    have hbef : ∀ k, k < t → S.lowF n k = false := by
      obtain ⟨_, i, hi, hx, hb⟩ := List.find?_eq_some_iff_getElem.1 hf
      simp only [List.getElem_range] at hx
      subst hx
      intro k hk
      have := hb k hk
      simpa using this
    unfold lowF at ht
    simp only [Bool.and_eq_true, Bool.not_eq_true', decide_eq_true_eq] at ht
    have hle := runAt_le S (t + 1)
    have e : least (less S.pg p n) n = t + 1 - n := by
      refine least_eq w1 (freeB_iff.2 fun k hk => ?_) (fun g hg => ?_)
      · have hk := mem_less.1 hk
        refine Classical.byContradiction fun hc => ?_
        exact run_free S (t + 1) k (by omega) (by omega) hk.1
      · refine Classical.byContradiction fun hc => ?_
        have hfr := freeB_iff.1 (show freeB (less S.pg p n) g n = true by simpa using hc)
        have hge := run_ge S (g := g) (g + n) (by omega) (fun q h1 h2 hq => by
          rcases hfr q (mem_less.2 ⟨hq, by omega⟩) with h | h <;> omega)
        obtain ⟨k, hk, hl⟩ := run_hit S w1 (g + n) (by omega)
        rw [hbef k (by omega)] at hl
        cases hl
    dsimp only
    rw [e]
    omega
  | none =>
    have hno : ∀ k, k < p → S.lowF n k = false := fun k hk => by
      have := List.find?_eq_none.1 hf k (List.mem_range.2 hk)
      simpa using this
    have hlt : ∀ q, q ≤ p → S.runAt q < n := fun q hq => Classical.byContradiction fun hc => by
      obtain ⟨k, hk, hl⟩ := run_hit S w1 q (by omega)
      rw [hno k (by omega)] at hl
      cases hl
    have hle := runAt_le S p
    have e : least (less S.pg p n) n = p - S.runAt p := by
      refine least_eq w1 (freeB_iff.2 fun k hk => ?_) (fun g hg => ?_)
      · have hk := mem_less.1 hk
        refine Classical.byContradiction fun hc => ?_
        rcases Nat.lt_or_ge k p with h | h
        · exact run_free S p k (by omega) h hk.1
        · exact hk.2 ⟨h, by omega⟩
      · refine Classical.byContradiction fun hc => ?_
        have hfr := freeB_iff.1 (show freeB (less S.pg p n) g n = true by simpa using hc)
        rcases Nat.lt_or_ge p (g + n) with h | h
        · have := run_ge S (g := g) p (by omega) (fun q h1 h2 hq => by
            rcases hfr q (mem_less.2 ⟨hq, by omega⟩) with h | h <;> omega)
          omega
        · have := run_ge S (g := g) (g + n) (by omega) (fun q h1 h2 hq => by
            rcases hfr q (mem_less.2 ⟨hq, by omega⟩) with h | h <;> omega)
          have := hlt (g + n) h
          omega
    dsimp only
    rw [e]
    omega

/-- What a call that moves a block brings. -/
structure Slid (S S' : Slb) (H H' : List Ent) (a to r : Nat) : Prop where
  rep : Rep S' H'
  quota : S'.quota = S.quota
  perm : ∃ L, (blks H).Perm ((a, r) :: L) ∧ (blks H').Perm ((to, r) :: L)
  word : ∀ i, i < r → S'.wd (to + i) = S.wd (a + i)
  same : ∀ b ∈ blks H, b ≠ (a, r) → ∀ i, i < b.2 → S'.wd (b.1 + i) = S.wd (b.1 + i)
  le : to ≤ a

theorem wrs_page {S : Slb} {a : Nat} {l : List Int} : ∀ {n : Nat}, (∀ i, i < n → (a + i) / 64 ∈ S.pg ∧ (a + i) / 64 < 1048576) → S.wrs (a : Int) l n = S.wds fun x => if a ≤ x ∧ x < a + n then l.getD (x - a) 0 else S.wd x
  | 0, _ => by
    show S = _
    have : (fun x => if a ≤ x ∧ x < a + 0 then l.getD (x - a) 0 else S.wd x) = S.wd := by funext x; rw [if_neg (by omega)]
    rw [wds, this]
  | n + 1, h => by
    show ((S.wrs (a : Int) l n).write ((a : Int) + n) (l.getD n 0)).2 = _
    rw [wrs_page (fun i hi => h i (by omega)), show (a : Int) + n = ((a + n : Nat) : Int) by omega, write_wds (h n (by omega)).1 (h n (by omega)).2]
    congr 1
    funext x
    by_cases e : x = a + n
    · rw [if_pos e, if_pos (by omega), e, Nat.add_sub_cancel_left]
    · rw [if_neg e]
      by_cases e2 : a ≤ x ∧ x < a + n
      · rw [if_pos e2, if_pos (by omega)]
      · rw [if_neg e2, if_neg (by omega)]

theorem rds_get {S : Slb} {a n i : Nat} (hi : i < n) (hp : (a + i) / 64 ∈ S.pg) (hl : (a + i) / 64 < 1048576) : (S.rds (a : Int) n).getD i 0 = S.wd (a + i) := by
  unfold rds
  rw [List.getD_eq_getElem?_getD, List.getElem?_map, List.getElem?_range hi, Option.map_some, Option.getD_some, show (a : Int) + (i : Int) = ((a + i : Nat) : Int) by omega]
  exact rd_page hp hl

/-- A large block moves to the least pages. -/
theorem Rep.slideL (R : Rep S H) {p : Nat} {h : Hd} (hp : (p, h) ∈ H) (h2 : h.kind = 2) {f : Nat} (hf : least (less S.pg p h.wide) h.wide = f) (hne : f ≠ p) :
    f < p ∧ ∃ S', S.slideL p h.n = (((64 * f + 2 : Nat) : Int), S') ∧ Slid S S' H (insE (delE H p) (f, h)) (64 * p + 2) (64 * f + 2) h.w.toNat ∧ S'.pg = more (less S.pg p h.wide) f h.wide := by
  have g := R.good _ hp
  have gb := g.big h2
  have w1 := g.wide1
  dsimp only at g gb w1
  obtain ⟨m, hm⟩ : ∃ m, h.wide = m := ⟨_, rfl⟩
  have own : ∀ k, p ≤ k → k < p + m → k ∈ S.pg := fun k h1 h2 => (R.mem k).2 ⟨_, hp, h1, by show k < p + h.wide; omega⟩
  have hlow := R.low_eq hp hm
  have hrel := R.release_eq hp
  have R1 := R.del hp
  have hspec := least_spec (less S.pg p m) m (by omega)
  rw [hm] at hf hrel R1 w1 gb
  rw [hf] at hlow hspec
  have hfp : f < p := by
    rcases Nat.lt_trichotomy p f with h | h | h
    · have := hspec.2.2 p h
      have hfr : freeB (less S.pg p m) p m = true := freeB_iff.2 fun k hk => by
        have := (mem_less.1 hk).2
        omega
      rw [hfr] at this
      cases this
    · exact absurd h.symm hne
    · exact h
  have hpm := R.low (p + (m - 1)) (own _ (by omega) (by omega))
  have hq1 : ((less S.pg p m).length : Int) + m ≤ S.pg.length := by
    have hd : ∀ L : List Nat, L.Nodup → (∀ k, p ≤ k → k < p + m → k ∈ L) → (less L p m).length + m ≤ L.length := by
      intro L hL hin
      have hs : ((List.range m).map (p + ·)).Perm (L.filter fun k => !(decide (k < p) || decide (p + m ≤ k))) := by
        refine (List.perm_ext_iff_of_nodup ?_ (hL.filter _)).2 fun k => ?_
        · rw [List.nodup_iff_pairwise_ne, List.pairwise_map]
          exact List.pairwise_lt_range.imp (by intro a b h; omega)
        · simp only [List.mem_map, List.mem_range, List.mem_filter, Bool.not_eq_true', Bool.or_eq_false_iff, decide_eq_false_iff_not]
          constructor
          · rintro ⟨a, ha, rfl⟩
            exact ⟨hin _ (by omega) (by omega), by omega, by omega⟩
          · rintro ⟨_, h1, h2⟩
            exact ⟨k - p, by omega, by omega⟩
      have h1 := (List.filter_append_perm (fun k => decide (k < p) || decide (p + m ≤ k)) L).length_eq
      rw [List.length_append, ← hs.length_eq, List.length_map, List.length_range] at h1
      unfold less
      omega
    have := hd S.pg (nodup R.ok) own
    omega
  have hquota : (((less S.pg p m).length : Int) + m) * 64 ≤ S.quota := by have := R.ok.fit; omega
  obtain ⟨S1, hS1⟩ : ∃ x, (S.release p m).2 = x := ⟨_, rfl⟩
  have hS1e : S1 = { S with pg := less S.pg p m, wd := fun a => if p ≤ a / 64 ∧ a / 64 < p + m then 0 else S.wd a } := by rw [← hS1, hrel]
  have hS1pg : S1.pg = less S.pg p m := by rw [hS1e]
  have hS1q : S1.quota = S.quota := by rw [hS1e]
  have hS1w : ∀ a, S1.wd a = if p ≤ a / 64 ∧ a / 64 < p + m then 0 else S.wd a := fun a => by rw [hS1e]
  rw [hS1] at R1
  have hfr : freeB S1.pg f m = true := by rw [hS1pg]; exact hspec.2.1
  have hgr := grant_ok' (S := S1) (n := m) (by omega) (by omega) (by rw [hS1pg, hS1q]; exact hquota)
  rw [hS1pg, hf] at hgr
  have hA := R1.addB hm hfr g (by rw [hS1pg, hS1q]; exact hquota) (by omega) (blkE_big h2)
  have h1f : f ∈ more S1.pg f m := (mem_more hfr).2 (.inr ⟨Nat.le_refl _, by omega⟩)
  have hin2 : ∀ i, i < m * 64 → (64 * f + i) / 64 ∈ more S1.pg f m ∧ (64 * f + i) / 64 < 1048576 := fun i hi => ⟨(mem_more hfr).2 (.inr ⟨by omega, by omega⟩), by omega⟩
  have hrd : ∀ i, i < m * 64 → (S.rds ((64 * p : Nat) : Int) (m * 64)).getD i 0 = S.wd (64 * p + i) := fun i hi => rds_get hi (own _ (by omega) (by omega)) (by omega)
  -- the words behind the move
  obtain ⟨F, hF⟩ : ∃ F : Nat → Int, F = fun x => if 64 * f ≤ x ∧ x < 64 * f + m * 64 then S.wd (64 * p + (x - 64 * f)) else S1.wd x := ⟨_, rfl⟩
  have hw : ({ S1 with pg := more S1.pg f m } : Slb).wrs ((64 * f : Nat) : Int) (S.rds ((64 * p : Nat) : Int) (m * 64)) (m * 64) = { S1 with pg := more S1.pg f m, wd := F } := by
    rw [wrs_page (S := { S1 with pg := more S1.pg f m }) hin2, hF]
    show ({ S1 with pg := _, wd := _ } : Slb) = { S1 with pg := _, wd := _ }
    congr 1
    funext x
    by_cases e : 64 * f ≤ x ∧ x < 64 * f + m * 64
    · rw [if_pos e, if_pos e, hrd _ (by omega)]
    · rw [if_neg e, if_neg e]
  have hnm : h.n = (m : Nat) := by omega
  have hep := put_page (S := { S1 with pg := more S1.pg f m }) h1f (by omega) h
  have hhd := R.hd _ hp
  have hpl := R.low p (own p (by omega) (by omega))
  dsimp only at hhd
  rw [hd_page (own p (by omega) (by omega)) hpl] at hhd
  have hk0 : h.kind + 256 * h.n = S.wd (64 * p) := by rw [← hhd]; dsimp only; omega
  have hk1 : h.w = S.wd (64 * p + 1) := by rw [← hhd]
  have hgw := g.w64
  have Rf : Rep { S1 with pg := more S1.pg f m, wd := F } (insE (delE H p) (f, h)) := by
    have Ra := hA.rep
    have e : ({ S1 with pg := more S1.pg f m, wd := F } : Slb) = (({ S1 with pg := more S1.pg f m } : Slb).put f h).wds F := by rw [hep]
    rw [e]
    refine Ra.words (fun a => ?_) (fun a ha => ?_) (fun x hx => ?_)
    · rw [hF]
      dsimp only
      split
      · exact R.ok.words _
      · exact R1.ok.words a
    · rw [hep] at ha
      have ha : a / 64 ∉ more S1.pg f m := ha
      rw [hF]
      dsimp only
      rw [if_neg (fun hc => ha ((mem_more hfr).2 (.inr ⟨by omega, by omega⟩)))]
      exact R1.ok.zero a (fun hc => ha ((mem_more hfr).2 (.inl hc)))
    · rw [hep]
      show F (64 * x.1) = (if 64 * x.1 = 64 * f + 1 then h.w else if 64 * x.1 = 64 * f then h.kind + 256 * h.n else S1.wd (64 * x.1)) ∧ F (64 * x.1 + 1) = (if 64 * x.1 + 1 = 64 * f + 1 then h.w else if 64 * x.1 + 1 = 64 * f then h.kind + 256 * h.n else S1.wd (64 * x.1 + 1))
      rw [hF]
      dsimp only
      rcases (mem_insE (R1.fresh_page (by omega) hfr)).1 hx with rfl | hx
      · dsimp only
        rw [if_pos (by omega), if_neg (by omega), if_pos rfl, if_pos (by omega), if_pos rfl, hk0, hk1]
        exact ⟨by congr 1; omega, by congr 1; omega⟩
      · have hfx := R1.free (by omega) hfr hx
        have hwx := (R1.good x hx).wide1
        rw [if_neg (by omega), if_neg (by omega), if_neg (by omega), if_neg (by omega), if_neg (by omega), if_neg (by omega)]
        exact ⟨rfl, rfl⟩
  refine ⟨hfp, _, ?_, ⟨Rf, hS1q, ⟨blks (delE H p), ?_, hA.perm⟩, fun i hi => ?_, fun b hb hbne i hi => ?_, by omega⟩, ?_⟩
  · unfold Slb.slideL
    rw [hnm, if_neg (by rw [hlow]; omega), hS1, hgr]
    dsimp only
    rw [show ((f : Nat) : Int) * 64 = ((64 * f : Nat) : Int) by omega, show ((p : Nat) : Int) * 64 = ((64 * p : Nat) : Int) by omega, show ((m : Int) * 64).toNat = m * 64 by omega, ← hS1pg, hw]
    congr 1
  · have := R.blks_del hp
    rw [blkE_big h2] at this
    exact this
  · show F (64 * f + 2 + i) = _
    rw [hF]
    dsimp only
    rw [if_pos (by omega)]
    congr 1
    omega
  · show F (b.1 + i) = _
    have hbm : b ∈ blks (delE H p) := by
      have := R.blks_del hp
      rw [blkE_big h2] at this
      rcases List.mem_cons.1 (this.mem_iff.1 hb) with h | h
      · exact absurd h hbne
      · exact h
    have hpg := (R1.blk_page hbm (a := b.1 + i) (by omega)).1
    have hpg' := hpg
    rw [hS1pg] at hpg'
    have hno := (mem_less.1 hpg').2
    rw [hF]
    dsimp only
    rw [if_neg ?_, hS1w, if_neg hno]
    rcases freeB_iff.1 hfr _ hpg with h | h <;> omega
  · show more S1.pg f m = _
    rw [hS1pg, hm]
end Slb
end Go.Proofs.YtfmkiioahnphbaaDoor

namespace Go.Proofs.YtfmkiioahnphbaaDoor
open Go

namespace Slb
variable {S : Slb} {H : List Ent}

/-- How the entries stand behind Slide. -/
inductive SlideWay (S S' : Slb) (H H' : List Ent) (a to : Nat) : Prop
  | stay (p : Nat) (h : Hd) (ent : (p, h) ∈ H) (r : Nat) (blk : (a, r) ∈ blkE (p, h)) (e : H' = H) (es : S' = S) (ea : to = a)
      (why : (h.kind = 2 ∧ least (less S.pg p h.wide) h.wide = p) ∨ (h.kind = 1 ∧ ∀ a' p' N' k', Open H h.n.toNat a' p' N' k' → a < a'))
  | small (c q N m p N1 j : Nat) (hc : c < 8) (o : Open H c to q N m) (least : ∀ a' p' N' k', Open H c a' p' N' k' → to ≤ a')
      (ent : (p, ⟨1, (c : Nat), (N1 : Nat)⟩) ∈ updE H q ⟨1, (c : Nat), (Bt.set N m : Nat)⟩) (hj : j < 62 / csz c) (hb : N1.testBit j = true) (ad : a = 64 * p + 2 + j * csz c)
      (old : ∃ N0 : Nat, (p, ⟨1, (c : Nat), (N0 : Nat)⟩) ∈ H ∧ N0.testBit j = true) (lt : to < a)
      (e : H' = if Bt.clear N1 j = 0 then delE (updE H q ⟨1, (c : Nat), (Bt.set N m : Nat)⟩) p else updE (updE H q ⟨1, (c : Nat), (Bt.set N m : Nat)⟩) p ⟨1, (c : Nat), (Bt.clear N1 j : Nat)⟩)
      (pg : S'.pg = if Bt.clear N1 j = 0 then less S.pg p 1 else S.pg)
  | large (p f : Nat) (h : Hd) (ent : (p, h) ∈ H) (k : h.kind = 2) (hf : least (less S.pg p h.wide) h.wide = f) (lt : f < p) (ha : a = 64 * p + 2) (ht : to = 64 * f + 2)
      (e : H' = insE (delE H p) (f, h)) (pg : S'.pg = more (less S.pg p h.wide) f h.wide)

theorem Rep.slid_refl (R : Rep S H) {b : Nat × Nat} (hb : b ∈ blks H) : Slid S S H H b.1 b.1 b.2 := by
  obtain ⟨A, B, e⟩ := List.append_of_mem hb
  refine ⟨R, rfl, ⟨A ++ B, ?_, ?_⟩, fun _ _ => rfl, fun _ _ _ _ _ => rfl, Nat.le_refl _⟩ <;> (rw [e]; exact List.perm_middle)

theorem move_page {S : Slb} {to a n : Nat} (ht : ∀ i, i < n → (to + i) / 64 ∈ S.pg ∧ (to + i) / 64 < 1048576) (ha : ∀ i, i < n → (a + i) / 64 ∈ S.pg ∧ (a + i) / 64 < 1048576) (hn : 1 ≤ n) (hn2 : n ≤ 262144) :
    S.move (to : Int) (a : Int) (n : Nat) = (0, S.wds fun x => if to ≤ x ∧ x < to + n then S.wd (a + (x - to)) else S.wd x) := by
  have h1 := ht (n - 1) (by omega)
  have h2 := ha (n - 1) (by omega)
  have hb : moveBad (to : Int) (a : Int) (n : Nat) = false := by
    unfold moveBad
    rw [decide_eq_false_iff_not]
    omega
  unfold move
  rw [hb, if_neg (by decide), if_pos ?_]
  · rfl
  · rw [List.all_eq_true]
    intro k hk
    have hk := List.mem_range.1 hk
    rw [Int.toNat_natCast] at hk
    rw [Bool.and_eq_true, has_iff, has_iff]
    refine ⟨⟨by omega, ?_⟩, by omega, ?_⟩
    · rw [show (((a : Int) + (k : Int)) / 64).toNat = (a + k) / 64 by omega]; exact (ha k hk).1
    · rw [show (((to : Int) + (k : Int)) / 64).toNat = (to + k) / 64 by omega]; exact (ht k hk).1

theorem hslide_none' {a : Int} (h : S.find a = none) : S.hslide a = (0, 5, S) := by unfold hslide; rw [h]

theorem Rep.hslide (R : Rep S H) {b : Nat × Nat} (hb : b ∈ blks H) : ∃ (to : Nat) (S' : Slb) (H' : List Ent), S.hslide (b.1 : Int) = (((to : Nat) : Int), 0, S') ∧ Slid S S' H H' b.1 to b.2 ∧ SlideWay S S' H H' b.1 to := by
  obtain ⟨p, k, h, hf, B⟩ := R.find_blk hb
  have g := R.good _ B.ent
  have gw := g.w64
  dsimp only at g gw
  obtain ⟨a, r⟩ := b
  dsimp only at B hf ⊢
  unfold Slb.hslide
  rw [hf]
  dsimp only
  rcases B.what with ⟨h1, _, h3, h4⟩ | ⟨h1, h2, j, rfl, h4, h5, h6⟩
  · rw [if_pos h1]
    by_cases hl : least (less S.pg p h.wide) h.wide = p
    · have hlow := R.low_eq B.ent rfl
      have gb := g.big h1
      rw [hl, gb.1] at hlow
      have e : S.slideL p h.n = ((p : Int) * 64 + 2, S) := if_pos hlow
      rw [e]
      dsimp only
      exact ⟨a, S, H, by congr 1; omega, R.slid_refl hb, .stay p h B.ent r B.blk rfl rfl rfl (.inl ⟨h1, hl⟩)⟩
    · obtain ⟨hlt, S', e, hS, hpg⟩ := R.slideL B.ent h1 rfl hl
      rw [e]
      dsimp only
      refine ⟨_, S', _, rfl, ?_, .large p _ h B.ent h1 rfl hlt h3 rfl rfl hpg⟩
      rw [h3, h4]
      exact hS
  · rw [if_neg (by omega)]
    obtain ⟨kd, n, ww⟩ := h
    dsimp only at h1 h2 h4 h5 h6 gw ⊢
    subst h1
    have hs := g.small (by show (1 : Int) ≠ 2; omega)
    dsimp only at hs
    obtain ⟨c, rfl⟩ : ∃ c : Nat, n = c := ⟨n.toNat, by omega⟩
    obtain ⟨N0, rfl⟩ : ∃ N0 : Nat, ww = N0 := ⟨ww.toNat, by omega⟩
    have hc : c < 8 := by omega
    have hr := csz_range hc
    rw [Int.toNat_natCast] at h2 h4 h5 h6
    cases hsp : S.spot (c : Nat) with
    | none =>
      dsimp only
      have hno := R.spot_none hc hsp
      exact ⟨a, S, H, rfl, R.slid_refl hb, .stay p _ B.ent r B.blk rfl rfl rfl (.inr ⟨rfl, fun a' p' N' k' O => by dsimp only at O; rw [Int.toNat_natCast] at O; exact absurd O (hno _ _ _ _)⟩)⟩
    | some qm =>
      obtain ⟨q, mi⟩ := qm
      obtain ⟨m, N, to, rfl, O, hleast⟩ := R.spot_some hc hsp
      have hpl := hplace_in (p := q) hc O.lt
      rw [← O.addr] at hpl
      dsimp only
      rw [hpl]
      have hne : to ≠ a := fun e => by
        -- a free slot is no block's
        have hin := slot_in hc O.lt
        have hin2 := slot_in hc h4
        have hpq : p = q := by have := O.addr; omega
        subst hpq
        have := R.uniq B.ent O.ent rfl
        simp only [Prod.mk.injEq, Hd.mk.injEq, true_and] at this
        have hN : N0 = N := by omega
        subst hN
        have hjm : j * csz c = m * csz c := by have := O.addr; omega
        have : j = m := Nat.eq_of_mul_eq_mul_right (by omega) hjm
        subst this
        exact Bool.noConfusion (h5.symm.trans O.bit)
      by_cases hlt : (a : Int) < (to : Int)
      · rw [if_pos hlt]
        exact ⟨a, S, H, rfl, R.slid_refl hb, .stay p _ B.ent r B.blk rfl rfl rfl (.inr ⟨rfl, fun a' p' N' k' O' => by dsimp only at O'; rw [Int.toNat_natCast] at O'; have := hleast _ _ _ _ O'; omega⟩)⟩
      · rw [if_neg hlt]
        obtain ⟨S1, e1, hA, hpg1⟩ := R.take O.ent (by rw [Int.toNat_natCast]; exact O.lt) O.bit
        rw [Int.toNat_natCast, ← O.addr] at e1 hA
        rw [e1, csize_in (by omega) (by omega), Int.toNat_natCast]
        dsimp only
        -- the entry that is left
        obtain ⟨N1, hent1, hb1⟩ : ∃ N1 : Nat, (p, ⟨1, (c : Nat), (N1 : Nat)⟩) ∈ updE H q ⟨1, (c : Nat), (Bt.set N m : Nat)⟩ ∧ N1.testBit j = true := by
          by_cases hpq : p = q
          · subst hpq
            have := R.uniq B.ent O.ent rfl
            simp only [Prod.mk.injEq, Hd.mk.injEq, true_and] at this
            have hN : N0 = N := by omega
            subst hN
            refine ⟨_, (mem_updE O.ent).2 (.inl rfl), ?_⟩
            rw [Bt.set_testBit m (by have := O.lt; omega), h5]
            rfl
          · exact ⟨N0, (mem_updE O.ent).2 (.inr ⟨B.ent, hpq⟩), h5⟩
        have hto : (to, csz c) ∈ blks (updE H q ⟨1, (c : Nat), (Bt.set N m : Nat)⟩) := hA.perm.mem_iff.2 (by simp)
        have hab : (a, csz c) ∈ blks (updE H q ⟨1, (c : Nat), (Bt.set N m : Nat)⟩) := hA.perm.mem_iff.2 (by rw [← h2]; simp [hb])
        have R1 := hA.rep
        have hmv := move_page (S := S1) (to := to) (a := a) (n := csz c) (fun i hi => by have := R1.blk_page hto (a := to + i) (by dsimp only; omega); exact ⟨this.1, this.2.1⟩) (fun i hi => by have := R1.blk_page hab (a := a + i) (by dsimp only; omega); exact ⟨this.1, this.2.1⟩) (by omega) (by omega)
        rw [hmv]
        dsimp only
        obtain ⟨F, hF⟩ : ∃ F : Nat → Int, (fun x => if to ≤ x ∧ x < to + csz c then S1.wd (a + (x - to)) else S1.wd x) = F := ⟨_, rfl⟩
        rw [hF]
        have R2 : Rep (S1.wds F) (updE H q ⟨1, (c : Nat), (Bt.set N m : Nat)⟩) := R1.wordsB hto (fun x => by rw [← hF]; dsimp only; split <;> exact R1.ok.words _) (fun x hx => by rw [← hF]; exact if_neg hx)
        obtain ⟨hL, hLpg, hone⟩ := R2.leave hent1 (by rw [Int.toNat_natCast]; exact h4) hb1
        rw [Int.toNat_natCast, ← h6] at hL
        refine ⟨to, _, _, rfl, ⟨hL.rep, hL.quota.trans hA.quota, ?_, fun i hi => ?_, fun b hb' hbne i hi => ?_, by omega⟩, .small c q N m p N1 j hc O hleast hent1 h4 hb1 h6 ⟨N0, B.ent, h5⟩ (by omega) rfl ?_⟩
        · -- the blocks
          obtain ⟨A, C, e⟩ := List.append_of_mem hb
          have p1 : (blks H).Perm ((a, r) :: (A ++ C)) := by rw [e]; exact List.perm_middle
          refine ⟨A ++ C, p1, ?_⟩
          have p2 : ((a, csz c) :: blks _).Perm ((to, csz c) :: (a, r) :: (A ++ C)) := hL.perm.symm.trans (hA.perm.trans (p1.cons _))
          rw [← h2] at p2
          exact (p2.trans (List.Perm.swap _ _ _)).cons_inv
        · rw [h2] at hi
          have hbm : (to, csz c) ∈ blks (if Bt.clear N1 j = 0 then delE (updE H q ⟨1, (c : Nat), (Bt.set N m : Nat)⟩) p else updE (updE H q ⟨1, (c : Nat), (Bt.set N m : Nat)⟩) p ⟨1, (c : Nat), (Bt.clear N1 j : Nat)⟩) := by
            rcases List.mem_cons.1 (hL.perm.mem_iff.1 hto) with h | h
            · exact absurd (congrArg Prod.fst h) hne
            · exact h
          rw [hL.same _ hbm i hi]
          show F (to + i) = _
          rw [← hF]
          dsimp only
          rw [if_pos (by omega), Nat.add_sub_cancel_left]
          exact hA.same _ hb i (by rw [h2]; exact hi)
        · have hb1m : b ∈ blks (updE H q ⟨1, (c : Nat), (Bt.set N m : Nat)⟩) := hA.perm.mem_iff.2 (by simp [hb'])
          have hbm : b ∈ blks (if Bt.clear N1 j = 0 then delE (updE H q ⟨1, (c : Nat), (Bt.set N m : Nat)⟩) p else updE (updE H q ⟨1, (c : Nat), (Bt.set N m : Nat)⟩) p ⟨1, (c : Nat), (Bt.clear N1 j : Nat)⟩) := by
            rcases List.mem_cons.1 (hL.perm.mem_iff.1 hb1m) with h | h
            · exact absurd (by rw [h, h2]) hbne
            · exact h
          rw [hL.same _ hbm i hi]
          show F (b.1 + i) = _
          rw [← hF]
          dsimp only
          rw [if_neg (fun hc => ?_)]
          · exact hA.same _ hb' i hi
          · have := R1.apart hto hb1m (a := b.1 + i) (by dsimp only; omega) (by omega)
            have hnd := hA.perm.nodup_iff.1 (nodup_blks R1)
            rw [List.nodup_cons] at hnd
            exact hnd.1 (this ▸ hb')
        · rw [hLpg]
          show (if _ then less S1.pg p 1 else S1.pg) = _
          rw [hpg1]

/-! Audit. -/
/-- May a large block's head be? -/
def fineB (S : Slb) (p : Nat) (h : Hd) : Bool :=
  decide (h.w ≤ 4000) && !(cof h.w).2.1 && decide ((cof h.w).2.2 = 0) && decide ((cpages h.w).1 = h.n) && (List.range (cpages h.w).1.toNat).all fun k => S.has ((p : Int) + (k : Int))
def okB (S : Slb) (x : Ent) : Bool :=
  if x.2.kind = 1 then decide ((cslots x.2.n).2 = 0) && !decide (x.2.w = 0) && decide (x.2.w.toNat &&& (18446744073709551615 - Bt.full (cslots x.2.n).1) = 0)
  else decide (x.2.kind = 2) && S.fineB x.1 x.2
/-- How many pages the entries have. -/
def pgsum : List Ent → Int
  | [] => 0
  | x :: L => (if x.2.kind = 2 then x.2.n else 1) + pgsum L
theorem pgsum_append (A B : List Ent) : pgsum (A ++ B) = pgsum A + pgsum B := by
  induction A with
  | nil => simp [pgsum]
  | cons x A ih => simp only [List.cons_append, pgsum, ih]; omega
def audit (S : Slb) : Int := if S.heads.all S.okB && decide (pgsum S.heads = S.pg.length) then 0 else 8
end Slb
end Go.Proofs.YtfmkiioahnphbaaDoor
