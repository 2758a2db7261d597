/- The plain law of package heap: where none of a class moves few slots are free; what may move behind a slide. No program stands here. No condition. -/
import Derived.Test.YtpcomekikeoliaaDoorSpareSpec
set_option linter.unusedVariables false
set_option linter.unusedSimpArgs false
set_option maxRecDepth 100000
namespace Go.Proofs.YtpcomekikeoliaaDoor
open Go

theorem Slb.blkE_some {x : Ent} (g : x.2.Good) : ∃ b, b ∈ blkE x := by
  by_cases h2 : x.2.kind = 2
  · rw [blkE_big h2]; exact ⟨_, List.mem_singleton.2 rfl⟩
  · have gs := g.small h2
    obtain ⟨i, hi⟩ := Nat.exists_testBit_of_ne_zero (x := x.2.w.toNat) (by omega)
    by_cases hlt : i < 62 / csz x.2.n.toNat
    · exact ⟨_, (mem_small gs.1).2 ⟨i, hlt, hi, rfl⟩⟩
    · rw [Nat.testBit_lt_two_pow (Nat.lt_of_lt_of_le (show x.2.w.toNat < 2 ^ (62 / csz x.2.n.toNat) by omega) (Nat.pow_le_pow_right (by omega) (by omega)))] at hi
      cases hi

theorem csz_inj : ∀ a : Fin 8, ∀ b : Fin 8, csz a.val = csz b.val → a = b := by decide

namespace Slb
variable {S S' : Slb} {H H' : List Ent}

/-- An open place of a class below. -/
def OpenBelow (H : List Ent) (c a : Nat) : Prop := ∃ a' p N k, Open H c a' p N k ∧ a' < a
/-- A free run of w pages below page p, a block's own pages being free. -/
def LowRun (S : Slb) (p w : Nat) : Prop := ∃ g, g < p ∧ freeB (less S.pg p w) g w = true

theorem Open.page {c a p N k : Nat} (hc : c < 8) (O : Open H c a p N k) : a / 64 = p := by
  have := slot_in hc O.lt
  rw [O.addr]; omega
theorem cls_inj {a b : Nat} (ha : a < 8) (hb : b < 8) (h : csz a = csz b) : a = b := by
  have := congrArg Fin.val (csz_inj ⟨a, ha⟩ ⟨b, hb⟩ h)
  exact this

theorem Rep.small_ent (R : Rep S H) {b : Nat × Nat} (hb : b ∈ blks H) {c : Nat} (hc : c < 8) (he : b.2 = csz c) : ∃ p N j : Nat, (p, ⟨1, (c : Nat), (N : Nat)⟩) ∈ H ∧ j < 62 / csz c ∧ N.testBit j = true ∧ b.1 = 64 * p + 2 + j * csz c := by
  obtain ⟨x, hx, hbx⟩ := mem_blks.1 hb
  have g := R.good x hx
  have hcr := csz_range hc
  by_cases h2 : x.2.kind = 2
  · have hg := g.big h2
    rw [blkE_big h2] at hbx
    have := congrArg Prod.snd (List.mem_singleton.1 hbx)
    dsimp only at this
    omega
  · have hs := g.small h2
    obtain ⟨c', N, hc', hh, hN⟩ := R.head_small hx hs.1
    obtain ⟨p, h⟩ := x
    dsimp only at hh
    subst hh
    obtain ⟨j, hj, hbit, e⟩ := (mem_small hs.1).1 hbx
    simp only [Int.toNat_natCast] at hj hbit e
    have e2 := congrArg Prod.snd e
    dsimp only at e2
    obtain rfl : c = c' := cls_inj hc hc' (by omega)
    exact ⟨p, N, j, hx, hj, hbit, congrArg Prod.fst e⟩
theorem Rep.large_ent (R : Rep S H) {b : Nat × Nat} (hb : b ∈ blks H) (he : 28 < b.2) : ∃ (p : Nat) (h : Hd), (p, h) ∈ H ∧ h.kind = 2 ∧ b = (64 * p + 2, h.w.toNat) := by
  obtain ⟨⟨p, h⟩, hx, hbx⟩ := mem_blks.1 hb
  have g := R.good _ hx
  by_cases h2 : h.kind = 2
  · rw [blkE_big (x := (p, h)) h2] at hbx
    exact ⟨p, h, hx, h2, List.mem_singleton.1 hbx⟩
  · have hs := g.small h2
    dsimp only at hs
    obtain ⟨j, hj, hbit, e⟩ := (mem_small (x := (p, h)) hs.1).1 hbx
    have := csz_range (show h.n.toNat < 8 by omega)
    have e2 := congrArg Prod.snd e
    dsimp only at e2
    omega

theorem Rep.moves_small (R : Rep S H) {b : Nat × Nat} (hb : b ∈ blks H) {c : Nat} (hc : c < 8) (he : b.2 = csz c) : (S.hslide (b.1 : Int)).1 ≠ (b.1 : Int) ↔ OpenBelow H c b.1 := by
  obtain ⟨to, S', H', e, _, W⟩ := R.hslide hb
  have hcr := csz_range hc
  rw [e]
  dsimp only
  cases W with
  | stay p h ent r blk _ _ ea why =>
    have hb2 := R.blk_uniq hb (mem_blks.2 ⟨_, ent, blk⟩) rfl
    rw [ea]
    refine ⟨fun h => absurd rfl h, ?_⟩
    rintro ⟨a', p', N', k', O, hlt⟩
    rcases why with ⟨h2, _⟩ | ⟨h1, hall⟩
    · have hg := (R.good _ ent).big h2
      rw [blkE_big (x := (p, h)) h2] at blk
      have := congrArg Prod.snd (List.mem_singleton.1 blk)
      have e3 := congrArg Prod.snd hb2
      dsimp only at this e3 hg
      omega
    · have hs := (R.good _ ent).small (by dsimp only; omega)
      dsimp only at hs
      obtain ⟨j, hj, hbit, e2⟩ := (mem_small (x := (p, h)) hs.1).1 blk
      have e3 := congrArg Prod.snd hb2
      have e4 := congrArg Prod.snd e2
      dsimp only at e3 e4
      have : c = h.n.toNat := cls_inj hc (by omega) (by omega)
      rw [this] at O
      have := hall _ _ _ _ O
      omega
  | small c' q N m p N1 j hc' o least ent hj hbit ad old lt =>
    obtain ⟨N0, hN0, hb0⟩ := old
    have hm : (b.1, csz c') ∈ blks H := mem_blks.2 ⟨_, hN0, (mem_small (x := (p, ⟨1, (c' : Nat), (N0 : Nat)⟩)) rfl).2 ⟨j, by simpa using hj, by simpa using hb0, by simp [ad]⟩⟩
    have hb2 := R.blk_uniq hb hm rfl
    have e3 := congrArg Prod.snd hb2
    dsimp only at e3
    obtain rfl : c = c' := cls_inj hc hc' (by omega)
    exact ⟨fun _ => ⟨_, _, _, _, o, lt⟩, fun _ => by omega⟩
  | large p f h ent k hf lt ha ht =>
    have hg := (R.good _ ent).big k
    have hm : (b.1, h.w.toNat) ∈ blks H := mem_blks.2 ⟨_, ent, by rw [blkE_big (x := (p, h)) k, ha]; simp⟩
    have e3 := congrArg Prod.snd (R.blk_uniq hb hm rfl)
    dsimp only at e3 hg
    omega

theorem own_free {pg : List Nat} {p w : Nat} : freeB (less pg p w) p w = true := freeB_iff.2 fun k hk => by
  have := (mem_less.1 hk).2
  omega
theorem Rep.moves_large (R : Rep S H) {p : Nat} {h : Hd} (hp : (p, h) ∈ H) (h2 : h.kind = 2) : (S.hslide ((64 * p + 2 : Nat) : Int)).1 ≠ ((64 * p + 2 : Nat) : Int) ↔ LowRun S p h.wide := by
  have hg := (R.good _ hp).big h2
  have w1 := (R.good _ hp).wide1
  dsimp only at hg w1
  have hb : (64 * p + 2, h.w.toNat) ∈ blks H := mem_blks.2 ⟨_, hp, by rw [blkE_big (x := (p, h)) h2]; simp⟩
  obtain ⟨to, S', H', e, _, W⟩ := R.hslide hb
  rw [e]
  dsimp only
  cases W with
  | stay p' h' ent r blk _ _ ea why =>
    have e3 := R.blk_uniq hb (mem_blks.2 ⟨_, ent, blk⟩) rfl
    rcases why with ⟨h2', hl⟩ | ⟨h1, _⟩
    · rw [blkE_big (x := (p', h')) h2'] at blk
      have := List.mem_singleton.1 blk
      have e4 := congrArg Prod.fst this
      dsimp only at e4
      obtain rfl : p' = p := by omega
      have := R.uniq ent hp rfl
      simp only [Prod.mk.injEq, true_and] at this
      subst this
      rw [ea]
      refine ⟨fun h => absurd rfl h, ?_⟩
      rintro ⟨g, hg1, hg2⟩
      rw [← hl] at hg1
      have := (least_spec (less S.pg p' h'.wide) h'.wide w1.1).2.2 g hg1
      rw [hg2] at this
      cases this
    · have hs := (R.good _ ent).small (by dsimp only; omega)
      obtain ⟨j, hj, hbit, e2⟩ := (mem_small (x := (p', h')) hs.1).1 blk
      dsimp only at hs
      have := csz_range (show h'.n.toNat < 8 by omega)
      have e4 := congrArg Prod.snd e2
      have e5 := congrArg Prod.snd e3
      dsimp only at e4 e5
      omega
  | small c' q N m p' N1 j hc' o least ent hj hbit ad old lt =>
    obtain ⟨N0, hN0, hb0⟩ := old
    have hm : (64 * p + 2, csz c') ∈ blks H := mem_blks.2 ⟨_, hN0, (mem_small (x := (p', ⟨1, (c' : Nat), (N0 : Nat)⟩)) rfl).2 ⟨j, by simpa using hj, by simpa using hb0, by simp only [Int.toNat_natCast, Prod.mk.injEq, and_true]; exact ad⟩⟩
    have e3 := congrArg Prod.snd (R.blk_uniq hb hm rfl)
    have := csz_range hc'
    dsimp only at e3
    omega
  | large p' f h' ent k hf lt ha ht =>
    obtain rfl : p' = p := by omega
    have := R.uniq ent hp rfl
    simp only [Prod.mk.injEq, true_and] at this
    subst this
    refine ⟨fun _ => ⟨f, lt, ?_⟩, fun _ => by omega⟩
    rw [← hf]
    exact (least_spec (less S.pg p' h'.wide) h'.wide w1.1).2.1

/-- What is open behind a small slide. -/
theorem open_small (R : Rep S H) {c to q N m p N1 j a : Nat} (hc : c < 8) (o : Open H c to q N m)
    (ent : (p, ⟨1, (c : Nat), (N1 : Nat)⟩) ∈ updE H q ⟨1, (c : Nat), (Bt.set N m : Nat)⟩) (hj : j < 62 / csz c) (ad : a = 64 * p + 2 + j * csz c) (hN1 : N1 < 18446744073709551616)
    (e : H' = if Bt.clear N1 j = 0 then delE (updE H q ⟨1, (c : Nat), (Bt.set N m : Nat)⟩) p else updE (updE H q ⟨1, (c : Nat), (Bt.set N m : Nat)⟩) p ⟨1, (c : Nat), (Bt.clear N1 j : Nat)⟩)
    {d a' p' N' k' : Nat} (O : Open H' d a' p' N' k') : (d = c ∧ a' = a) ∨ ((∃ N'', Open H d a' p' N'' k') ∧ ¬ (d = c ∧ a' = to)) := by
  have hcr := csz_range hc
  have key : ∀ N2, Open (updE H q ⟨1, (c : Nat), (Bt.set N m : Nat)⟩) d a' p' N2 k' → (∃ N'', Open H d a' p' N'' k') ∧ ¬ (d = c ∧ a' = to) := fun N2 O => by
    rcases (mem_updE o.ent).1 O.ent with h1 | ⟨h1, h2⟩
    · simp only [Prod.mk.injEq, Hd.mk.injEq, true_and, Int.natCast_inj] at h1
      obtain ⟨rfl, rfl, rfl⟩ := h1
      have hb := O.bit
      rw [Bt.set_testBit m (by have := o.lt; omega) k'] at hb
      have hb2 : N.testBit k' = false := (Bool.or_eq_false_iff.1 hb).1
      have hk : k' ≠ m := fun e => by subst e; simp at hb
      refine ⟨⟨N, o.ent, O.lt, hb2, O.addr⟩, fun h => hk ?_⟩
      have h4 := h.2
      rw [o.addr, O.addr] at h4
      have h5 : k' * csz d = m * csz d := by omega
      exact Nat.eq_of_mul_eq_mul_right (by omega) h5
    · refine ⟨⟨N2, h1, O.lt, O.bit, O.addr⟩, ?_⟩
      rintro ⟨rfl, rfl⟩
      have e1 := o.page hc
      have e2 := (Open.mk h1 O.lt O.bit O.addr : Open H d a' p' N2 k').page hc
      exact h2 (by show p' = q; rw [← e1, ← e2])
  rw [e] at O
  split at O
  · exact .inr (key N' ⟨(mem_delE.1 O.ent).1, O.lt, O.bit, O.addr⟩)
  · rcases (mem_updE ent).1 O.ent with h1 | ⟨h1, h2⟩
    · simp only [Prod.mk.injEq, Hd.mk.injEq, true_and, Int.natCast_inj] at h1
      obtain ⟨rfl, rfl, rfl⟩ := h1
      have hb := O.bit
      rw [Bt.clear_testBit j (by omega) k' hN1] at hb
      by_cases hk : k' = j
      · subst hk
        exact .inl ⟨rfl, by rw [O.addr, ad]⟩
      · have hb2 : N1.testBit k' = false := by simpa [hk] using hb
        exact .inr (key N1 ⟨ent, O.lt, hb2, O.addr⟩)
    · exact .inr (key N' ⟨h1, O.lt, O.bit, O.addr⟩)
theorem updE_lt (R : Rep S H) {c q N m p N1 : Nat} (hc : c < 8) (o : (q, (⟨1, (c : Nat), (N : Nat)⟩ : Hd)) ∈ H) (hm : m < 62 / csz c) (ent : (p, (⟨1, (c : Nat), (N1 : Nat)⟩ : Hd)) ∈ updE H q ⟨1, (c : Nat), (Bt.set N m : Nat)⟩) : N1 < 18446744073709551616 := by
  have hw := (R.good _ o).w64
  dsimp only at hw
  rcases (mem_updE o).1 ent with h1 | ⟨h1, _⟩
  · simp only [Prod.mk.injEq, Hd.mk.injEq, true_and, Int.natCast_inj] at h1
    rw [h1.2]
    exact Bt.set_lt (by omega) _
  · have := (R.good _ h1).w64
    dsimp only at this
    omega
theorem Rep.large_ne (R : Rep S H) {p f : Nat} {h : Hd} (ent : (p, h) ∈ H) (hf : least (less S.pg p h.wide) h.wide = f) : ∀ x ∈ delE H p, x.1 ≠ f := fun x hx e => by
  have w1 := (R.good _ ent).wide1
  have hfr := (least_spec (less S.pg p h.wide) h.wide w1.1).2.1
  rw [hf] at hfr
  have hx := mem_delE.1 hx
  have hxw := (R.good x hx.1).wide1
  have hin : f ∈ less S.pg p h.wide := mem_less.2 ⟨by rw [← e]; exact R.page hx.1, fun hc => hx.2 (by rw [R.inj hx.1 ent (k := f) ⟨by omega, by omega⟩ hc])⟩
  have := freeB_iff.1 hfr f hin
  dsimp only at w1
  omega
theorem open_large (R : Rep S H) {p f : Nat} {h : Hd} (ent : (p, h) ∈ H) (k : h.kind = 2) (hf : least (less S.pg p h.wide) h.wide = f) {d a' p' N' k' : Nat} (O : Open (insE (delE H p) (f, h)) d a' p' N' k') : Open H d a' p' N' k' := by
  rcases (mem_insE (R.large_ne ent hf)).1 O.ent with h1 | h1
  · simp only [Prod.mk.injEq] at h1
    rw [← h1.2] at k
    cases k
  · exact ⟨(mem_delE.1 h1).1, O.lt, O.bit, O.addr⟩
/-- A large slide: what lies below stays stuck, and so is what slid. -/
theorem low_large (R : Rep S H) {p f : Nat} {h : Hd} (ent : (p, h) ∈ H) (hf : least (less S.pg p h.wide) h.wide = f) (pg : S'.pg = more (less S.pg p h.wide) f h.wide) :
    ¬ LowRun S' f h.wide ∧ ∀ q (x : Hd), (q, x) ∈ H → q < p → LowRun S' q x.wide → LowRun S q x.wide := by
  have w1 := (R.good _ ent).wide1
  dsimp only at w1
  have hsp := least_spec (less S.pg p h.wide) h.wide w1.1
  rw [hf] at hsp
  have hm : ∀ k, k ∈ S'.pg ↔ k ∈ less S.pg p h.wide ∨ f ≤ k ∧ k < f + h.wide := fun k => by rw [pg]; exact mem_more hsp.2.1
  constructor
  · rintro ⟨g, hg, hfr⟩
    have : freeB (less S.pg p h.wide) g h.wide = true := freeB_iff.2 fun k hk => by
      refine freeB_iff.1 hfr k (mem_less.2 ⟨(hm k).2 (.inl hk), fun hc => ?_⟩)
      have := freeB_iff.1 hsp.2.1 k hk
      omega
    rw [hsp.2.2 g hg] at this
    cases this
  · rintro q x hq hlt ⟨g, hg, hfr⟩
    refine ⟨g, hg, freeB_iff.2 fun k hk => ?_⟩
    have hk := mem_less.1 hk
    by_cases hin : k ∈ S'.pg
    · exact freeB_iff.1 hfr k (mem_less.2 ⟨hin, hk.2⟩)
    · have h1 : p ≤ k ∧ k < p + h.wide := Classical.byContradiction fun hc => hin ((hm k).2 (.inl (mem_less.2 ⟨hk.1, hc⟩)))
      have h2 : q + x.wide ≤ p := by
        have hxw := (R.good _ hq).wide1
        dsimp only at hxw
        refine Nat.le_of_not_lt fun hc => ?_
        have := R.inj hq ent (k := p) ⟨by dsimp only; omega, by dsimp only; omega⟩ ⟨Nat.le_refl _, by dsimp only; omega⟩
        simp only [Prod.mk.injEq] at this
        omega
      omega

theorem cnt_pos {N : Nat} : ∀ {n j : Nat}, j < n → N.testBit j = true → 1 ≤ Bt.cnt N n
  | n + 1, j, hj, hb => by
    have e : Bt.cnt N (n + 1) = Bt.cnt N n + (if N.testBit n then 1 else 0) := rfl
    rw [e]
    by_cases h : j = n
    · subst h; rw [if_pos hb]; omega
    · have := cnt_pos (N := N) (show j < n by omega) hb
      omega
/-- Where no block of a class goes, fewer slots are free than a page has. -/
theorem Rep.spare_low (R : Rep S H) {c : Nat} (hc : c < 8) (hrest : ∀ b ∈ blks H, b.2 = csz c → ¬ OpenBelow H c b.1) : S.spare c < ((62 / csz c : Nat) : Int) := by
  have hcr := csz_range hc
  have hcl : Bt.cl ((62 / csz c : Nat) : Int) = 62 / csz c := by unfold Bt.cl; omega
  rw [R.spare_eq hc]
  have key : ∀ L : List Ent, (∀ x ∈ L, x ∈ H) → L.Pairwise (fun x y => x.1 + x.2.wide ≤ y.1) → spareL (c : Int) L < ((62 / csz c : Nat) : Int) := by
    intro L
    induction L with
    | nil => intro _ _; show (0 : Int) < _; omega
    | cons x L ih =>
      intro hL ho
      have ho' := List.pairwise_cons.1 ho
      have ih := ih (fun y hy => hL y (List.mem_cons_of_mem _ hy)) ho'.2
      have hx := hL x (by simp)
      show spareF (c : Int) x + spareL (c : Int) L < _
      by_cases hk : x.2.kind = 1 ∧ x.2.n = (c : Int)
      · obtain ⟨c', N, hc', hh, hN⟩ := R.head_small hx hk.1
        obtain ⟨p, h⟩ := x
        dsimp only at hh hk
        subst hh
        obtain rfl : c' = c := by have := hk.2; dsimp only at this; omega
        have hsp : spareF (c' : Int) (p, ⟨1, (c' : Nat), (N : Nat)⟩) = ((62 / csz c' : Nat) : Int) - (Bt.cnt N (62 / csz c') : Int) := by
          unfold spareF
          rw [if_pos ⟨rfl, rfl⟩, cslots_in (by omega) (by omega), Bt.count_eq]
          simp only [Int.toNat_natCast]
          rw [hcl]
        obtain ⟨b, hb⟩ := Slb.blkE_some (R.good _ hx)
        obtain ⟨j, hj, hbit, _⟩ := (mem_small (x := (p, ⟨1, (c' : Nat), (N : Nat)⟩)) rfl).1 hb
        simp only [Int.toNat_natCast] at hj hbit
        have h1 := cnt_pos hj hbit
        rw [hsp]
        by_cases hfull : Bt.cnt N (62 / csz c') = 62 / csz c'
        · omega
        · have hle := Bt.cnt_le N (62 / csz c')
          obtain ⟨i, hi, hib⟩ := (cnt_lt N (62 / csz c')).1 (by omega)
          have O : Open H c' (64 * p + 2 + i * csz c') p N i := ⟨hx, hi, hib, rfl⟩
          have hin := slot_in hc hi
          have hz : ∀ y ∈ L, spareF (c' : Int) y = 0 := fun y hy => by
            unfold spareF
            rw [if_neg]
            rintro ⟨y1, y2⟩
            have hyH := hL y (List.mem_cons_of_mem _ hy)
            obtain ⟨b2, hb2⟩ := Slb.blkE_some (R.good _ hyH)
            have hyp := ho'.1 y hy
            have hxw := (R.good _ hx).wide1
            have hin2 := blkE_in (R.good _ hyH) hb2
            obtain ⟨j2, _, _, e2⟩ := (mem_small y1).1 hb2
            rw [y2, Int.toNat_natCast] at e2
            refine hrest b2 (mem_blks.2 ⟨y, hyH, hb2⟩) (congrArg Prod.snd e2) ⟨_, _, _, _, O, ?_⟩
            dsimp only at hyp hxw
            omega
          have hL0 : ∀ M : List Ent, (∀ y ∈ M, spareF (c' : Int) y = 0) → spareL (c' : Int) M = 0 := by
            intro M
            induction M with
            | nil => intro _; rfl
            | cons y M ihM =>
              intro hM
              show spareF (c' : Int) y + spareL (c' : Int) M = 0
              rw [hM y (by simp), ihM (fun z hz => hM z (List.mem_cons_of_mem _ hz))]
              rfl
          rw [hL0 L hz]
          omega
      · have : spareF (c : Int) x = 0 := if_neg hk
        omega
  exact key H (fun x hx => hx) R.ord
end Slb

end Go.Proofs.YtpcomekikeoliaaDoor
