/- The plain law of CompactEnds: there are no more steps than records; where all rest, each class has fewer free slots than a page has. No program stands here. No condition. -/
import Derived.Test.YtmdnofojecncgaaGreatDoorAmidSpec
import Derived.Test.YtmdnofojecncgaaGreatDoorUniform
set_option linter.unusedVariables false
set_option linter.unusedSimpArgs false
set_option maxRecDepth 100000
namespace Go.Proofs.YtmdnofojecncgaaGreatDoor
open Go

namespace Slb
variable {S S' : Slb} {H H' : List Ent}

/-- An open place of a class below. -/
def OpenBelow (H : List Ent) (c a : Nat) : Prop := ∃ a' p N k, Open H c a' p N k ∧ a' < a
/-- A free run of w pages below page p, a block's own pages being free. -/
def LowRun (S : Slb) (p w : Nat) : Prop := ∃ g, g < p ∧ freeB (less S.pg p w) g w = true

theorem cls_inj {a b : Nat} (ha : a < 8) (hb : b < 8) (h : csz a = csz b) : a = b := by
  have := congrArg Fin.val (csz_inj ⟨a, ha⟩ ⟨b, hb⟩ h)
  exact this

theorem Rep.small_ent (R : Rep S H) {b : Nat × Nat} (hb : b ∈ blks H) {c : Nat} (hc : c < 8) (he : b.2 = csz c) : ∃ p N j : Nat, (p, ⟨1, (c : Nat), (N : Nat)⟩) ∈ H ∧ j < 62 / csz c ∧ N.testBit j = true ∧ b.1 = 64 * p + 2 + j * csz c := by
  obtain ⟨x, hx, hbx⟩ := mem_blks.1 hb
  have g := R.good x hx
  have hcr := csz_range hc
  by_cases h2 : x.2.kind = 2
  · have hg := g.big h2
    rw [blkE_big h2] at hbx
    have := congrArg Prod.snd (List.mem_singleton.1 hbx)
    dsimp only at this
    omega
  · have hs := g.small h2
    obtain ⟨c', N, hc', hh, hN⟩ := R.head_small hx hs.1
    obtain ⟨p, h⟩ := x
    dsimp only at hh
    subst hh
    obtain ⟨j, hj, hbit, e⟩ := (mem_small hs.1).1 hbx
    simp only [Int.toNat_natCast] at hj hbit e
    have e2 := congrArg Prod.snd e
    dsimp only at e2
    obtain rfl : c = c' := cls_inj hc hc' (by omega)
    exact ⟨p, N, j, hx, hj, hbit, congrArg Prod.fst e⟩
theorem Rep.large_ent (R : Rep S H) {b : Nat × Nat} (hb : b ∈ blks H) (he : 28 < b.2) : ∃ (p : Nat) (h : Hd), (p, h) ∈ H ∧ h.kind = 2 ∧ b = (64 * p + 2, h.w.toNat) := by
  obtain ⟨⟨p, h⟩, hx, hbx⟩ := mem_blks.1 hb
  have g := R.good _ hx
  by_cases h2 : h.kind = 2
  · rw [blkE_big (x := (p, h)) h2] at hbx
    exact ⟨p, h, hx, h2, List.mem_singleton.1 hbx⟩
  · have hs := g.small h2
    dsimp only at hs
    obtain ⟨j, hj, hbit, e⟩ := (mem_small (x := (p, h)) hs.1).1 hbx
    have := csz_range (show h.n.toNat < 8 by omega)
    have e2 := congrArg Prod.snd e
    dsimp only at e2
    omega

theorem Rep.moves_small (R : Rep S H) {b : Nat × Nat} (hb : b ∈ blks H) {c : Nat} (hc : c < 8) (he : b.2 = csz c) : (S.hslide (b.1 : Int)).1 ≠ (b.1 : Int) ↔ OpenBelow H c b.1 := by
  obtain ⟨to, S', H', e, _, W⟩ := R.hslide hb
  have hcr := csz_range hc
  rw [e]
  dsimp only
  cases W with
  | stay p h ent r blk _ _ ea why =>
    have hb2 := R.blk_uniq hb (mem_blks.2 ⟨_, ent, blk⟩) rfl
    rw [ea]
    refine ⟨fun h => absurd rfl h, ?_⟩
    rintro ⟨a', p', N', k', O, hlt⟩
    rcases why with ⟨h2, _⟩ | ⟨h1, hall⟩
    · have hg := (R.good _ ent).big h2
      rw [blkE_big (x := (p, h)) h2] at blk
      have := congrArg Prod.snd (List.mem_singleton.1 blk)
      have e3 := congrArg Prod.snd hb2
      dsimp only at this e3 hg
      omega
    · have hs := (R.good _ ent).small (by dsimp only; omega)
      dsimp only at hs
      obtain ⟨j, hj, hbit, e2⟩ := (mem_small (x := (p, h)) hs.1).1 blk
      have e3 := congrArg Prod.snd hb2
      have e4 := congrArg Prod.snd e2
      dsimp only at e3 e4
      have : c = h.n.toNat := cls_inj hc (by omega) (by omega)
      rw [this] at O
      have := hall _ _ _ _ O
      omega
  | small c' q N m p N1 j hc' o least ent hj hbit ad old lt =>
    obtain ⟨N0, hN0, hb0⟩ := old
    have hm : (b.1, csz c') ∈ blks H := mem_blks.2 ⟨_, hN0, (mem_small (x := (p, ⟨1, (c' : Nat), (N0 : Nat)⟩)) rfl).2 ⟨j, by simpa using hj, by simpa using hb0, by simp [ad]⟩⟩
    have hb2 := R.blk_uniq hb hm rfl
    have e3 := congrArg Prod.snd hb2
    dsimp only at e3
    obtain rfl : c = c' := cls_inj hc hc' (by omega)
    exact ⟨fun _ => ⟨_, _, _, _, o, lt⟩, fun _ => by omega⟩
  | large p f h ent k hf lt ha ht =>
    have hg := (R.good _ ent).big k
    have hm : (b.1, h.w.toNat) ∈ blks H := mem_blks.2 ⟨_, ent, by rw [blkE_big (x := (p, h)) k, ha]; simp⟩
    have e3 := congrArg Prod.snd (R.blk_uniq hb hm rfl)
    dsimp only at e3 hg
    omega

theorem own_free {pg : List Nat} {p w : Nat} : freeB (less pg p w) p w = true := freeB_iff.2 fun k hk => by
  have := (mem_less.1 hk).2
  omega
theorem Rep.moves_large (R : Rep S H) {p : Nat} {h : Hd} (hp : (p, h) ∈ H) (h2 : h.kind = 2) : (S.hslide ((64 * p + 2 : Nat) : Int)).1 ≠ ((64 * p + 2 : Nat) : Int) ↔ LowRun S p h.wide := by
  have hg := (R.good _ hp).big h2
  have w1 := (R.good _ hp).wide1
  dsimp only at hg w1
  have hb : (64 * p + 2, h.w.toNat) ∈ blks H := mem_blks.2 ⟨_, hp, by rw [blkE_big (x := (p, h)) h2]; simp⟩
  obtain ⟨to, S', H', e, _, W⟩ := R.hslide hb
  rw [e]
  dsimp only
  cases W with
  | stay p' h' ent r blk _ _ ea why =>
    have e3 := R.blk_uniq hb (mem_blks.2 ⟨_, ent, blk⟩) rfl
    rcases why with ⟨h2', hl⟩ | ⟨h1, _⟩
    · rw [blkE_big (x := (p', h')) h2'] at blk
      have := List.mem_singleton.1 blk
      have e4 := congrArg Prod.fst this
      dsimp only at e4
      obtain rfl : p' = p := by omega
      have := R.uniq ent hp rfl
      simp only [Prod.mk.injEq, true_and] at this
      subst this
      rw [ea]
      refine ⟨fun h => absurd rfl h, ?_⟩
      rintro ⟨g, hg1, hg2⟩
      rw [← hl] at hg1
      have := (least_spec (less S.pg p' h'.wide) h'.wide w1.1).2.2 g hg1
      rw [hg2] at this
      cases this
    · have hs := (R.good _ ent).small (by dsimp only; omega)
      obtain ⟨j, hj, hbit, e2⟩ := (mem_small (x := (p', h')) hs.1).1 blk
      dsimp only at hs
      have := csz_range (show h'.n.toNat < 8 by omega)
      have e4 := congrArg Prod.snd e2
      have e5 := congrArg Prod.snd e3
      dsimp only at e4 e5
      omega
  | small c' q N m p' N1 j hc' o least ent hj hbit ad old lt =>
    obtain ⟨N0, hN0, hb0⟩ := old
    have hm : (64 * p + 2, csz c') ∈ blks H := mem_blks.2 ⟨_, hN0, (mem_small (x := (p', ⟨1, (c' : Nat), (N0 : Nat)⟩)) rfl).2 ⟨j, by simpa using hj, by simpa using hb0, by simp only [Int.toNat_natCast, Prod.mk.injEq, and_true]; exact ad⟩⟩
    have e3 := congrArg Prod.snd (R.blk_uniq hb hm rfl)
    have := csz_range hc'
    dsimp only at e3
    omega
  | large p' f h' ent k hf lt ha ht =>
    obtain rfl : p' = p := by omega
    have := R.uniq ent hp rfl
    simp only [Prod.mk.injEq, true_and] at this
    subst this
    refine ⟨fun _ => ⟨f, lt, ?_⟩, fun _ => by omega⟩
    rw [← hf]
    exact (least_spec (less S.pg p' h'.wide) h'.wide w1.1).2.1

/-- What is open behind a small slide. -/
theorem open_small (R : Rep S H) {c to q N m p N1 j a : Nat} (hc : c < 8) (o : Open H c to q N m)
    (ent : (p, ⟨1, (c : Nat), (N1 : Nat)⟩) ∈ updE H q ⟨1, (c : Nat), (Bt.set N m : Nat)⟩) (hj : j < 62 / csz c) (ad : a = 64 * p + 2 + j * csz c) (hN1 : N1 < 18446744073709551616)
    (e : H' = if Bt.clear N1 j = 0 then delE (updE H q ⟨1, (c : Nat), (Bt.set N m : Nat)⟩) p else updE (updE H q ⟨1, (c : Nat), (Bt.set N m : Nat)⟩) p ⟨1, (c : Nat), (Bt.clear N1 j : Nat)⟩)
    {d a' p' N' k' : Nat} (O : Open H' d a' p' N' k') : (d = c ∧ a' = a) ∨ ((∃ N'', Open H d a' p' N'' k') ∧ ¬ (d = c ∧ a' = to)) := by
  have hcr := csz_range hc
  have key : ∀ N2, Open (updE H q ⟨1, (c : Nat), (Bt.set N m : Nat)⟩) d a' p' N2 k' → (∃ N'', Open H d a' p' N'' k') ∧ ¬ (d = c ∧ a' = to) := fun N2 O => by
    rcases (mem_updE o.ent).1 O.ent with h1 | ⟨h1, h2⟩
    · simp only [Prod.mk.injEq, Hd.mk.injEq, true_and, Int.natCast_inj] at h1
      obtain ⟨rfl, rfl, rfl⟩ := h1
      have hb := O.bit
      rw [Bt.set_testBit m (by have := o.lt; omega) k'] at hb
      have hb2 : N.testBit k' = false := (Bool.or_eq_false_iff.1 hb).1
      have hk : k' ≠ m := fun e => by subst e; simp at hb
      refine ⟨⟨N, o.ent, O.lt, hb2, O.addr⟩, fun h => hk ?_⟩
      have h4 := h.2
      rw [o.addr, O.addr] at h4
      have h5 : k' * csz d = m * csz d := by omega
      exact Nat.eq_of_mul_eq_mul_right (by omega) h5
    · refine ⟨⟨N2, h1, O.lt, O.bit, O.addr⟩, ?_⟩
      rintro ⟨rfl, rfl⟩
      have e1 := o.page hc
      have e2 := (Open.mk h1 O.lt O.bit O.addr : Open H d a' p' N2 k').page hc
      exact h2 (by show p' = q; rw [← e1, ← e2])
  rw [e] at O
  split at O
  · exact .inr (key N' ⟨(mem_delE.1 O.ent).1, O.lt, O.bit, O.addr⟩)
  · rcases (mem_updE ent).1 O.ent with h1 | ⟨h1, h2⟩
    · simp only [Prod.mk.injEq, Hd.mk.injEq, true_and, Int.natCast_inj] at h1
      obtain ⟨rfl, rfl, rfl⟩ := h1
      have hb := O.bit
      rw [Bt.clear_testBit j (by omega) k' hN1] at hb
      by_cases hk : k' = j
      · subst hk
        exact .inl ⟨rfl, by rw [O.addr, ad]⟩
      · have hb2 : N1.testBit k' = false := by simpa [hk] using hb
        exact .inr (key N1 ⟨ent, O.lt, hb2, O.addr⟩)
    · exact .inr (key N' ⟨h1, O.lt, O.bit, O.addr⟩)
theorem updE_lt (R : Rep S H) {c q N m p N1 : Nat} (hc : c < 8) (o : (q, (⟨1, (c : Nat), (N : Nat)⟩ : Hd)) ∈ H) (hm : m < 62 / csz c) (ent : (p, (⟨1, (c : Nat), (N1 : Nat)⟩ : Hd)) ∈ updE H q ⟨1, (c : Nat), (Bt.set N m : Nat)⟩) : N1 < 18446744073709551616 := by
  have hw := (R.good _ o).w64
  dsimp only at hw
  rcases (mem_updE o).1 ent with h1 | ⟨h1, _⟩
  · simp only [Prod.mk.injEq, Hd.mk.injEq, true_and, Int.natCast_inj] at h1
    rw [h1.2]
    exact Bt.set_lt (by omega) _
  · have := (R.good _ h1).w64
    dsimp only at this
    omega
theorem Rep.large_ne (R : Rep S H) {p f : Nat} {h : Hd} (ent : (p, h) ∈ H) (hf : least (less S.pg p h.wide) h.wide = f) : ∀ x ∈ delE H p, x.1 ≠ f := fun x hx e => by
  have w1 := (R.good _ ent).wide1
  have hfr := (least_spec (less S.pg p h.wide) h.wide w1.1).2.1
  rw [hf] at hfr
  have hx := mem_delE.1 hx
  have hxw := (R.good x hx.1).wide1
  have hin : f ∈ less S.pg p h.wide := mem_less.2 ⟨by rw [← e]; exact R.page hx.1, fun hc => hx.2 (by rw [R.inj hx.1 ent (k := f) ⟨by omega, by omega⟩ hc])⟩
  have := freeB_iff.1 hfr f hin
  dsimp only at w1
  omega
theorem open_large (R : Rep S H) {p f : Nat} {h : Hd} (ent : (p, h) ∈ H) (k : h.kind = 2) (hf : least (less S.pg p h.wide) h.wide = f) {d a' p' N' k' : Nat} (O : Open (insE (delE H p) (f, h)) d a' p' N' k') : Open H d a' p' N' k' := by
  rcases (mem_insE (R.large_ne ent hf)).1 O.ent with h1 | h1
  · simp only [Prod.mk.injEq] at h1
    rw [← h1.2] at k
    cases k
  · exact ⟨(mem_delE.1 h1).1, O.lt, O.bit, O.addr⟩
/-- A large slide: what lies below stays stuck, and so is what slid. -/
theorem low_large (R : Rep S H) {p f : Nat} {h : Hd} (ent : (p, h) ∈ H) (hf : least (less S.pg p h.wide) h.wide = f) (pg : S'.pg = more (less S.pg p h.wide) f h.wide) :
    ¬ LowRun S' f h.wide ∧ ∀ q (x : Hd), (q, x) ∈ H → q < p → LowRun S' q x.wide → LowRun S q x.wide := by
  have w1 := (R.good _ ent).wide1
  dsimp only at w1
  have hsp := least_spec (less S.pg p h.wide) h.wide w1.1
  rw [hf] at hsp
  have hm : ∀ k, k ∈ S'.pg ↔ k ∈ less S.pg p h.wide ∨ f ≤ k ∧ k < f + h.wide := fun k => by rw [pg]; exact mem_more hsp.2.1
  constructor
  · rintro ⟨g, hg, hfr⟩
    have : freeB (less S.pg p h.wide) g h.wide = true := freeB_iff.2 fun k hk => by
      refine freeB_iff.1 hfr k (mem_less.2 ⟨(hm k).2 (.inl hk), fun hc => ?_⟩)
      have := freeB_iff.1 hsp.2.1 k hk
      omega
    rw [hsp.2.2 g hg] at this
    cases this
  · rintro q x hq hlt ⟨g, hg, hfr⟩
    refine ⟨g, hg, freeB_iff.2 fun k hk => ?_⟩
    have hk := mem_less.1 hk
    by_cases hin : k ∈ S'.pg
    · exact freeB_iff.1 hfr k (mem_less.2 ⟨hin, hk.2⟩)
    · have h1 : p ≤ k ∧ k < p + h.wide := Classical.byContradiction fun hc => hin ((hm k).2 (.inl (mem_less.2 ⟨hk.1, hc⟩)))
      have h2 : q + x.wide ≤ p := by
        have hxw := (R.good _ hq).wide1
        dsimp only at hxw
        refine Nat.le_of_not_lt fun hc => ?_
        have := R.inj hq ent (k := p) ⟨by dsimp only; omega, by dsimp only; omega⟩ ⟨Nat.le_refl _, by dsimp only; omega⟩
        simp only [Prod.mk.injEq] at this
        omega
      omega

theorem cnt_pos {N : Nat} : ∀ {n j : Nat}, j < n → N.testBit j = true → 1 ≤ Bt.cnt N n
  | n + 1, j, hj, hb => by
    have e : Bt.cnt N (n + 1) = Bt.cnt N n + (if N.testBit n then 1 else 0) := rfl
    rw [e]
    by_cases h : j = n
    · subst h; rw [if_pos hb]; omega
    · have := cnt_pos (N := N) (show j < n by omega) hb
      omega
/-- Where no block of a class goes, fewer slots are free than a page has. -/
theorem Rep.spare_low (R : Rep S H) {c : Nat} (hc : c < 8) (hrest : ∀ b ∈ blks H, b.2 = csz c → ¬ OpenBelow H c b.1) : S.spare c < ((62 / csz c : Nat) : Int) := by
  have hcr := csz_range hc
  have hcl : Bt.cl ((62 / csz c : Nat) : Int) = 62 / csz c := by unfold Bt.cl; omega
  rw [R.spare_eq hc]
  have key : ∀ L : List Ent, (∀ x ∈ L, x ∈ H) → L.Pairwise (fun x y => x.1 + x.2.wide ≤ y.1) → spareL (c : Int) L < ((62 / csz c : Nat) : Int) := by
    intro L
    induction L with
    | nil => intro _ _; show (0 : Int) < _; omega
    | cons x L ih =>
      intro hL ho
      have ho' := List.pairwise_cons.1 ho
      have ih := ih (fun y hy => hL y (List.mem_cons_of_mem _ hy)) ho'.2
      have hx := hL x (by simp)
      show spareF (c : Int) x + spareL (c : Int) L < _
      by_cases hk : x.2.kind = 1 ∧ x.2.n = (c : Int)
      · obtain ⟨c', N, hc', hh, hN⟩ := R.head_small hx hk.1
        obtain ⟨p, h⟩ := x
        dsimp only at hh hk
        subst hh
        obtain rfl : c' = c := by have := hk.2; dsimp only at this; omega
        have hsp : spareF (c' : Int) (p, ⟨1, (c' : Nat), (N : Nat)⟩) = ((62 / csz c' : Nat) : Int) - (Bt.cnt N (62 / csz c') : Int) := by
          unfold spareF
          rw [if_pos ⟨rfl, rfl⟩, cslots_in (by omega) (by omega), Bt.count_eq]
          simp only [Int.toNat_natCast]
          rw [hcl]
        obtain ⟨b, hb⟩ := blkE_some (R.good _ hx)
        obtain ⟨j, hj, hbit, _⟩ := (mem_small (x := (p, ⟨1, (c' : Nat), (N : Nat)⟩)) rfl).1 hb
        simp only [Int.toNat_natCast] at hj hbit
        have h1 := cnt_pos hj hbit
        rw [hsp]
        by_cases hfull : Bt.cnt N (62 / csz c') = 62 / csz c'
        · omega
        · have hle := Bt.cnt_le N (62 / csz c')
          obtain ⟨i, hi, hib⟩ := (cnt_lt N (62 / csz c')).1 (by omega)
          have O : Open H c' (64 * p + 2 + i * csz c') p N i := ⟨hx, hi, hib, rfl⟩
          have hin := slot_in hc hi
          have hz : ∀ y ∈ L, spareF (c' : Int) y = 0 := fun y hy => by
            unfold spareF
            rw [if_neg]
            rintro ⟨y1, y2⟩
            have hyH := hL y (List.mem_cons_of_mem _ hy)
            obtain ⟨b2, hb2⟩ := blkE_some (R.good _ hyH)
            have hyp := ho'.1 y hy
            have hxw := (R.good _ hx).wide1
            have hin2 := blkE_in (R.good _ hyH) hb2
            obtain ⟨j2, _, _, e2⟩ := (mem_small y1).1 hb2
            rw [y2, Int.toNat_natCast] at e2
            refine hrest b2 (mem_blks.2 ⟨y, hyH, hb2⟩) (congrArg Prod.snd e2) ⟨_, _, _, _, O, ?_⟩
            dsimp only at hyp hxw
            omega
          have hL0 : ∀ M : List Ent, (∀ y ∈ M, spareF (c' : Int) y = 0) → spareL (c' : Int) M = 0 := by
            intro M
            induction M with
            | nil => intro _; rfl
            | cons y M ihM =>
              intro hM
              show spareF (c' : Int) y + spareL (c' : Int) M = 0
              rw [hM y (by simp), ihM (fun z hz => hM z (List.mem_cons_of_mem _ hz))]
              rfl
          rw [hL0 L hz]
          omega
      · have : spareF (c : Int) x = 0 := if_neg hk
        omega
  exact key H (fun x hx => hx) R.ord
end Slb

/-! Counting. -/
section
open Classical
/-- How many below n are so. -/
noncomputable def cntP (P : Nat → Prop) : Nat → Nat
  | 0 => 0
  | n + 1 => cntP P n + (if P n then 1 else 0)
theorem cntP_le {P Q : Nat → Prop} : ∀ {n : Nat}, (∀ i, i < n → P i → Q i) → cntP P n ≤ cntP Q n
  | 0, _ => Nat.le_refl _
  | n + 1, h => by
    have ih := cntP_le (n := n) (fun i hi => h i (by omega))
    have := h n (by omega)
    unfold cntP
    by_cases hp : P n
    · rw [if_pos hp, if_pos (this hp)]; omega
    · rw [if_neg hp]; omega
theorem cntP_lt {P Q : Nat → Prop} : ∀ {n : Nat} {j : Nat}, (∀ i, i < n → P i → Q i) → j < n → Q j → ¬ P j → cntP P n + 1 ≤ cntP Q n
  | n + 1, j, h, hj, hq, hp => by
    have := h n (by omega)
    unfold cntP
    by_cases e : j = n
    · subst e
      have ih := cntP_le (n := j) (fun i hi => h i (by omega))
      rw [if_neg hp, if_pos hq]; omega
    · have ih := cntP_lt (n := n) (fun i hi => h i (by omega)) (show j < n by omega) hq hp
      by_cases hp : P n
      · rw [if_pos hp, if_pos (this hp)]; omega
      · rw [if_neg hp]; omega
theorem cntP_two {P Q V : Nat → Prop} (h : ∀ i, P i → V i) (k : ∀ i, Q i → V i) (hd : ∀ i, P i → ¬ Q i) : ∀ n, cntP P n + cntP Q n ≤ cntP V n
  | 0 => Nat.le_refl _
  | n + 1 => by
    have ih := cntP_two h k hd n
    unfold cntP
    by_cases hp : P n
    · rw [if_pos hp, if_neg (hd n hp), if_pos (h n hp)]; omega
    · rw [if_neg hp]
      by_cases hq : Q n
      · rw [if_pos hq, if_pos (k n hq)]; omega
      · rw [if_neg hq]; omega
theorem cntP_live (R : List Rc) : ∀ n, n ≤ R.length → cntP (fun i => ∃ r, R[i]? = some r ∧ 0 ≤ r.a) n = (liveR (R.take n)).length
  | 0, _ => by simp [cntP]
  | n + 1, h => by
    have hn := List.getElem?_eq_getElem (show n < R.length by omega)
    unfold cntP
    rw [cntP_live R n (by omega), List.take_add_one, hn]
    unfold liveR
    rw [List.filter_append, List.length_append]
    congr 1
    by_cases h0 : 0 ≤ (R[n]'(by omega)).a
    · rw [if_pos ⟨_, rfl, h0⟩]
      simp [h0]
    · rw [if_neg (by rintro ⟨r, hr, hr0⟩; cases hr; exact h0 hr0)]
      simp [h0]
end

section
variable {S S' S2 : Slb} {T T' T2 : HTbl} {H H' H2 : List Ent} {R R' R2 : List Rc}
/-- A record that goes. -/
def Mv (S : Slb) (R : List Rc) (i : Nat) : Prop := ∃ r, R[i]? = some r ∧ 0 ≤ r.a ∧ (S.hslide r.a).1 ≠ r.a
def SmI (R : List Rc) (i : Nat) : Prop := ∃ r, R[i]? = some r ∧ 0 ≤ r.a ∧ r.w.length ≤ 26
def LgI (R : List Rc) (i : Nat) : Prop := ∃ r, R[i]? = some r ∧ 0 ≤ r.a ∧ 26 < r.w.length
def adI (R : List Rc) (i : Nat) : Int := ((R[i]?).map (·.a)).getD (-1)
theorem adI_eq {i : Nat} {r : Rc} (h : R[i]? = some r) : adI R i = r.a := by unfold adI; rw [h]; rfl

theorem room_small {r : Rc} (h : r.w.length ≤ 26) : (rblk r).2 = csz (clsOf ((r.w.length : Int) + 2)) := by
  show Slb.roomOf _ = _
  unfold Slb.roomOf
  rw [if_pos (by omega)]
theorem room_large {r : Rc} (h : 26 < r.w.length) : 28 < (rblk r).2 := by
  show 28 < Slb.roomOf _
  unfold Slb.roomOf
  rw [if_neg (by omega)]
  omega
theorem mv_at {i : Nat} {r : Rc} (hi : R[i]? = some r) (h0 : 0 ≤ r.a) : Mv S R i ↔ (S.hslide r.a).1 ≠ r.a := by
  refine ⟨?_, fun h => ⟨r, hi, h0, h⟩⟩
  rintro ⟨q, hq, _, h⟩
  rw [hi] at hq
  cases hq
  exact h
theorem mv_small (I : StInv S T H R) {i : Nat} {r : Rc} (hi : R[i]? = some r) (h0 : 0 ≤ r.a) (hs : r.w.length ≤ 26) : Mv S R i ↔ Slb.OpenBelow H (clsOf ((r.w.length : Int) + 2)) r.a.toNat := by
  rw [mv_at hi h0]
  have := I.rep.moves_small (I.mem (List.mem_of_getElem? hi) h0) (clsOf_lt _) (room_small hs)
  dsimp only at this
  rw [← this, show ((r.a.toNat : Nat) : Int) = r.a by omega]
theorem mv_large (I : StInv S T H R) {i : Nat} {r : Rc} (hi : R[i]? = some r) (h0 : 0 ≤ r.a) (hl : 26 < r.w.length) : ∃ (p : Nat) (h : Hd), (p, h) ∈ H ∧ h.kind = 2 ∧ r.a = ((64 * p + 2 : Nat) : Int) ∧ (Mv S R i ↔ Slb.LowRun S p h.wide) := by
  have hm := I.mem (List.mem_of_getElem? hi) h0
  obtain ⟨p, h, hp, h2, e⟩ := I.rep.large_ent hm (room_large hl)
  have e1 := congrArg Prod.fst e
  dsimp only at e1
  have ha : r.a = ((64 * p + 2 : Nat) : Int) := by omega
  refine ⟨p, h, hp, h2, ha, ?_⟩
  rw [mv_at hi h0, ha]
  exact I.rep.moves_large hp h2

/-- A step's parts. -/
structure Went (S : Slb) (H : List Ent) (R : List Rc) (S2 : Slb) (H2 : List Ent) (R2 : List Rc) (j : Nat) (r : Rc) (tq : Nat) : Prop where
  hj : R[j]? = some r
  h0 : 0 ≤ r.a
  ne : (tq : Int) ≠ r.a
  mv : (S.hslide r.a).1 ≠ r.a
  W : Slb.SlideWay S S2 H H2 r.a.toNat tq
  er : R2 = R.set j { r with a := (tq : Int) }
theorem Slides.went {hh er : Int} (D : Slides S T H R hh true er S' T' H' R') : ∃ j r tq, Rec R hh j r ∧ Went S H R S' H' R' j r tq := by
  generalize hb : true = b at D
  cases D with
  | stale => cases hb
  | ok j r L tq S2 T2 H2 e le em D W I =>
    have hne : (tq : Int) ≠ r.a := fun h => by rw [h] at hb; simp at hb
    exact ⟨j, r, tq, L, L.hj, L.h0, hne, by rw [e]; exact hne, W, rfl⟩

section
variable {j tq : Nat} {r : Rc}
theorem Went.get (D : Went S H R S2 H2 R2 j r tq) {i : Nat} (h : i ≠ j) : R2[i]? = R[i]? := by rw [D.er, List.getElem?_set_ne (Ne.symm h)]
theorem Went.self (D : Went S H R S2 H2 R2 j r tq) : R2[j]? = some { r with a := (tq : Int) } := by rw [D.er, List.getElem?_set_self (List.getElem?_eq_some_iff.1 D.hj).1]
theorem Went.smI (D : Went S H R S2 H2 R2 j r tq) (i : Nat) : SmI R2 i ↔ SmI R i := by
  by_cases h : i = j
  · subst h
    exact ⟨fun ⟨q, h1, _, h3⟩ => ⟨r, D.hj, D.h0, by rw [D.self] at h1; cases h1; exact h3⟩, fun ⟨q, h1, _, h3⟩ => ⟨_, D.self, Int.natCast_nonneg tq, by rw [D.hj] at h1; cases h1; exact h3⟩⟩
  · unfold SmI; rw [D.get h]
theorem Went.lgI (D : Went S H R S2 H2 R2 j r tq) (i : Nat) : LgI R2 i ↔ LgI R i := by
  by_cases h : i = j
  · subst h
    exact ⟨fun ⟨q, h1, _, h3⟩ => ⟨r, D.hj, D.h0, by rw [D.self] at h1; cases h1; exact h3⟩, fun ⟨q, h1, _, h3⟩ => ⟨_, D.self, Int.natCast_nonneg tq, by rw [D.hj] at h1; cases h1; exact h3⟩⟩
  · unfold LgI; rw [D.get h]

/-- A small step: none goes that did not, and this one no more. -/
theorem Went.small (D : Went S H R S2 H2 R2 j r tq) (I : StInv S T H R) (I2 : StInv S2 T2 H2 R2) (hs : r.w.length ≤ 26) : ¬ Mv S2 R2 j ∧ ∀ i, i ≠ j → SmI R i → Mv S2 R2 i → Mv S R i := by
  have hm := I.mem (List.mem_of_getElem? D.hj) D.h0
  have hcl := clsOf_lt ((r.w.length : Int) + 2)
  cases D.W with
  | stay p h ent r' blk e es ea => exact absurd (by rw [ea]; have := D.h0; omega) D.ne
  | large p f h ent k hf lt ha ht =>
    have hg := (I.rep.good _ ent).big k
    have hm2 : (r.a.toNat, h.w.toNat) ∈ blks H := Slb.mem_blks.2 ⟨_, ent, by rw [blkE_big (x := (p, h)) k, ha]; simp⟩
    have e3 := congrArg Prod.snd (I.rep.blk_uniq hm hm2 rfl)
    rw [room_small hs] at e3
    have := csz_range hcl
    dsimp only at e3 hg
    omega
  | small c q N m p N1 jj hc o least ent hjj hbit ad old lt e pg =>
    obtain ⟨N0, hN0, hb0⟩ := old
    have hm2 : (r.a.toNat, csz c) ∈ blks H := Slb.mem_blks.2 ⟨_, hN0, (mem_small (x := (p, ⟨1, (c : Nat), (N0 : Nat)⟩)) rfl).2 ⟨jj, by simpa using hjj, by simpa using hb0, by simp [ad]⟩⟩
    have e3 := congrArg Prod.snd (I.rep.blk_uniq hm hm2 rfl)
    rw [room_small hs] at e3
    obtain rfl : clsOf ((r.w.length : Int) + 2) = c := Slb.cls_inj hcl hc e3
    have hop : ∀ {d a' p' N' k' : Nat}, Slb.Open H2 d a' p' N' k' → _ := fun O => Slb.open_small I.rep hc o ent hjj ad (Slb.updE_lt I.rep hc o.ent o.lt ent) e O
    constructor
    · rw [mv_small I2 D.self (Int.natCast_nonneg tq) hs]
      rintro ⟨a', p', N', k', O, hlt⟩
      dsimp only at O hlt
      rw [Int.toNat_natCast] at hlt
      rcases hop O with ⟨_, h⟩ | ⟨⟨N'', O'⟩, _⟩
      · omega
      · have := least _ _ _ _ O'
        omega
    · rintro i hne ⟨x, hx, x0, xs⟩ hmv
      rw [mv_small I2 (by rw [D.get hne]; exact hx) x0 xs] at hmv
      rw [mv_small I hx x0 xs]
      obtain ⟨a', p', N', k', O, hlt⟩ := hmv
      rcases hop O with ⟨hd, h⟩ | ⟨⟨N'', O'⟩, _⟩
      · rw [hd]
        exact ⟨_, _, _, _, o, by omega⟩
      · exact ⟨_, _, _, _, O', hlt⟩
/-- A large step. -/
theorem Went.large (D : Went S H R S2 H2 R2 j r tq) (I : StInv S T H R) (I2 : StInv S2 T2 H2 R2) (hl : 26 < r.w.length) : ¬ Mv S2 R2 j ∧ (tq : Int) < r.a ∧ (∀ i, SmI R i → Mv S2 R2 i → Mv S R i) ∧ (∀ i q, R[i]? = some q → 0 ≤ q.a → 26 < q.w.length → q.a < r.a → Mv S2 R2 i → Mv S R i) := by
  have hm := I.mem (List.mem_of_getElem? D.hj) D.h0
  cases D.W with
  | stay p h ent r' blk e es ea => exact absurd (by rw [ea]; have := D.h0; omega) D.ne
  | small c q N m p N1 jj hc o least ent hjj hbit ad old lt e pg =>
    obtain ⟨N0, hN0, hb0⟩ := old
    have hm2 : (r.a.toNat, csz c) ∈ blks H := Slb.mem_blks.2 ⟨_, hN0, (mem_small (x := (p, ⟨1, (c : Nat), (N0 : Nat)⟩)) rfl).2 ⟨jj, by simpa using hjj, by simpa using hb0, by simp [ad]⟩⟩
    have e3 := congrArg Prod.snd (I.rep.blk_uniq hm hm2 rfl)
    have hl2 := room_large hl
    have := csz_range hc
    rw [e3] at hl2
    dsimp only at hl2
    omega
  | large p f h ent k hf lt ha ht e pg =>
    have h0 := D.h0
    obtain ⟨n1, n2⟩ := Slb.low_large I.rep ent hf pg
    have hne := I.rep.large_ne ent hf
    have hin2 : (f, h) ∈ H2 := by rw [e]; exact (Slb.mem_insE hne).2 (.inl rfl)
    have hsmall : ∀ i, SmI R i → i ≠ j := by
      rintro i ⟨x, hx, _, xs⟩ rfl
      rw [D.hj] at hx
      cases hx
      omega
    refine ⟨?_, by omega, fun i hi hmv => ?_, fun i q hq q0 ql hlt hmv => ?_⟩
    · obtain ⟨p2, x2, hp2, k2, ha2, hiff⟩ := mv_large I2 D.self (Int.natCast_nonneg tq) hl
      dsimp only at ha2
      rw [hiff]
      obtain rfl : p2 = f := by omega
      have := I2.rep.uniq hp2 hin2 rfl
      simp only [Prod.mk.injEq, true_and] at this
      rw [this]
      exact n1
    · obtain ⟨x, hx, x0, xs⟩ := id hi
      rw [mv_small I2 (by rw [D.get (hsmall i hi)]; exact hx) x0 xs] at hmv
      rw [mv_small I hx x0 xs]
      obtain ⟨a', p', N', k', O, hlt⟩ := hmv
      rw [e] at O
      exact ⟨_, _, _, _, Slb.open_large I.rep ent k hf O, hlt⟩
    · have hij : i ≠ j := by
        rintro rfl
        rw [D.hj] at hq
        cases hq
        omega
      obtain ⟨p1, x1, hp1, k1, ha1, hiff1⟩ := mv_large I hq q0 ql
      obtain ⟨p2, x2, hp2, k2, ha2, hiff2⟩ := mv_large I2 (by rw [D.get hij]; exact hq) q0 ql
      rw [hiff2] at hmv
      rw [hiff1]
      obtain rfl : p2 = p1 := by omega
      have hp12 : (p2, x1) ∈ H2 := by
        rw [e]
        refine (Slb.mem_insE hne).2 (.inr (Slb.mem_delE.2 ⟨hp1, ?_⟩))
        dsimp only
        omega
      have := I2.rep.uniq hp2 hp12 rfl
      simp only [Prod.mk.injEq, true_and] at this
      rw [this] at hmv
      exact n2 _ _ hp1 (by omega) hmv

end

theorem not_mv (I : StInv S T H R) {i : Nat} {q : Rc} (hq : R[i]? = some q) (q0 : 0 ≤ q.a) (h : Rests S R q.h) : ¬ Mv S R i := by
  obtain ⟨j, r, L, e⟩ := h
  obtain ⟨rfl, rfl⟩ := rec_eq I ⟨hq, q0, rfl⟩ L
  rw [mv_at hq q0]
  exact fun h => h e
theorem live_sorted (I : StInv S T H R) : S.live.Pairwise (· < ·) := by
  rw [I.rep.live, List.pairwise_map]
  refine I.rep.pair.imp_of_mem ?_
  intro a b ha hb h
  have := I.rep.blk_range ha
  omega
theorem mem_live (I : StInv S T H R) {i : Nat} {q : Rc} (hq : R[i]? = some q) (q0 : 0 ≤ q.a) : q.a ∈ S.live ∧ hdA S q.a = q.h ∧ smallA S q.a = decide (q.w.length ≤ 26) := by
  have hm := I.mem (List.mem_of_getElem? hq) q0
  refine ⟨?_, ?_, ?_⟩
  · rw [I.rep.live]
    exact List.mem_map.2 ⟨_, hm, by show ((q.a.toNat : Nat) : Int) = q.a; omega⟩
  · unfold hdA; rw [I.hd_eq (List.mem_of_getElem? hq) q0]
  · unfold smallA
    rw [I.len_eq (List.mem_of_getElem? hq) q0]
    exact decide_eq_decide.2 (by dsimp only; omega)
/-- Ahead of a large record that goes, all rest: the small ones, and the large ones below it. -/
theorem gone_large (I : StInv S T H R) {pre post : List Int} {x : Int} (e : tried S = pre ++ x :: post) (rest : ∀ y ∈ pre, Rests S R y) {j : Nat} {r : Rc} (L : Rec R x j r) (hl : 26 < r.w.length) :
    (∀ i, SmI R i → ¬ Mv S R i) ∧ ∀ i q, R[i]? = some q → 0 ≤ q.a → 26 < q.w.length → q.a < r.a → ¬ Mv S R i := by
  obtain ⟨hr, hrh, hrs⟩ := mem_live I L.hj L.h0
  have hrs : smallA S r.a = false := by rw [hrs]; exact decide_eq_false (by omega)
  obtain ⟨L1, L2, hL⟩ := List.append_of_mem hr
  have hso := live_sorted I
  rw [hL, List.pairwise_append, List.pairwise_cons] at hso
  obtain ⟨A1, hA1⟩ : ∃ A, (S.live.reverse.filter (smallA S)).map (hdA S) = A := ⟨_, rfl⟩
  obtain ⟨A2, hA2⟩ : ∃ A, (L1.filter fun a => !smallA S a).map (hdA S) = A := ⟨_, rfl⟩
  have ht : tried S = (A1 ++ A2) ++ x :: (L2.filter fun a => !smallA S a).map (hdA S) := by
    unfold tried
    rw [hA1]
    conv => lhs; rw [hL]
    rw [List.filter_append, List.filter_cons_of_pos (by simp [hrs]), List.map_append, List.map_cons, hA2, hrh, L.he, List.append_assoc]
  have hone : ∀ a2 ∈ S.live, hdA S a2 = x → a2 = r.a ∧ smallA S a2 = false := fun a2 h2 h3 => by
    obtain ⟨j2, r2, L3, h4, h5⟩ := live_rec' I h2
    rw [h3] at L3
    obtain ⟨rfl, rfl⟩ := rec_eq I L L3
    exact ⟨h4.symm, by rw [h5]; exact decide_eq_false (by omega)⟩
  have hx : x ∉ A1 ++ A2 := fun h => by
    rcases List.mem_append.1 h with h | h
    · rw [← hA1] at h
      obtain ⟨a2, h2, h3⟩ := List.mem_map.1 h
      have h2 := List.mem_filter.1 h2
      have := (hone a2 (by simpa using h2.1) h3).2
      rw [h2.2] at this
      cases this
    · rw [← hA2] at h
      obtain ⟨a2, h2, h3⟩ := List.mem_map.1 h
      have h2 := (List.mem_filter.1 h2).1
      have := (hone a2 (by rw [hL]; simp [h2]) h3).1
      have := hso.2.2 a2 h2 r.a (by simp)
      omega
  have hall : ∀ y ∈ A1 ++ A2, Rests S R y := by
    rw [ht] at e
    rcases List.append_eq_append_iff.1 e with ⟨_, h1, _⟩ | ⟨bs, h1, h2⟩
    · intro y hy
      exact rest y (by rw [h1]; exact List.mem_append_left _ hy)
    · cases bs with
      | nil => intro y hy; rw [h1, List.append_nil] at hy; exact rest y hy
      | cons z bs =>
        simp only [List.cons_append, List.cons.injEq] at h2
        exact absurd (by rw [h1, h2.1]; simp) hx
  refine ⟨?_, fun i q hq q0 ql hlt => ?_⟩
  · rintro i ⟨q, hq, q0, qs⟩
    obtain ⟨h1, h2, h3⟩ := mem_live I hq q0
    refine not_mv I hq q0 (hall _ (List.mem_append_left _ ?_))
    rw [← hA1]
    exact List.mem_map.2 ⟨q.a, List.mem_filter.2 ⟨by simpa using h1, by rw [h3]; exact decide_eq_true qs⟩, h2⟩
  · obtain ⟨h1, h2, h3⟩ := mem_live I hq q0
    refine not_mv I hq q0 (hall _ (List.mem_append_right _ ?_))
    rw [← hA2]
    refine List.mem_map.2 ⟨q.a, List.mem_filter.2 ⟨?_, by rw [h3, decide_eq_false (by omega)]; rfl⟩, h2⟩
    rw [hL] at h1
    rcases List.mem_append.1 h1 with h | h
    · exact h
    · rcases List.mem_cons.1 h with h | h
      · omega
      · have := hso.2.1.1 _ h
        omega

open Classical in
/-- How many steps may come. -/
noncomputable def meas (S : Slb) (R : List Rc) : Nat :=
  if ∃ i, SmI R i ∧ Mv S R i then cntP (fun i => SmI R i ∧ Mv S R i) R.length + cntP (LgI R) R.length
  else cntP (fun i => LgI R i ∧ ∃ k, LgI R k ∧ Mv S R k ∧ adI R k ≤ adI R i) R.length
theorem meas_le (I : StInv S T H R) : meas S R ≤ (liveR R).length := by
  have hl := cntP_live R R.length (Nat.le_refl _)
  rw [List.take_length] at hl
  rw [← hl]
  unfold meas
  split
  · exact cntP_two (fun i ⟨⟨r, h1, h2, _⟩, _⟩ => ⟨r, h1, h2⟩) (fun i ⟨r, h1, h2, _⟩ => ⟨r, h1, h2⟩) (fun i ⟨⟨r, h1, _, h3⟩, _⟩ ⟨q, h4, _, h6⟩ => by rw [h1] at h4; cases h4; omega) _
  · exact cntP_le fun i _ ⟨⟨r, h1, h2, _⟩, _⟩ => ⟨r, h1, h2⟩
theorem getI_lt {i : Nat} {r : Rc} (h : R[i]? = some r) : i < R.length := (List.getElem?_eq_some_iff.1 h).1
theorem meas_step (I : StInv S T H R) (D : Stepped S T H R true S2 T2 H2 R2) : meas S2 R2 + 1 ≤ meas S R := by
  have I2 := D.inv
  cases D with
  | gone pre post x e rest D =>
    obtain ⟨j, r, tq, L, D⟩ := D.went
    have hlen : R2.length = R.length := by rw [D.er, List.length_set]
    have hmj : Mv S R j := (mv_at D.hj D.h0).2 D.mv
    by_cases hs : r.w.length ≤ 26
    · obtain ⟨n1, n2⟩ := D.small I I2 hs
      have hsj : SmI R j := ⟨r, D.hj, D.h0, hs⟩
      have himp : ∀ i, SmI R2 i ∧ Mv S2 R2 i → SmI R i ∧ Mv S R i := fun i ⟨h1, h2⟩ => by
        have h1 := (D.smI i).1 h1
        by_cases hij : i = j
        · subst hij; exact absurd h2 n1
        · exact ⟨h1, n2 i hij h1 h2⟩
      have h1 : meas S R = _ := if_pos ⟨j, hsj, hmj⟩
      rw [h1]
      have hlt := cntP_lt (P := fun i => SmI R2 i ∧ Mv S2 R2 i) (Q := fun i => SmI R i ∧ Mv S R i) (n := R.length) (fun i _ => himp i) (getI_lt D.hj) ⟨hsj, hmj⟩ (fun h => n1 h.2)
      have hlg : cntP (LgI R2) R.length ≤ cntP (LgI R) R.length := cntP_le fun i _ h => (D.lgI i).1 h
      unfold meas
      rw [hlen]
      split
      · omega
      · have : cntP (fun i => LgI R2 i ∧ ∃ k, LgI R2 k ∧ Mv S2 R2 k ∧ adI R2 k ≤ adI R2 i) R.length ≤ cntP (LgI R) R.length := cntP_le fun i _ h => (D.lgI i).1 h.1
        omega
    · have hl : 26 < r.w.length := by omega
      obtain ⟨g1, g2⟩ := gone_large I e rest L hl
      obtain ⟨n1, n2, n3, n4⟩ := D.large I I2 hl
      have hlj : LgI R j := ⟨r, D.hj, D.h0, hl⟩
      have h1 : meas S R = _ := if_neg (by rintro ⟨i, h1, h2⟩; exact g1 i h1 h2)
      have h2 : meas S2 R2 = _ := if_neg (by rintro ⟨i, h1, h2⟩; have h1 := (D.smI i).1 h1; exact g1 i h1 (n3 i h1 h2))
      rw [h1, h2, hlen]
      have hup : ∀ k, LgI R2 k → Mv S2 R2 k → k ≠ j ∧ ∃ q, R[k]? = some q ∧ r.a < q.a := fun k hk hm => by
        have hkj : k ≠ j := by rintro rfl; exact n1 hm
        obtain ⟨q, hq, q0, ql⟩ := (D.lgI k).1 hk
        refine ⟨hkj, q, hq, ?_⟩
        rcases Int.lt_trichotomy q.a r.a with h | h | h
        · exact absurd (n4 k q hq q0 ql h hm) (g2 k q hq q0 ql h)
        · have f := I.far hq D.hj hkj q0 D.h0
          have e := I.rep.blk_uniq (I.mem (List.mem_of_getElem? hq) q0) (I.mem (List.mem_of_getElem? D.hj) D.h0) (by show q.a.toNat = r.a.toNat; rw [h])
          exact absurd e f
        · exact h
      refine cntP_lt (j := j) (fun i _ => ?_) (getI_lt D.hj) ⟨hlj, j, hlj, hmj, Int.le_refl _⟩ ?_
      · rintro ⟨hi, k, hk, hm, hle⟩
        obtain ⟨hkj, q, hq, hlt⟩ := hup k hk hm
        have hka : adI R2 k = q.a := adI_eq (by rw [D.get hkj]; exact hq)
        refine ⟨(D.lgI i).1 hi, j, hlj, hmj, ?_⟩
        rw [adI_eq D.hj]
        by_cases hij : i = j
        · subst hij; rw [adI_eq D.hj]; exact Int.le_refl _
        · obtain ⟨y, hy, _, _⟩ := (D.lgI i).1 hi
          have hia : adI R2 i = y.a := adI_eq (by rw [D.get hij]; exact hy)
          rw [adI_eq hy]
          omega
      · rintro ⟨_, k, hk, hm, hle⟩
        obtain ⟨hkj, q, hq, hlt⟩ := hup k hk hm
        have hka : adI R2 k = q.a := adI_eq (by rw [D.get hkj]; exact hq)
        have hja : adI R2 j = (tq : Int) := adI_eq D.self
        omega
theorem Steps.meas {n : Nat} (I : StInv S T H R) (D : Steps S T H R n S' T' H' R') : n + meas S' R' ≤ meas S R := by
  induction D with
  | zero I => omega
  | snoc h D ih =>
    have := meas_step h.inv D
    omega
theorem Steps.count {n : Nat} (I : StInv S T H R) (D : Steps S T H R n S' T' H' R') : n ≤ (liveR R).length := by
  have := D.meas I
  have := meas_le I
  omega
theorem Steps.pg_le {n : Nat} (D : Steps S T H R n S' T' H' R') : S'.pg.length ≤ S.pg.length := by
  induction D with
  | zero I => exact Nat.le_refl _
  | snoc h D ih => exact Nat.le_trans (D.pg_le h.inv) ih
theorem Moved.live_len (h : Moved R R') : (liveR R').length = (liveR R).length := by
  have h1 := cntP_live R R.length (Nat.le_refl _)
  have h2 := cntP_live R' R'.length (Nat.le_refl _)
  rw [List.take_length] at h1 h2
  rw [← h1, ← h2, h.1]
  refine Nat.le_antisymm (cntP_le fun i _ ⟨r, hr, r0⟩ => ?_) (cntP_le fun i _ ⟨r, hr, r0⟩ => ?_)
  · obtain ⟨q, hq, _, _, h0⟩ := h.at_ hr
    exact ⟨q, hq, h0.1 r0⟩
  · obtain ⟨a, ha, h0⟩ := h.2 i r hr
    exact ⟨_, ha, h0.2 r0⟩
/-- Behind it all rest. -/
theorem Stepped.spare (I : StInv S T H R) (D : Stepped S T H R false S' T' H' R') {c : Nat} (hc : c < 8) : S'.spare c < ((62 / csz c : Nat) : Int) := by
  cases D with
  | done all _ =>
    refine I.rep.spare_low hc fun b hb hbc hop => ?_
    obtain ⟨r, hr, rfl⟩ := List.mem_map.1 (I.perm.mem_iff.1 hb)
    have hr2 := List.mem_filter.1 hr
    have h0 : 0 ≤ r.a := by simpa using hr2.2
    obtain ⟨i, hi⟩ := List.mem_iff_getElem?.1 hr2.1
    have hcr := csz_range hc
    have hs : r.w.length ≤ 26 := Classical.byContradiction fun h => by
      have := room_large (r := r) (by omega)
      omega
    have hcl : clsOf ((r.w.length : Int) + 2) = c := Slb.cls_inj (clsOf_lt _) hc (by rw [← room_small hs]; exact hbc)
    have hmv : Mv S R i := by
      rw [mv_small I hi h0 hs, hcl]
      exact hop
    obtain ⟨h1, h2, h3⟩ := mem_live I hi h0
    refine not_mv I hi h0 (all _ ?_) hmv
    unfold tried
    exact List.mem_append_left _ (List.mem_map.2 ⟨r.a, List.mem_filter.2 ⟨by simpa using h1, by rw [h3]; exact decide_eq_true hs⟩, h2⟩)
/-- What Run of more steps than there are records does. -/
theorem Ran.ends {k n : Nat} {d : Bool} (I : StInv S T H R) (hk : (liveR R).length < k) (A : Ran S T H R k n d S' T' H' R') : d = true ∧ n ≤ (liveR R).length ∧ S'.pg.length ≤ S.pg.length ∧ Moved R R' ∧ StInv S' T' H' R' ∧ Stepped S' T' H' R' false S' T' H' R' := by
  cases A with
  | out h => have := h.count I; omega
  | done hn h D => exact ⟨rfl, h.count I, h.pg_le, h.moved, h.inv, D⟩
end
end Go.Proofs.YtmdnofojecncgaaGreatDoor
