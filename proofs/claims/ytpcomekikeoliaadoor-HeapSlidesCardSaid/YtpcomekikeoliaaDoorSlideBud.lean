/- The plain law of HeapSlides: so many slides, at most, where the last block that goes lower slides each time. No program stands here. No condition. -/
import Derived.Test.YtpcomekikeoliaaDoorSlideEnds
import Derived.Test.YtpcomekikeoliaaDoorSlidePot
set_option linter.unusedVariables false
set_option linter.unusedSimpArgs false
set_option maxRecDepth 100000
namespace Go.Proofs.YtpcomekikeoliaaDoor
open Go

/-- An entry, for the count. -/
def keyE (x : Ent) : Pot.K := (x.1, x.2.wide, decide (x.2.kind = 2))

namespace Slb
variable {S S' : Slb} {H H' : List Ent}

theorem Rep.sys (R : Rep S H) : Pot.Sys S.pg (H.map keyE) := by
  refine ⟨?_, fun n => ?_, fun x hx => ?_⟩
  · rw [List.pairwise_map]; exact R.ord
  · rw [R.mem n]
    constructor
    · rintro ⟨x, hx, h⟩; exact ⟨keyE x, List.mem_map.2 ⟨x, hx, rfl⟩, h⟩
    · rintro ⟨x, hx, h⟩
      obtain ⟨y, hy, rfl⟩ := List.mem_map.1 hx
      exact ⟨y, hy, h⟩
  · obtain ⟨y, hy, rfl⟩ := List.mem_map.1 hx
    exact (R.good y hy).wide1.1
theorem sep_perm {M : List Ent} (ho : M.Pairwise (fun x y => x.1 + x.2.wide ≤ y.1)) (hw : ∀ x ∈ M, 1 ≤ x.2.wide) {p : Nat} {h : Hd} (hp : (p, h) ∈ M) : M.Perm ((p, h) :: delE M p) := by
  obtain ⟨A, B, rfl⟩ := List.append_of_mem hp
  rw [List.pairwise_append, List.pairwise_cons] at ho
  rw [delE_split (fun y hy e => ?_) (fun y hy e => ?_)]
  · exact List.perm_middle
  · have := ho.2.2 y hy (p, h) (by simp)
    have := hw y (by simp [hy])
    dsimp only at *
    omega
  · have := ho.2.1.1 y hy
    have := hw (p, h) (by simp)
    dsimp only at *
    omega
theorem keys_upd {M : List Ent} {p : Nat} {h' : Hd} (h : ∀ x ∈ M, x.1 = p → x.2.wide = h'.wide ∧ (x.2.kind = 2 ↔ h'.kind = 2)) : (updE M p h').map keyE = M.map keyE := by
  unfold updE
  rw [List.map_map]
  refine List.map_congr_left fun x hx => ?_
  show keyE (if x.1 = p then (p, h') else x) = keyE x
  by_cases e : x.1 = p
  · rw [if_pos e]
    have := h x hx e
    unfold keyE
    rw [this.1, e]
    congr 2
    exact decide_eq_decide.2 this.2.symm
  · rw [if_neg e]

/-- A small block that goes lower. -/
def MvB (H : List Ent) (b : Nat × Nat) : Prop := b.2 ≤ 28 ∧ ∃ c, c < 8 ∧ b.2 = csz c ∧ OpenBelow H c b.1
section
open Classical
noncomputable def mvs (H : List Ent) : Nat := Pot.sumF (fun b => if MvB H b then 1 else 0) (blks H)
noncomputable def sms (H : List Ent) : Nat := Pot.sumF (fun b : Nat × Nat => if b.2 ≤ 28 then 1 else 0) (blks H)
theorem mvs_le (H : List Ent) : mvs H ≤ sms H := Pot.sumF_le fun b _ => by
  by_cases h : MvB H b
  · rw [if_pos h, if_pos h.1]; exact Nat.le_refl _
  · rw [if_neg h]; exact Nat.zero_le _
theorem sumF_append {α : Type} (f : α → Nat) : ∀ (L M : List α), Pot.sumF f (L ++ M) = Pot.sumF f L + Pot.sumF f M
  | [], M => by simp [Pot.sumF]
  | x :: L, M => by simp only [List.cons_append, Pot.sumF]; rw [sumF_append f L M]; omega
theorem sumF_one {α : Type} (f : α → Nat) : ∀ (L : List α), (∀ x ∈ L, f x = 1) → Pot.sumF f L = L.length
  | [], _ => rfl
  | x :: L, h => by simp only [Pot.sumF, List.length_cons]; rw [h x (by simp), sumF_one f L (fun y hy => h y (List.mem_cons_of_mem _ hy))]; omega

theorem counts : ∀ {H : List Ent}, (∀ x ∈ H, x.2.Good) → Pot.nL (H.map keyE) + sms H = (blks H).length ∧ Pot.nS (H.map keyE) ≤ sms H ∧ Pot.wS (H.map keyE) + Pot.nL (H.map keyE) + Pot.nS (H.map keyE) = (H.flatMap runE).length
  | [], _ => ⟨rfl, Nat.le_refl _, rfl⟩
  | x :: H, hg => by
    have gx := hg x (by simp)
    obtain ⟨i1, i2, i3⟩ := counts (H := H) (fun y hy => hg y (List.mem_cons_of_mem _ hy))
    have eb : blks (x :: H) = blkE x ++ blks H := rfl
    have es : sms (x :: H) = Pot.sumF (fun b : Nat × Nat => if b.2 ≤ 28 then 1 else 0) (blkE x) + sms H := by unfold sms; rw [eb, sumF_append]
    have ef : ((x :: H).flatMap runE).length = x.2.wide + (H.flatMap runE).length := by
      rw [List.flatMap_cons, List.length_append]
      congr 1
      simp [runE]
    rw [eb, List.length_append, es, ef, List.map_cons]
    unfold Pot.nL Pot.nS Pot.wS at *
    rw [Pot.cnt_cons, Pot.cnt_cons]
    simp only [Pot.sumF]
    by_cases h2 : x.2.kind = 2
    · have e : (keyE x).2.2 = true := decide_eq_true h2
      have hb := gx.big h2
      have hw := gx.wide1
      rw [if_pos e, if_neg (by rw [e]; decide), if_pos e, blkE_big h2]
      simp only [Pot.sumF, List.length_singleton]
      rw [if_neg (show ¬ x.2.w.toNat ≤ 28 by omega)]
      have : (keyE x).2.1 = x.2.wide := rfl
      omega
    · have hs := gx.small h2
      have e : (keyE x).2.2 = false := decide_eq_false h2
      rw [if_neg (by rw [e]; decide), if_pos e, if_neg (by rw [e]; decide)]
      have h1 : Pot.sumF (fun b : Nat × Nat => if b.2 ≤ 28 then 1 else 0) (blkE x) = (blkE x).length := sumF_one _ _ fun b hb => by
        obtain ⟨k, hk, hbit, rfl⟩ := (mem_small hs.1).1 hb
        have := csz_range (show x.2.n.toNat < 8 by omega)
        rw [if_pos (by dsimp only; omega)]
      obtain ⟨b, hb⟩ := Slb.blkE_some gx
      have : 0 < (blkE x).length := List.length_pos_of_mem hb
      omega

/-- What a slide of the last block that goes does. -/
structure Steps1 (S S' : Slb) (H H' : List Ent) : Prop where
  mv : (∃ (p f w : Nat) (D : List Pot.K), mvs H' ≤ mvs H ∧ Pot.Big S.pg S'.pg (H.map keyE) (H'.map keyE) p f w D) ∨
    (∃ q, mvs H' + 1 ≤ mvs H ∧ Pot.Gone S.pg S'.pg (H.map keyE) (H'.map keyE) q) ∨ (mvs H' + 1 ≤ mvs H ∧ S'.pg = S.pg ∧ H'.map keyE = H.map keyE)

theorem mvs_perm {H : List Ent} {x : Nat × Nat} {L : List (Nat × Nat)} (h : (blks H).Perm (x :: L)) : mvs H = (if MvB H x then 1 else 0) + Pot.sumF (fun b => if MvB H b then 1 else 0) L := Pot.sumF_perm h
theorem mvs_part {H H' : List Ent} {L : List (Nat × Nat)} (h : ∀ b ∈ L, MvB H' b → MvB H b) : Pot.sumF (fun b => if MvB H' b then 1 else 0) L ≤ Pot.sumF (fun b => if MvB H b then 1 else 0) L := Pot.sumF_le fun b hb => by
  by_cases h1 : MvB H' b
  · rw [if_pos h1, if_pos (h b hb h1)]; exact Nat.le_refl _
  · rw [if_neg h1]; exact Nat.zero_le _

theorem Rep.steps1 (R : Rep S H) {a to r : Nat} (hb : (a, r) ∈ blks H) (D : Slid S S' H H' a to r) (W : SlideWay S S' H H' a to) (ne : to ≠ a) (above : ∀ c ∈ blks H, a < c.1 → (S.hslide (c.1 : Int)).1 = (c.1 : Int)) : Steps1 S S' H H' := by
  obtain ⟨L, p1, p2⟩ := D.perm
  have R2 := D.rep
  -- the large ones above are stuck
  have hstk : ∀ (q : Nat), (64 * q + 2 ≤ a ∨ a < 64 * q + 2) → a < 64 * (q + 1) → ∀ x ∈ H.map keyE, x.2.2 = true → q < x.1 → Pot.stk S.pg x := fun q _ hq x hx hk hlt => by
    obtain ⟨⟨y, h⟩, hy, rfl⟩ := List.mem_map.1 hx
    have h2 : h.kind = 2 := of_decide_eq_true hk
    have hlt : q < y := hlt
    have hm : (64 * y + 2, h.w.toNat) ∈ blks H := mem_blks.2 ⟨_, hy, by rw [blkE_big (x := (y, h)) h2]; simp⟩
    have := above _ hm (by dsimp only; omega)
    exact fun hl => (R.moves_large hy h2).2 hl this
  cases W with
  | stay p h ent r' blk e es ea => exact absurd ea ne
  | large p f h ent k hf lt ha ht e pg =>
    have hg := (R.good _ ent).big k
    have w1 := (R.good _ ent).wide1
    dsimp only at hg w1
    obtain ⟨n1, n2⟩ := low_large R ent hf pg
    have hne := R.large_ne ent hf
    have hsp := least_spec (less S.pg p h.wide) h.wide w1.1
    rw [hf] at hsp
    have hr : r = h.w.toNat := by
      have hm2 : (a, h.w.toNat) ∈ blks H := mem_blks.2 ⟨_, ent, by rw [blkE_big (x := (p, h)) k, ha]; simp⟩
      exact congrArg Prod.snd (R.blk_uniq hb hm2 rfl)
    refine ⟨.inl ⟨p, f, h.wide, (delE H p).map keyE, ?_, ?_⟩⟩
    · rw [mvs_perm p1, mvs_perm p2, if_neg (fun h => by have := h.1; dsimp only at this; omega)]
      have := mvs_part (H := H) (H' := H') (L := L) fun b _ hm => by
        obtain ⟨h1, c, hc, h3, a', p', N', k', O, hlt⟩ := hm
        rw [e] at O
        exact ⟨h1, c, hc, h3, a', p', N', k', open_large R ent k hf O, hlt⟩
      omega
    · have hkey : ∀ z, keyE (z, h) = (z, h.wide, true) := fun z => by unfold keyE; rw [decide_eq_true k]
      have hD : (delE H p).Pairwise (fun x y => x.1 + x.2.wide ≤ y.1) := R.ord.filter _
      refine ⟨R.sys, R2.sys, ?_, ?_, ?_, fun y hy => ?_, lt, n1, fun x hx hlt hs => ?_, fun y hy => ?_, ⟨f, lt, hsp.2.1⟩, ?_⟩
      · have := (sep_perm R.ord (fun x hx => (R.good x hx).wide1.1) ent).map keyE
        rw [List.map_cons, hkey] at this
        exact this
      · rw [e]
        have := (insE_perm (e := (f, h)) hne).map keyE
        rw [List.map_cons, hkey] at this
        exact this
      · rw [List.pairwise_map]; exact hD
      · obtain ⟨x, hx, rfl⟩ := List.mem_map.1 hy
        obtain ⟨hx1, hx2⟩ := mem_delE.1 hx
        have wx := (R.good x hx1).wide1
        show x.1 + x.2.wide ≤ p ∨ p + h.wide ≤ x.1
        refine Classical.byContradiction fun hc => hx2 ?_
        have := R.inj hx1 ent (k := max x.1 p) ⟨by omega, by omega⟩ ⟨by dsimp only; omega, by dsimp only; omega⟩
        rw [this]
      · obtain ⟨⟨q, z⟩, hz, rfl⟩ := List.mem_map.1 hx
        exact fun hl => hs (n2 q z (mem_delE.1 hz).1 hlt hl)
      · obtain ⟨x, hx, rfl⟩ := List.mem_map.1 hy
        obtain ⟨hx1, hx2⟩ := mem_delE.1 hx
        have wx := (R.good x hx1).wide1
        show x.1 + x.2.wide ≤ f ∨ f + h.wide ≤ x.1
        have hfr := freeB_iff.1 hsp.2.1
        have hin : ∀ n, x.1 ≤ n → n < x.1 + x.2.wide → n < f ∨ f + h.wide ≤ n := fun n h1 h2 => hfr n (mem_less.2 ⟨(R.mem n).2 ⟨x, hx1, h1, h2⟩, fun hc => hx2 (by rw [R.inj hx1 ent (k := n) ⟨h1, h2⟩ hc])⟩)
        have i1 := hin x.1 (Nat.le_refl _) (by omega)
        have i2 := hin f
        omega
      · exact hstk p (by omega) (by omega)
  | small c q N m p N1 j hc o least ent hj hbit ad old lt e pg =>
    obtain ⟨N0, hN0, hb0⟩ := old
    have hcr := csz_range hc
    have hin := slot_in hc hj
    have hlt1 := updE_lt R hc o.ent o.lt ent
    have hr : r = csz c := by
      have hm2 : (a, csz c) ∈ blks H := mem_blks.2 ⟨_, hN0, (mem_small (x := (p, ⟨1, (c : Nat), (N0 : Nat)⟩)) rfl).2 ⟨j, by simpa using hj, by simpa using hb0, by simp [ad]⟩⟩
      exact congrArg Prod.snd (R.blk_uniq hb hm2 rfl)
    have hmv : mvs H' + 1 ≤ mvs H := by
      rw [mvs_perm p1, mvs_perm p2, if_pos (show MvB H (a, r) from ⟨by dsimp only; omega, c, hc, hr, _, _, _, _, o, lt⟩), if_neg ?_]
      · have := mvs_part (H := H) (H' := H') (L := L) fun b _ hm => by
          obtain ⟨h1, d, hd, h3, a', p', N', k', O, hlt⟩ := hm
          rcases open_small R hc o ent hj ad hlt1 e O with ⟨h4, h5⟩ | ⟨⟨N'', O'⟩, _⟩
          · subst h4 h5
            exact ⟨h1, d, hd, h3, _, _, _, _, o, by omega⟩
          · exact ⟨h1, d, hd, h3, _, _, _, _, O', hlt⟩
        omega
      · rintro ⟨_, d, hd, h3, a', p', N', k', O, hlt⟩
        dsimp only at h3 hlt
        obtain rfl : d = c := cls_inj hd hc (by omega)
        rcases open_small R hc o ent hj ad hlt1 e O with ⟨_, h5⟩ | ⟨⟨N'', O'⟩, _⟩
        · omega
        · have := least _ _ _ _ O'
          omega
    have hsmall : ∀ x ∈ H, x.1 = q → x.2.wide = (⟨1, (c : Nat), (Bt.set N m : Nat)⟩ : Hd).wide ∧ (x.2.kind = 2 ↔ (⟨1, (c : Nat), (Bt.set N m : Nat)⟩ : Hd).kind = 2) := fun x hx he => by
      have := R.uniq hx o.ent he
      rw [this]
      exact ⟨rfl, by simp⟩
    have k1 : (updE H q ⟨1, (c : Nat), (Bt.set N m : Nat)⟩).map keyE = H.map keyE := keys_upd hsmall
    by_cases hz : Bt.clear N1 j = 0
    · rw [if_pos hz] at e pg
      refine ⟨.inr (.inl ⟨p, hmv, R.sys, R2.sys, ?_, fun n => ?_, hstk p (by omega) (by omega)⟩)⟩
      · rw [e, ← k1]
        have hU : (updE H q ⟨1, (c : Nat), (Bt.set N m : Nat)⟩).Pairwise (fun x y => x.1 + x.2.wide ≤ y.1) := by
          have h1 := R.sys.ord
          rw [← k1, List.pairwise_map] at h1
          exact h1
        have hW : ∀ x ∈ updE H q ⟨1, (c : Nat), (Bt.set N m : Nat)⟩, 1 ≤ x.2.wide := fun x hx => by
          have h1 := R.sys.wide
          rw [← k1] at h1
          exact h1 (keyE x) (List.mem_map.2 ⟨x, hx, rfl⟩)
        exact (sep_perm hU hW ent).map keyE
      · rw [pg, mem_less]
        constructor
        · rintro ⟨h1, h2⟩; exact ⟨h1, fun e => h2 (by omega)⟩
        · rintro ⟨h1, h2⟩; exact ⟨h1, fun e => h2 (by omega)⟩
    · rw [if_neg hz] at e pg
      refine ⟨.inr (.inr ⟨hmv, pg, ?_⟩)⟩
      rw [e, ← k1]
      refine keys_upd fun x hx he => ?_
      have hU : (updE H q ⟨1, (c : Nat), (Bt.set N m : Nat)⟩).Pairwise (fun x y => x.1 + x.2.wide ≤ y.1) := by
        have h1 := R.sys.ord
        rw [← k1, List.pairwise_map] at h1
        exact h1
      have : x = (p, ⟨1, (c : Nat), (N1 : Nat)⟩) := by
        rcases (mem_updE o.ent).1 hx with h1 | h1
        · rcases (mem_updE o.ent).1 ent with h2 | h2
          · rw [h1, h2]
          · rw [h1] at he
            exact absurd he.symm h2.2
        · rcases (mem_updE o.ent).1 ent with h2 | h2
          · have := congrArg Prod.fst h2
            dsimp only at this
            exact absurd (by rw [he, this]) h1.2
          · exact R.uniq h1.1 h2.1 he
      rw [this]
      exact ⟨rfl, by simp⟩

/-- So many slides are left, at most. -/
def SlLeft (S : Slb) (H : List Ent) (n : Nat) : Prop := ∃ cv n', 7 ≤ cv ∧ Pot.nL (H.map keyE) ≤ cv ∧ Pot.Bud cv S.pg (H.map keyE) n' ∧ mvs H + n' ≤ n

theorem Steps1.left {n : Nat} (h : Steps1 S S' H H') (hl : SlLeft S H n) : ∃ n', n = n' + 1 ∧ SlLeft S' H' n' := by
  obtain ⟨cv, n', h7, hL, hB, hn⟩ := hl
  rcases h.mv with ⟨p, f, w, D, hm, hb⟩ | ⟨q, hm, hg⟩ | ⟨hm, hp, hk⟩
  · obtain ⟨n2, h2, hB2⟩ := hB.large hb
    exact ⟨n - 1, by omega, cv, n2, h7, by rw [hb.counts.1]; exact hL, hB2, by omega⟩
  · exact ⟨n - 1, by omega, cv, n', h7, by rw [hg.counts.1]; exact hL, hB.gone hg h7 hL, by omega⟩
  · exact ⟨n - 1, by omega, cv, n', h7, by rw [hk]; exact hL, by rw [hp, hk]; exact hB, by omega⟩

theorem Rep.slLeft (R : Rep S H) (hq : S.quota ≤ 4000) : SlLeft S H (40 * (blks H).length + 40) := by
  obtain ⟨c1, c2, c3⟩ := counts R.good
  rw [← R.pg_eq] at c3
  have hf := R.ok.fit
  have hm := mvs_le H
  have hB := Pot.Bud.start (max 7 (Pot.nL (H.map keyE))) (pg := S.pg) (k := H.map keyE) (P := 1048576) fun x hx => by
    obtain ⟨y, hy, rfl⟩ := List.mem_map.1 hx
    exact R.low _ (R.page hy)
  refine ⟨_, _, by omega, by omega, hB, ?_⟩
  have := Pot.bound (a := Pot.nL (H.map keyE)) (b := Pot.nS (H.map keyE)) (w := Pot.wS (H.map keyE)) (m := sms H) (by omega) c2
  unfold Pot.res
  rw [← c1]
  omega
end
end Slb
end Go.Proofs.YtpcomekikeoliaaDoor
