/- The plain law of HeapSlides: a bound on how many slides there are, told on pages and runs alone. No program stands here. No condition. -/
import Derived.Test.YtpcomekikeoliaaDoorGround
set_option linter.unusedVariables false
set_option linter.unusedSimpArgs false
set_option maxRecDepth 100000
namespace Go.Proofs.YtpcomekikeoliaaDoor
namespace Pot

/-- An entry: its page, how many it has, is it a large block? -/
abbrev K := Nat × Nat × Bool

def sumF {α : Type} (f : α → Nat) : List α → Nat
  | [] => 0
  | x :: L => f x + sumF f L
theorem sumF_perm {α : Type} {f : α → Nat} {L M : List α} (h : L.Perm M) : sumF f L = sumF f M := by
  induction h with
  | nil => rfl
  | cons x _ ih => simp only [sumF, ih]
  | swap x y l => simp only [sumF]; omega
  | trans _ _ ih1 ih2 => rw [ih1, ih2]
theorem sumF_le {α : Type} {f g : α → Nat} : ∀ {L : List α}, (∀ x ∈ L, f x ≤ g x) → sumF f L ≤ sumF g L
  | [], _ => Nat.le_refl _
  | x :: L, h => by
    have h1 := h x (by simp)
    have h2 := sumF_le (L := L) (fun y hy => h y (List.mem_cons_of_mem _ hy))
    simp only [sumF]; omega
theorem sumF_congr {α : Type} {f g : α → Nat} : ∀ {L : List α}, (∀ x ∈ L, f x = g x) → sumF f L = sumF g L
  | [], _ => rfl
  | x :: L, h => by simp only [sumF]; rw [h x (by simp), sumF_congr (L := L) (fun y hy => h y (List.mem_cons_of_mem _ hy))]
theorem sumF_add {α : Type} (f g : α → Nat) : ∀ L : List α, sumF (fun x => f x + g x) L = sumF f L + sumF g L
  | [] => rfl
  | x :: L => by simp only [sumF]; rw [sumF_add f g L]; omega
theorem sumF_mul {α : Type} (f : α → Nat) (c : Nat) : ∀ L : List α, sumF (fun x => f x * c) L = sumF f L * c
  | [] => by simp [sumF]
  | x :: L => by simp only [sumF]; rw [sumF_mul f c L, Nat.add_mul]

structure Sys (pg : List Nat) (k : List K) : Prop where
  ord : k.Pairwise (fun x y => x.1 + x.2.1 ≤ y.1)
  mem : ∀ n, n ∈ pg ↔ ∃ x ∈ k, x.1 ≤ n ∧ n < x.1 + x.2.1
  wide : ∀ x ∈ k, 1 ≤ x.2.1

/-- A free run below, the own pages being free. -/
def low (pg : List Nat) (p w : Nat) : Prop := ∃ g, g < p ∧ Slb.freeB (Slb.less pg p w) g w = true
def stk (pg : List Nat) (x : K) : Prop := ¬ low pg x.1 x.2.1

theorem low_of {pg : List Nat} {p w g : Nat} (hg : g < p) (h : ∀ n ∈ pg, ¬ (p ≤ n ∧ n < p + w) → n < g ∨ g + w ≤ n) : low pg p w :=
  ⟨g, hg, Slb.freeB_iff.2 fun n hn => by have := Slb.mem_less.1 hn; exact h n this.1 this.2⟩

def below (k : List K) (z : Nat) : Nat := sumF (fun y => if y.1 < z then y.2.1 else 0) k
/-- How many free pages lie below a page. -/
def dd (k : List K) (z : Nat) : Nat := z - below k z

theorem span : ∀ {L : List K} {a b : Nat}, L.Pairwise (fun x y => x.1 + x.2.1 ≤ y.1) → (∀ y ∈ L, a ≤ y.1 → y.1 < b → y.1 + y.2.1 ≤ b) → sumF (fun y => if a ≤ y.1 ∧ y.1 < b then y.2.1 else 0) L ≤ b - a
  | [], _, _, _, _ => Nat.zero_le _
  | x :: L, a, b, ho, h => by
    have ho' := List.pairwise_cons.1 ho
    have ih := fun (a' : Nat) (ha : a ≤ a') => span (L := L) (a := a') (b := b) ho'.2 (fun y hy h1 h2 => h y (List.mem_cons_of_mem _ hy) (by omega) h2)
    simp only [sumF]
    by_cases hx : a ≤ x.1 ∧ x.1 < b
    · have h1 := h x (by simp) hx.1 hx.2
      have h2 := ih (x.1 + x.2.1) (by omega)
      rw [if_pos hx]
      have e : sumF (fun y : K => if a ≤ y.1 ∧ y.1 < b then y.2.1 else 0) L = sumF (fun y : K => if x.1 + x.2.1 ≤ y.1 ∧ y.1 < b then y.2.1 else 0) L := by
        refine sumF_congr fun y hy => ?_
        have := ho'.1 y hy
        by_cases hy : y.1 < b
        · rw [if_pos (by omega), if_pos (by omega)]
        · rw [if_neg (by omega), if_neg (by omega)]
      omega
    · rw [if_neg hx]
      have := ih a (Nat.le_refl _)
      omega

theorem below_le {k : List K} (ho : k.Pairwise (fun x y => x.1 + x.2.1 ≤ y.1)) {z : Nat} (h : ∀ y ∈ k, y.1 < z → y.1 + y.2.1 ≤ z) : below k z ≤ z := by
  have := span (a := 0) (b := z) ho (fun y hy _ h2 => h y hy h2)
  have e : below k z = sumF (fun y : K => if 0 ≤ y.1 ∧ y.1 < z then y.2.1 else 0) k := sumF_congr fun y _ => by simp
  omega

section
open Classical
noncomputable def cnt (p : K → Prop) (L : List K) : Nat := sumF (fun x => if p x then 1 else 0) L
theorem cnt_perm {p : K → Prop} {L M : List K} (h : L.Perm M) : cnt p L = cnt p M := sumF_perm h
theorem cnt_le {p q : K → Prop} {L : List K} (h : ∀ x ∈ L, p x → q x) : cnt p L ≤ cnt q L := sumF_le fun x hx => by
  by_cases hp : p x
  · rw [if_pos hp, if_pos (h x hx hp)]; exact Nat.le_refl _
  · rw [if_neg hp]; exact Nat.zero_le _
theorem cnt_cons {p : K → Prop} {x : K} {L : List K} : cnt p (x :: L) = (if p x then 1 else 0) + cnt p L := rfl
theorem cnt_add {p q r : K → Prop} {L : List K} (h : ∀ x ∈ L, p x ∨ q x → r x) (hd : ∀ x ∈ L, p x → ¬ q x) : cnt p L + cnt q L ≤ cnt r L := by
  unfold cnt
  rw [← sumF_add]
  refine sumF_le fun x hx => ?_
  have := h x hx
  have := hd x hx
  by_cases hp : p x
  · rw [if_pos hp, if_neg (hd x hx hp), if_pos (h x hx (.inl hp))]; exact Nat.le_refl _
  · rw [if_neg hp]
    by_cases hq : q x
    · rw [if_pos hq, if_pos (h x hx (.inr hq))]; exact Nat.le_refl _
    · rw [if_neg hq]; exact Nat.zero_le _
theorem cnt_or {p q r : K → Prop} {L : List K} (h : ∀ x ∈ L, r x → p x ∨ q x) : cnt r L ≤ cnt p L + cnt q L := by
  unfold cnt
  rw [← sumF_add]
  refine sumF_le fun x hx => ?_
  by_cases hr : r x
  · rw [if_pos hr]
    rcases h x hx hr with h | h
    · rw [if_pos h]; omega
    · rw [if_pos h]; omega
  · rw [if_neg hr]; exact Nat.zero_le _

/-- Below what is stuck lie few free pages. -/
theorem gap_go {pg : List Nat} {x : K} (hs : stk pg x) (hw : 1 ≤ x.2.1) : ∀ (L : List K) (e0 : Nat), L.Pairwise (fun x y => x.1 + x.2.1 ≤ y.1) → (∀ y ∈ L, 1 ≤ y.2.1) → (∀ y ∈ L, e0 ≤ y.1) →
    (∀ n ∈ pg, e0 ≤ n → ∃ y ∈ L, y.1 ≤ n ∧ n < y.1 + y.2.1) → x ∈ L → x.1 ≤ e0 + below L x.1 + (x.2.1 - 1) * cnt (fun y => y.1 < x.1 ∧ (y.2.2 = false ∨ low pg y.1 y.2.1)) L
  | [], _, _, _, _, _, h => by cases h
  | y :: L, e0, ho, hwd, he, hm, hx => by
    have ho' := List.pairwise_cons.1 ho
    have hfree : ∀ n, e0 ≤ n → n < y.1 → n ∉ pg := fun n h1 h2 hn => by
      obtain ⟨z, hz, hz1⟩ := hm n hn h1
      rcases List.mem_cons.1 hz with rfl | hz
      · omega
      · have := ho'.1 z hz
        omega
    have hey := he y (by simp)
    rcases List.mem_cons.1 hx with rfl | hxL
    · have : x.1 ≤ e0 := Nat.le_of_not_lt fun hc => hs (low_of (g := x.1 - 1) (by omega) fun n hn hno => by
        have := hfree n
        by_cases hne : n = x.1 - 1
        · exact absurd hn (this (by omega) (by omega))
        · omega)
      omega
    · have hyx := ho'.1 x hxL
      have hyw := hwd y (by simp)
      have ih := gap_go hs hw L (y.1 + y.2.1) ho'.2 (fun z hz => hwd z (List.mem_cons_of_mem _ hz)) (fun z hz => ho'.1 z hz) (fun n hn hle => by
        obtain ⟨z, hz, hz1⟩ := hm n hn (by omega)
        rcases List.mem_cons.1 hz with rfl | hz
        · omega
        · exact ⟨z, hz, hz1⟩) hxL
      have eb : below (y :: L) x.1 = y.2.1 + below L x.1 := by
        show (if y.1 < x.1 then y.2.1 else 0) + _ = _
        rw [if_pos (by omega)]; rfl
      rw [eb, cnt_cons]
      by_cases hy : y.1 ≤ e0
      · split
        · rw [Nat.mul_add]; omega
        · rw [Nat.zero_add]; omega
      · have hbad : y.1 < x.1 ∧ (y.2.2 = false ∨ low pg y.1 y.2.1) := ⟨by omega, .inr (low_of (g := y.1 - 1) (by omega) fun n hn hno => by
          by_cases hne : n = y.1 - 1
          · exact absurd hn (hfree n (by omega) (by omega))
          · omega)⟩
        rw [if_pos hbad, Nat.mul_add, Nat.mul_one]
        have : y.1 - e0 ≤ x.2.1 - 1 := Nat.le_of_not_lt fun hc => hs (low_of (g := y.1 - x.2.1) (by omega) fun n hn hno => by
          by_cases hin : y.1 - x.2.1 ≤ n ∧ n < y.1
          · exact absurd hn (hfree n (by omega) (by omega))
          · omega)
        omega
theorem gap {pg : List Nat} {k : List K} (Y : Sys pg k) {x : K} (hx : x ∈ k) (hs : stk pg x) : dd k x.1 ≤ (x.2.1 - 1) * cnt (fun y => y.1 < x.1 ∧ (y.2.2 = false ∨ low pg y.1 y.2.1)) k := by
  have := gap_go hs (Y.wide x hx) k 0 Y.ord Y.wide (fun _ _ => Nat.zero_le _) (fun n hn _ => (Y.mem n).1 hn) hx
  unfold dd
  omega

theorem cnt_big (k : List K) : cnt (fun x => x.2.2 = true) k = sumF (fun x => if x.2.2 = true then 1 else 0) k := sumF_congr fun x _ => by
  by_cases h : x.2.2 = true
  · rw [if_pos h, if_pos h]
  · rw [if_neg h, if_neg h]
/-! What is counted. -/
noncomputable def nL (k : List K) : Nat := cnt (fun x => x.2.2 = true) k
noncomputable def nS (k : List K) : Nat := cnt (fun x => x.2.2 = false) k
noncomputable def wS (k : List K) : Nat := sumF (fun x => if x.2.2 = true then x.2.1 - 1 else 0) k
def InE (pg : List Nat) (P : Nat) (x : K) : Prop := P ≤ x.1 ∨ stk pg x
noncomputable def eE (pg : List Nat) (k : List K) (P : Nat) : Nat := cnt (fun x => x.2.2 = true ∧ InE pg P x) k
noncomputable def ab (k : List K) (z : Nat) : Nat := cnt (fun y => y.2.2 = true ∧ z < y.1) k
noncomputable def bet (pg : List Nat) (k : List K) (P : Nat) : Nat := sumF (fun x => if x.2.2 = true ∧ P ≤ x.1 ∧ low pg x.1 x.2.1 then 2 ^ ab k x.1 else 0) k
noncomputable def phi (pg : List Nat) (k : List K) (P R : Nat) : Nat := sumF (fun x => if x.2.2 = true then (if InE pg P x then dd k x.1 else 1 + (x.2.1 - 1) * R) else 0) k
noncomputable def res (k : List K) : Nat := if nL k < 4 then 0 else nL k + wS k * (nL k + nS k - 4)

/-- What is left of a stuck one's free pages where P lies above it. -/
theorem gap_R {pg : List Nat} {k : List K} (Y : Sys pg k) {P R : Nat} (he : 4 ≤ eE pg k P) (hR : nL k + nS k ≤ R + 4) {x : K} (hx : x ∈ k) (hs : stk pg x) (hP : x.1 < P ∨ ∀ y ∈ k, y.2.2 = true → P ≤ y.1 → stk pg y) : dd k x.1 ≤ (x.2.1 - 1) * R := by
  refine Nat.le_trans (gap Y hx hs) (Nat.mul_le_mul_left _ ?_)
  have h1 : cnt (fun y => y.1 < x.1 ∧ (y.2.2 = false ∨ low pg y.1 y.2.1)) k ≤ nS k + cnt (fun y => y.2.2 = true ∧ ¬ InE pg P y) k := cnt_or fun y hy h => by
    rcases h.2 with h2 | h2
    · exact .inl h2
    · cases hb : y.2.2 with
      | false => exact .inl rfl
      | true =>
        refine .inr ⟨rfl, ?_⟩
        rintro (h3 | h3)
        · rcases hP with hP | hP
          · omega
          · exact hP y hy hb h3 h2
        · exact h3 h2
  have h2 : eE pg k P + cnt (fun y => y.2.2 = true ∧ ¬ InE pg P y) k ≤ nL k := cnt_add (fun y _ h => h.elim (·.1) (·.1)) (fun y _ h1 h2 => h2.2 h1.2)
  omega

/-- The binary count. -/
theorem two_pow_ab : ∀ {L : List K} (_ : L.Pairwise (fun x y => x.1 + x.2.1 ≤ y.1)) (_ : ∀ y ∈ L, 1 ≤ y.2.1) (z : Nat), sumF (fun x => if x.2.2 = true ∧ z < x.1 then 2 ^ ab L x.1 else 0) L + 1 ≤ 2 ^ ab L z
  | [], _, _, _ => Nat.le_refl _
  | y :: L, ho, hw, z => by
    have ho' := List.pairwise_cons.1 ho
    have ih := two_pow_ab ho'.2 (fun z hz => hw z (List.mem_cons_of_mem _ hz)) z
    have hyw := hw y (by simp)
    have e1 : ∀ x ∈ L, ab (y :: L) x.1 = ab L x.1 := fun x hx => by
      have := ho'.1 x hx
      unfold ab
      rw [cnt_cons, if_neg (fun h => by omega), Nat.zero_add]
    have e2 : ab (y :: L) y.1 = ab L y.1 := by
      unfold ab
      rw [cnt_cons, if_neg (fun h => by omega), Nat.zero_add]
    have e3 : sumF (fun x : K => if x.2.2 = true ∧ z < x.1 then 2 ^ ab (y :: L) x.1 else 0) L = sumF (fun x : K => if x.2.2 = true ∧ z < x.1 then 2 ^ ab L x.1 else 0) L := sumF_congr fun x hx => by rw [e1 x hx]
    simp only [sumF]
    rw [e2, e3]
    have e4 : ab (y :: L) z = (if y.2.2 = true ∧ z < y.1 then 1 else 0) + ab L z := by
      unfold ab
      rw [cnt_cons]
      split <;> rfl
    rw [e4]
    by_cases hy : y.2.2 = true ∧ z < y.1
    · rw [if_pos hy, if_pos hy]
      have e5 : ab L y.1 ≤ ab L z := cnt_le fun x hx h => ⟨h.1, by omega⟩
      have e6 : 2 ^ ab L y.1 ≤ 2 ^ ab L z := Nat.pow_le_pow_right (by omega) e5
      rw [Nat.add_comm 1, Nat.pow_succ]
      omega
    · rw [if_neg hy, if_neg hy, Nat.zero_add, Nat.zero_add]
      exact ih

/-- A large block has moved. -/
structure Big (pg pg' : List Nat) (k k' : List K) (p f w : Nat) (D : List K) : Prop where
  A : Sys pg k
  B : Sys pg' k'
  hk : k.Perm ((p, w, true) :: D)
  hk' : k'.Perm ((f, w, true) :: D)
  so : D.Pairwise (fun x y => x.1 + x.2.1 ≤ y.1)
  apart : ∀ y ∈ D, y.1 + y.2.1 ≤ p ∨ p + w ≤ y.1
  lt : f < p
  now : stk pg' (f, w, true)
  keep : ∀ x ∈ D, x.1 < p → stk pg x → stk pg' x
  free : ∀ y ∈ D, y.1 + y.2.1 ≤ f ∨ f + w ≤ y.1
  was : low pg p w
  above : ∀ x ∈ k, x.2.2 = true → p < x.1 → stk pg x

section
variable {pg pg' : List Nat} {k k' D : List K} {p f w : Nat}
theorem Big.memD (h : Big pg pg' k k' p f w D) {x : K} (hx : x ∈ D) : x ∈ k ∧ x ∈ k' ∧ x.1 ≠ p ∧ 1 ≤ x.2.1 := by
  have h1 : x ∈ k := h.hk.mem_iff.2 (List.mem_cons_of_mem _ hx)
  have hw := h.A.wide x h1
  have hwp := h.A.wide (p, w, true) (h.hk.mem_iff.2 (by simp))
  refine ⟨h1, h.hk'.mem_iff.2 (List.mem_cons_of_mem _ hx), ?_, hw⟩
  have := h.apart x hx
  dsimp only at hwp
  omega
theorem Big.w1 (h : Big pg pg' k k' p f w D) : 1 ≤ w := h.A.wide (p, w, true) (h.hk.mem_iff.2 (by simp))
theorem Big.below (h : Big pg pg' k k' p f w D) (z : Nat) : Pot.below k z = (if p < z then w else 0) + Pot.below D z ∧ Pot.below k' z = (if f < z then w else 0) + Pot.below D z :=
  ⟨sumF_perm h.hk, sumF_perm h.hk'⟩
theorem Big.dd (h : Big pg pg' k k' p f w D) : (∀ z, Pot.dd k' z ≤ Pot.dd k z) ∧ Pot.dd k' f + 1 ≤ Pot.dd k p := by
  constructor
  · intro z
    obtain ⟨h1, h2⟩ := h.below z
    have := h.lt
    unfold Pot.dd
    rw [h1, h2]
    by_cases hz : p < z
    · rw [if_pos hz, if_pos (by omega)]; exact Nat.le_refl _
    · rw [if_neg hz]; omega
  · have h1 := (h.below p).1
    have h2 := (h.below f).2
    rw [if_neg (Nat.lt_irrefl _), Nat.zero_add] at h1 h2
    have hlt := h.lt
    have hsp := span (L := D) (a := f + 1) (b := p) h.so (fun y hy _ h2 => by have := h.apart y hy; omega)
    have hb0 : Pot.below D f ≤ f := below_le h.so (fun y hy h2 => by have := h.free y hy; have := h.w1; omega)
    have hb1 : Pot.below D p ≤ p := below_le h.so (fun y hy h2 => by have := h.apart y hy; omega)
    have e : Pot.below D p = Pot.below D f + sumF (fun y : K => if f + 1 ≤ y.1 ∧ y.1 < p then y.2.1 else 0) D := by
      unfold Pot.below
      rw [← sumF_add]
      refine sumF_congr fun y hy => ?_
      have := h.free y hy
      have := h.w1
      have := (h.memD hy).2.2.2
      by_cases h3 : y.1 < f
      · rw [if_pos (by omega), if_pos h3, if_neg (by omega), Nat.add_zero]
      · by_cases h4 : y.1 < p
        · rw [if_pos h4, if_neg h3, if_pos (by omega), Nat.zero_add]
        · rw [if_neg h4, if_neg h3, if_neg (by omega)]
    unfold Pot.dd
    rw [h1, h2]
    omega
theorem Big.ab (h : Big pg pg' k k' p f w D) (z : Nat) : Pot.ab k z = (if p > z then 1 else 0) + Pot.ab D z ∧ Pot.ab k' z = (if f > z then 1 else 0) + Pot.ab D z := by
  constructor
  · have : Pot.ab k z = cnt (fun y => y.2.2 = true ∧ z < y.1) ((p, w, true) :: D) := cnt_perm h.hk
    rw [this, cnt_cons]
    simp only [true_and, gt_iff_lt]
    rfl
  · have : Pot.ab k' z = cnt (fun y => y.2.2 = true ∧ z < y.1) ((f, w, true) :: D) := cnt_perm h.hk'
    rw [this, cnt_cons]
    simp only [true_and, gt_iff_lt]
    rfl
theorem Big.counts (h : Big pg pg' k k' p f w D) : nL k' = nL k ∧ nS k' = nS k ∧ wS k' = wS k :=
  ⟨by unfold nL; rw [cnt_perm h.hk', cnt_perm h.hk, cnt_cons, cnt_cons], by unfold nS; rw [cnt_perm h.hk', cnt_perm h.hk, cnt_cons, cnt_cons], by unfold wS; rw [sumF_perm h.hk', sumF_perm h.hk]; rfl⟩
theorem Big.res (h : Big pg pg' k k' p f w D) : Pot.res k' = Pot.res k := by
  unfold Pot.res
  rw [h.counts.1, h.counts.2.1, h.counts.2.2]

/-- E grows; if p lies below P, all of E was stuck, and the mover joins. -/
theorem Big.inE (h : Big pg pg' k k' p f w D) {P : Nat} : (∀ x ∈ D, x.2.2 = true → InE pg P x → InE pg' (min P p) x) ∧ InE pg' (min P p) (f, w, true) := by
  refine ⟨fun x hx hb hE => ?_, .inr h.now⟩
  have hm := h.memD hx
  by_cases hp : p < x.1
  · exact .inl (by omega)
  · rcases hE with h1 | h1
    · by_cases hP : P ≤ p
      · exact .inl (by omega)
      · omega
    · exact .inr (h.keep x hx (by omega) h1)
theorem Big.eE (h : Big pg pg' k k' p f w D) (P : Nat) : Pot.eE pg k P ≤ Pot.eE pg' k' (min P p) ∧ (p < P → Pot.eE pg k P + 1 ≤ Pot.eE pg' k' (min P p)) := by
  have e1 : Pot.eE pg k P = (if InE pg P (p, w, true) then 1 else 0) + cnt (fun x => x.2.2 = true ∧ InE pg P x) D := by
    have : Pot.eE pg k P = cnt (fun x => x.2.2 = true ∧ InE pg P x) ((p, w, true) :: D) := cnt_perm h.hk
    rw [this, cnt_cons]
    simp only [true_and]
  have e2 : Pot.eE pg' k' (min P p) = 1 + cnt (fun x => x.2.2 = true ∧ InE pg' (min P p) x) D := by
    have : Pot.eE pg' k' (min P p) = cnt (fun x => x.2.2 = true ∧ InE pg' (min P p) x) ((f, w, true) :: D) := cnt_perm h.hk'
    rw [this, cnt_cons, if_pos ⟨rfl, h.inE.2⟩]
  have e3 : cnt (fun x => x.2.2 = true ∧ InE pg P x) D ≤ cnt (fun x => x.2.2 = true ∧ InE pg' (min P p) x) D := cnt_le fun x hx hh => ⟨hh.1, h.inE.1 x hx hh.1 hh.2⟩
  rw [e1, e2]
  constructor
  · split <;> omega
  · intro hlt
    rw [if_neg (fun hE => hE.elim (fun h1 => by dsimp only at h1; omega) (fun h1 => h1 h.was))]
    omega

/-- The binary count falls, or is made anew. -/
theorem Big.bet_in (h : Big pg pg' k k' p f w D) {P : Nat} (hP : P ≤ p) : bet pg' k' P + 1 ≤ bet pg k P := by
  have hw := h.w1
  have e1 : bet pg k P = 2 ^ Pot.ab D p + sumF (fun x : K => if x.2.2 = true ∧ P ≤ x.1 ∧ low pg x.1 x.2.1 then 2 ^ Pot.ab k x.1 else 0) D := by
    have : bet pg k P = sumF (fun x : K => if x.2.2 = true ∧ P ≤ x.1 ∧ low pg x.1 x.2.1 then 2 ^ Pot.ab k x.1 else 0) ((p, w, true) :: D) := sumF_perm h.hk
    rw [this]
    simp only [sumF]
    rw [if_pos ⟨trivial, hP, h.was⟩, (h.ab p).1, if_neg (by omega), Nat.zero_add]
  have e2 : bet pg' k' P = sumF (fun x : K => if x.2.2 = true ∧ P ≤ x.1 ∧ low pg' x.1 x.2.1 then 2 ^ Pot.ab k' x.1 else 0) D := by
    have : bet pg' k' P = sumF (fun x : K => if x.2.2 = true ∧ P ≤ x.1 ∧ low pg' x.1 x.2.1 then 2 ^ Pot.ab k' x.1 else 0) ((f, w, true) :: D) := sumF_perm h.hk'
    rw [this]
    simp only [sumF]
    rw [if_neg (fun hh => h.now hh.2.2), Nat.zero_add]
  have e3 := two_pow_ab h.so (fun y hy => (h.memD hy).2.2.2) p
  have e4 : sumF (fun x : K => if x.2.2 = true ∧ P ≤ x.1 ∧ low pg' x.1 x.2.1 then 2 ^ Pot.ab k' x.1 else 0) D ≤ sumF (fun x : K => (if x.2.2 = true ∧ P ≤ x.1 ∧ low pg x.1 x.2.1 then 2 ^ Pot.ab k x.1 else 0) + (if x.2.2 = true ∧ p < x.1 then 2 ^ Pot.ab D x.1 else 0)) D := sumF_le fun x hx => by
    have hm := h.memD hx
    have hlt := h.lt
    by_cases hc : x.2.2 = true ∧ P ≤ x.1 ∧ low pg' x.1 x.2.1
    · rw [if_pos hc]
      by_cases hp : p < x.1
      · rw [if_pos (show x.2.2 = true ∧ p < x.1 from ⟨hc.1, hp⟩), (h.ab x.1).2, if_neg (show ¬ f > x.1 by omega), Nat.zero_add]
        omega
      · have h1 : low pg x.1 x.2.1 := Classical.byContradiction fun hn => h.keep x hx (by omega) hn hc.2.2
        rw [if_pos (show x.2.2 = true ∧ P ≤ x.1 ∧ low pg x.1 x.2.1 from ⟨hc.1, hc.2.1, h1⟩)]
        have h2 : Pot.ab k' x.1 ≤ Pot.ab k x.1 := by
          rw [(h.ab x.1).1, (h.ab x.1).2, if_pos (show p > x.1 by omega)]
          split <;> omega
        have := Nat.pow_le_pow_right (show 0 < 2 by omega) h2
        omega
    · rw [if_neg hc]; exact Nat.zero_le _
  rw [sumF_add] at e4
  omega
theorem Big.bet_new (h : Big pg pg' k k' p f w D) : bet pg' k' p + 1 ≤ 2 ^ Pot.ab k p := by
  have hw := h.w1
  have hlt := h.lt
  have e2 : bet pg' k' p = sumF (fun x : K => if x.2.2 = true ∧ p ≤ x.1 ∧ low pg' x.1 x.2.1 then 2 ^ Pot.ab k' x.1 else 0) D := by
    have : bet pg' k' p = sumF (fun x : K => if x.2.2 = true ∧ p ≤ x.1 ∧ low pg' x.1 x.2.1 then 2 ^ Pot.ab k' x.1 else 0) ((f, w, true) :: D) := sumF_perm h.hk'
    rw [this]
    simp only [sumF]
    rw [if_neg (fun hh => h.now hh.2.2), Nat.zero_add]
  have e3 := two_pow_ab h.so (fun y hy => (h.memD hy).2.2.2) p
  have e4 : bet pg' k' p ≤ sumF (fun x : K => if x.2.2 = true ∧ p < x.1 then 2 ^ Pot.ab D x.1 else 0) D := by
    rw [e2]
    refine sumF_le fun x hx => ?_
    have hm := h.memD hx
    by_cases hc : x.2.2 = true ∧ p ≤ x.1 ∧ low pg' x.1 x.2.1
    · rw [if_pos hc, if_pos ⟨hc.1, by omega⟩, (h.ab x.1).2, if_neg (by omega), Nat.zero_add]
      exact Nat.le_refl _
    · rw [if_neg hc]; exact Nat.zero_le _
  rw [(h.ab p).1, if_neg (by omega), Nat.zero_add]
  omega
/-- Those above the mover are stuck, and so of E. -/
theorem Big.ab_le (h : Big pg pg' k k' p f w D) (P : Nat) : Pot.ab k p ≤ Pot.eE pg k P := cnt_le fun x hx hh => ⟨hh.1, .inr (h.above x hx hh.1 hh.2)⟩
theorem Big.all (h : Big pg pg' k k' p f w D) {P : Nat} (hP : p < P) : ∀ y ∈ k, y.2.2 = true → P ≤ y.1 → stk pg y := fun y hy hb hle => h.above y hy hb (by omega)

/-- Part 2. -/
theorem Big.phi (h : Big pg pg' k k' p f w D) {P R : Nat} (he : 4 ≤ Pot.eE pg k P) (hR : nL k + nS k ≤ R + 4) : Pot.phi pg' k' (min P p) R + 1 ≤ Pot.phi pg k P R := by
  have hd := h.dd
  have he2 := Nat.le_trans he (h.eE P).1
  have hR2 : nL k' + nS k' ≤ R + 4 := by rw [h.counts.1, h.counts.2.1]; exact hR
  have e1 : Pot.phi pg k P R = (if InE pg P (p, w, true) then Pot.dd k p else 1 + (w - 1) * R) + sumF (fun x : K => if x.2.2 = true then (if InE pg P x then Pot.dd k x.1 else 1 + (x.2.1 - 1) * R) else 0) D := by
    have : Pot.phi pg k P R = sumF (fun x : K => if x.2.2 = true then (if InE pg P x then Pot.dd k x.1 else 1 + (x.2.1 - 1) * R) else 0) ((p, w, true) :: D) := sumF_perm h.hk
    rw [this]
    simp only [sumF, if_true]
  have e2 : Pot.phi pg' k' (min P p) R = Pot.dd k' f + sumF (fun x : K => if x.2.2 = true then (if InE pg' (min P p) x then Pot.dd k' x.1 else 1 + (x.2.1 - 1) * R) else 0) D := by
    have : Pot.phi pg' k' (min P p) R = sumF (fun x : K => if x.2.2 = true then (if InE pg' (min P p) x then Pot.dd k' x.1 else 1 + (x.2.1 - 1) * R) else 0) ((f, w, true) :: D) := sumF_perm h.hk'
    rw [this]
    simp only [sumF, if_true]
    rw [if_pos h.inE.2]
  have e3 : sumF (fun x : K => if x.2.2 = true then (if InE pg' (min P p) x then Pot.dd k' x.1 else 1 + (x.2.1 - 1) * R) else 0) D ≤ sumF (fun x : K => if x.2.2 = true then (if InE pg P x then Pot.dd k x.1 else 1 + (x.2.1 - 1) * R) else 0) D := sumF_le fun x hx => by
    have hm := h.memD hx
    cases hb : x.2.2 with
    | false => exact Nat.le_refl _
    | true =>
      rw [if_pos rfl, if_pos rfl]
      by_cases hE : InE pg P x
      · rw [if_pos hE, if_pos (h.inE.1 x hx hb hE)]
        exact hd.1 _
      · rw [if_neg hE]
        by_cases hE2 : InE pg' (min P p) x
        · rw [if_pos hE2]
          have hxp : x.1 < p := by
            refine Nat.lt_of_le_of_ne (Nat.le_of_not_lt fun hc => hE (.inr (h.above x hm.1 hb hc))) hm.2.2.1
          have hs : x.1 < min P p := by
            have : ¬ P ≤ x.1 := fun hc => hE (.inl hc)
            omega
          rcases hE2 with h3 | h3
          · omega
          · have := gap_R h.B he2 hR2 hm.2.1 h3 (.inl hs)
            omega
        · rw [if_neg hE2]; exact Nat.le_refl _
  rw [e1, e2]
  by_cases hE : InE pg P (p, w, true)
  · rw [if_pos hE]
    have := hd.2
    omega
  · rw [if_neg hE]
    have hpP : p < P := Nat.lt_of_not_le fun hc => hE (.inl hc)
    have hlt := h.lt
    have := gap_R h.B he2 hR2 (x := (f, w, true)) (h.hk'.mem_iff.2 (by simp)) h.now (.inl (by dsimp only; omega))
    dsimp only at this
    omega
end

/-- What is left: so many large slides, at most. -/
def Bud (cv : Nat) (pg : List Nat) (k : List K) (n : Nat) : Prop :=
  (∃ P, cnt (fun x => x.2.2 = true ∧ P ≤ x.1) k ≤ 3 ∧ bet pg k P + (16 - 2 ^ min (eE pg k P) 4) + res k + cv * nS k ≤ n) ∨
  (∃ P R, 4 ≤ eE pg k P ∧ nL k + nS k ≤ R + 4 ∧ phi pg k P R + cv * nS k ≤ n)

theorem pow_step {e : Nat} (h : e < 4) : 2 ^ min e 4 = 2 ^ e ∧ 2 ^ min (e + 1) 4 = 2 ^ e + 2 ^ e ∧ 1 ≤ 2 ^ e ∧ 2 ^ e + 2 ^ e ≤ 16 := by
  have : e = 0 ∨ e = 1 ∨ e = 2 ∨ e = 3 := by omega
  rcases this with rfl | rfl | rfl | rfl <;> decide
theorem pow_mono {a b : Nat} (h : a ≤ b) : 2 ^ min a 4 ≤ 2 ^ min b 4 := Nat.pow_le_pow_right (by omega) (by omega)

/-- From the first part to the second. -/
theorem switch {pg : List Nat} {k : List K} (Y : Sys pg k) {P : Nat} (he : 4 ≤ eE pg k P) (hall : ∀ y ∈ k, y.2.2 = true → P ≤ y.1 → stk pg y) : ∃ R, nL k + nS k ≤ R + 4 ∧ phi pg k P R ≤ res k := by
  have hL : eE pg k P ≤ nL k := cnt_le fun x _ h => h.1
  refine ⟨nL k + nS k - 4, by omega, ?_⟩
  have h1 : phi pg k P (nL k + nS k - 4) ≤ sumF (fun x : K => (if x.2.2 = true then 1 else 0) + (if x.2.2 = true then x.2.1 - 1 else 0) * (nL k + nS k - 4)) k := sumF_le fun x hx => by
    cases hb : x.2.2 with
    | false => exact Nat.zero_le _
    | true =>
      rw [if_pos rfl, if_pos rfl, if_pos rfl]
      by_cases hE : InE pg P x
      · rw [if_pos hE]
        have hs : stk pg x := hE.elim (hall x hx hb) id
        have := gap_R Y he (R := nL k + nS k - 4) (by omega) hx hs (.inr hall)
        omega
      · rw [if_neg hE]; exact Nat.le_refl _
  rw [sumF_add, sumF_mul, ← cnt_big] at h1
  unfold res
  rw [if_neg (by omega)]
  exact h1

theorem Bud.large {cv : Nat} {pg pg' : List Nat} {k k' D : List K} {p f w n : Nat} (h : Big pg pg' k k' p f w D) (hB : Bud cv pg k n) : ∃ n', n' + 1 ≤ n ∧ Bud cv pg' k' n' := by
  have key : ∀ P R, 4 ≤ eE pg k P → nL k + nS k ≤ R + 4 → phi pg k P R + cv * nS k ≤ n → ∃ n', n' + 1 ≤ n ∧ Bud cv pg' k' n' := fun P R he hR hn => by
    have h1 := h.phi he hR
    refine ⟨n - 1, by omega, .inr ⟨min P p, R, Nat.le_trans he (h.eE P).1, by rw [h.counts.1, h.counts.2.1]; exact hR, ?_⟩⟩
    rw [h.counts.2.1]
    omega
  rcases hB with ⟨P, hc, hn⟩ | ⟨P, R, he, hR, hn⟩
  · by_cases hP : P ≤ p
    · have h1 := h.bet_in hP
      have h2 := h.eE P
      rw [Nat.min_eq_left hP] at h2
      have h3 := pow_mono h2.1
      refine ⟨n - 1, by omega, .inl ⟨P, ?_, ?_⟩⟩
      · have e1 : cnt (fun x => x.2.2 = true ∧ P ≤ x.1) k = 1 + cnt (fun x => x.2.2 = true ∧ P ≤ x.1) D := by
          rw [cnt_perm h.hk, cnt_cons, if_pos ⟨rfl, hP⟩]
        have e2 : cnt (fun x => x.2.2 = true ∧ P ≤ x.1) k' ≤ 1 + cnt (fun x => x.2.2 = true ∧ P ≤ x.1) D := by
          rw [cnt_perm h.hk', cnt_cons]; split <;> omega
        omega
      · rw [h.res, h.counts.2.1]
        omega
    · have hP : p < P := by omega
      by_cases he : 4 ≤ eE pg k P
      · obtain ⟨R, hR, hr⟩ := switch h.A he (h.all hP)
        exact key P R he hR (by omega)
      · have h1 := h.bet_new
        have h2 := (h.eE P).2 hP
        rw [Nat.min_eq_right (by omega)] at h2
        have h3 := h.ab_le P
        have h4 := pow_step (show eE pg k P < 4 by omega)
        have h5 := pow_mono h2
        have h6 := Nat.pow_le_pow_right (show 0 < 2 by omega) h3
        refine ⟨n - 1, by omega, .inl ⟨p, ?_, ?_⟩⟩
        · have e1 : Pot.ab k p = cnt (fun x => x.2.2 = true ∧ p < x.1) D := by
            have := (h.ab p).1
            rw [if_neg (by omega), Nat.zero_add] at this
            exact this
          have e2 : cnt (fun x => x.2.2 = true ∧ p ≤ x.1) k' ≤ cnt (fun x => x.2.2 = true ∧ p < x.1) D := by
            have hlt := h.lt
            rw [cnt_perm h.hk', cnt_cons, if_neg (fun hh => by have := hh.2; dsimp only at this; omega), Nat.zero_add]
            exact cnt_le fun x hx hh => ⟨hh.1, by have := (h.memD hx).2.2.1; omega⟩
          omega
        · rw [h.res, h.counts.2.1]
          omega
  · exact key P R he hR hn

/-- A page of small places has gone. -/
structure Gone (pg pg' : List Nat) (k k' : List K) (q : Nat) : Prop where
  A : Sys pg k
  B : Sys pg' k'
  hk : k.Perm ((q, 1, false) :: k')
  hp : ∀ n, n ∈ pg' ↔ n ∈ pg ∧ n ≠ q
  above : ∀ x ∈ k, x.2.2 = true → q < x.1 → stk pg x

section
variable {pg pg' : List Nat} {k k' : List K} {q : Nat}
theorem Gone.mem (h : Gone pg pg' k k' q) {x : K} (hx : x ∈ k') : x ∈ k := h.hk.mem_iff.2 (List.mem_cons_of_mem _ hx)
theorem Gone.ne (h : Gone pg pg' k k' q) {x : K} (hx : x ∈ k') : x.1 ≠ q := fun e => by
  have := (h.hp x.1).1 ((h.B.mem x.1).2 ⟨x, hx, Nat.le_refl _, by have := h.B.wide x hx; omega⟩)
  exact this.2 e
theorem Gone.keep (h : Gone pg pg' k k' q) {x : K} (hx : x ∈ k') (hlt : x.1 < q) : low pg' x.1 x.2.1 ↔ low pg x.1 x.2.1 := by
  have hq : x.1 + x.2.1 ≤ q := by
    refine Nat.le_of_not_lt fun hc => ?_
    exact ((h.hp q).1 ((h.B.mem q).2 ⟨x, hx, by omega, hc⟩)).2 rfl
  constructor
  · rintro ⟨g, hg, hf⟩
    refine low_of hg fun n hn hno => ?_
    by_cases e : n = q
    · omega
    · exact Slb.freeB_iff.1 hf n (Slb.mem_less.2 ⟨(h.hp n).2 ⟨hn, e⟩, hno⟩)
  · rintro ⟨g, hg, hf⟩
    refine low_of hg fun n hn hno => ?_
    exact Slb.freeB_iff.1 hf n (Slb.mem_less.2 ⟨((h.hp n).1 hn).1, hno⟩)
theorem Gone.counts (h : Gone pg pg' k k' q) : nL k' = nL k ∧ nS k' + 1 = nS k ∧ wS k' = wS k := by
  refine ⟨?_, ?_, ?_⟩
  · have : nL k = nL ((q, 1, false) :: k') := cnt_perm h.hk
    rw [this]; unfold nL; rw [cnt_cons, if_neg (by simp), Nat.zero_add]
  · have : nS k = nS ((q, 1, false) :: k') := cnt_perm h.hk
    rw [this]; unfold nS; rw [cnt_cons, if_pos rfl, Nat.add_comm]
  · have : wS k = wS ((q, 1, false) :: k') := sumF_perm h.hk
    rw [this]; unfold wS; simp only [sumF]; rw [if_neg (by simp), Nat.zero_add]
theorem Gone.ab (h : Gone pg pg' k k' q) (z : Nat) : Pot.ab k z = Pot.ab k' z := by
  have : Pot.ab k z = Pot.ab ((q, 1, false) :: k') z := cnt_perm h.hk
  rw [this]; unfold Pot.ab; rw [cnt_cons, if_neg (by simp), Nat.zero_add]
theorem Gone.dd (h : Gone pg pg' k k' q) (z : Nat) : Pot.dd k' z ≤ Pot.dd k z + (if q < z then 1 else 0) := by
  have : Pot.below k z = (if q < z then 1 else 0) + Pot.below k' z := sumF_perm h.hk
  unfold Pot.dd
  rw [this]
  split <;> omega
theorem Gone.inE (h : Gone pg pg' k k' q) {P : Nat} {x : K} (hx : x ∈ k') (hb : x.2.2 = true) (hE : InE pg P x) : InE pg' (min P q) x := by
  by_cases hq : q < x.1
  · exact .inl (by omega)
  · have hne := h.ne hx
    rcases hE with h1 | h1
    · exact .inl (by omega)
    · exact .inr fun hl => h1 ((h.keep hx (by omega)).1 hl)
theorem Gone.eE (h : Gone pg pg' k k' q) (P : Nat) : Pot.eE pg k P ≤ Pot.eE pg' k' (min P q) := by
  have : Pot.eE pg k P = cnt (fun x => x.2.2 = true ∧ InE pg P x) ((q, 1, false) :: k') := cnt_perm h.hk
  rw [this, cnt_cons, if_neg (by simp), Nat.zero_add]
  exact cnt_le fun x hx hh => ⟨hh.1, h.inE hx hh.1 hh.2⟩
theorem Gone.bet (h : Gone pg pg' k k' q) (P : Nat) : Pot.bet pg' k' (min P q) + 1 ≤ Pot.bet pg k P + 2 ^ Pot.ab k q := by
  have e0 := two_pow_ab h.B.ord h.B.wide q
  rw [← h.ab] at e0
  have e1 : Pot.bet pg k P = sumF (fun x : K => if x.2.2 = true ∧ P ≤ x.1 ∧ low pg x.1 x.2.1 then 2 ^ Pot.ab k x.1 else 0) k' := by
    have : Pot.bet pg k P = sumF (fun x : K => if x.2.2 = true ∧ P ≤ x.1 ∧ low pg x.1 x.2.1 then 2 ^ Pot.ab k x.1 else 0) ((q, 1, false) :: k') := sumF_perm h.hk
    rw [this]; simp only [sumF]; rw [if_neg (by simp), Nat.zero_add]
  have e2 : Pot.bet pg' k' (min P q) ≤ sumF (fun x : K => (if x.2.2 = true ∧ P ≤ x.1 ∧ low pg x.1 x.2.1 then 2 ^ Pot.ab k x.1 else 0) + (if x.2.2 = true ∧ q < x.1 then 2 ^ Pot.ab k' x.1 else 0)) k' := sumF_le fun x hx => by
    by_cases hc : x.2.2 = true ∧ min P q ≤ x.1 ∧ low pg' x.1 x.2.1
    · rw [if_pos hc]
      by_cases hq : q < x.1
      · rw [if_pos (show x.2.2 = true ∧ q < x.1 from ⟨hc.1, hq⟩)]; omega
      · have hne := h.ne hx
        rw [if_pos (show x.2.2 = true ∧ P ≤ x.1 ∧ low pg x.1 x.2.1 from ⟨hc.1, by omega, (h.keep hx (by omega)).1 hc.2.2⟩), h.ab]
        omega
    · rw [if_neg hc]; exact Nat.zero_le _
  rw [sumF_add] at e2
  omega
theorem Gone.phi (h : Gone pg pg' k k' q) (P R : Nat) : Pot.phi pg' k' (min P q) R ≤ Pot.phi pg k P R + nL k := by
  have e1 : Pot.phi pg k P R = sumF (fun x : K => if x.2.2 = true then (if InE pg P x then Pot.dd k x.1 else 1 + (x.2.1 - 1) * R) else 0) k' := by
    have : Pot.phi pg k P R = sumF (fun x : K => if x.2.2 = true then (if InE pg P x then Pot.dd k x.1 else 1 + (x.2.1 - 1) * R) else 0) ((q, 1, false) :: k') := sumF_perm h.hk
    rw [this]; simp only [sumF]; rw [if_neg (by simp), Nat.zero_add]
  rw [← h.counts.1, e1]
  unfold nL
  rw [cnt_big, ← sumF_add]
  refine sumF_le fun x hx => ?_
  cases hb : x.2.2 with
  | false => exact Nat.zero_le _
  | true =>
    rw [if_pos rfl, if_pos rfl, if_pos rfl]
    by_cases hE : InE pg P x
    · rw [if_pos hE, if_pos (h.inE hx hb hE)]
      have := h.dd x.1
      split at this <;> omega
    · rw [if_neg hE, if_neg ?_]
      · omega
      · have hq : x.1 < q := Nat.lt_of_le_of_ne (Nat.le_of_not_lt fun hc => hE (.inr (h.above x (h.mem hx) hb hc))) (h.ne hx)
        rintro (h1 | h1)
        · exact hE (.inl (by omega))
        · exact hE (.inr fun hl => h1 ((h.keep hx hq).2 hl))
end

theorem Bud.gone {cv : Nat} {pg pg' : List Nat} {k k' : List K} {q n : Nat} (h : Gone pg pg' k k' q) (h7 : 7 ≤ cv) (hL : nL k ≤ cv) (hB : Bud cv pg k n) : Bud cv pg' k' n := by
  obtain ⟨c1, c2, c3⟩ := h.counts
  have hcv : cv * nS k = cv * nS k' + cv := by rw [← c2, Nat.mul_add, Nat.mul_one]
  have key : ∀ P R, 4 ≤ eE pg k P → nL k + nS k ≤ R + 4 → phi pg k P R + cv * nS k ≤ n → Bud cv pg' k' n := fun P R he hR hn => by
    have h1 := h.phi P R
    exact .inr ⟨min P q, R, Nat.le_trans he (h.eE P), by omega, by omega⟩
  have hres : res k' ≤ res k := by
    unfold res
    rw [c1, c3]
    split
    · exact Nat.le_refl _
    · have : wS k * (nL k + nS k' - 4) ≤ wS k * (nL k + nS k - 4) := Nat.mul_le_mul_left _ (by omega)
      omega
  have habE : ∀ P, ab k q ≤ eE pg k P := fun P => cnt_le fun x hx hh => ⟨hh.1, .inr (h.above x hx hh.1 hh.2)⟩
  rcases hB with ⟨P, hc, hn⟩ | ⟨P, R, he, hR, hn⟩
  · have main : ab k q ≤ 3 → cnt (fun x => x.2.2 = true ∧ min P q ≤ x.1) k' ≤ 3 → Bud cv pg' k' n := fun h1 h2 => by
      have h3 := h.bet P
      have h4 := pow_mono (h.eE P)
      have h5 : 2 ^ ab k q ≤ 2 ^ 3 := Nat.pow_le_pow_right (by omega) h1
      exact .inl ⟨min P q, h2, by omega⟩
    have hcnt : ∀ p : K → Prop, cnt p k' ≤ cnt p k := fun p => by rw [cnt_perm h.hk, cnt_cons]; omega
    by_cases hP : P ≤ q
    · rw [Nat.min_eq_left hP] at main
      refine main (Nat.le_trans (cnt_le fun x _ hh => ⟨hh.1, ?_⟩) hc) (Nat.le_trans (hcnt _) hc)
      omega
    · have hP : q < P := by omega
      by_cases he : 4 ≤ eE pg k P
      · obtain ⟨R, hR, hr⟩ := switch h.A he (fun y hy hb hle => h.above y hy hb (by omega))
        exact key P R he hR (by omega)
      · have h1 := habE P
        rw [Nat.min_eq_right (by omega)] at main
        refine main (by omega) ?_
        have : cnt (fun x => x.2.2 = true ∧ q ≤ x.1) k' ≤ ab k' q := cnt_le fun x hx hh => ⟨hh.1, by have := h.ne hx; omega⟩
        rw [← h.ab] at this
        omega
  · exact key P R he hR hn

/-- At the start. -/
theorem Bud.start (cv : Nat) {pg : List Nat} {k : List K} {P : Nat} (hP : ∀ x ∈ k, x.1 < P) : Bud cv pg k (15 + res k + cv * nS k) := by
  have h0 : ∀ p : K → Prop, (∀ x ∈ k, ¬ p x) → cnt p k = 0 := fun p hp => by
    have : cnt p k ≤ sumF (fun _ => 0) k := sumF_le fun x hx => by rw [if_neg (hp x hx)]; exact Nat.le_refl _
    have e : ∀ L : List K, sumF (fun _ => 0) L = 0 := fun L => by induction L with
      | nil => rfl
      | cons x L ih => simp only [sumF, ih]
    rw [e] at this
    omega
  have hb : bet pg k P = 0 := by
    have : bet pg k P ≤ sumF (fun _ => 0) k := sumF_le fun x hx => by
      rw [if_neg (fun hh => by have := hP x hx; omega)]; exact Nat.le_refl _
    have e : ∀ L : List K, sumF (fun _ => 0) L = 0 := fun L => by induction L with
      | nil => rfl
      | cons x L ih => simp only [sumF, ih]
    rw [e] at this
    omega
  refine .inl ⟨P, ?_, ?_⟩
  · rw [h0 _ (fun x hx hh => by have := hP x hx; omega)]; omega
  · have : 1 ≤ 2 ^ min (eE pg k P) 4 := Nat.pos_of_ne_zero (by simp)
    omega

set_option maxRecDepth 100000 in
theorem small_sums : ∀ a < 63, ∀ b < 63, 4 ≤ a → a + b ≤ 62 → 15 + max 7 a * b + a + (62 - (a + b)) * (a + b - 4) + b ≤ 40 * (a + b) + 40 := by decide +kernel
/-- The numbers. -/
theorem bound {a b w m : Nat} (h1 : w + a + b ≤ 62) (h2 : b ≤ m) : m + (15 + (if a < 4 then 0 else a + w * (a + b - 4)) + max 7 a * b) ≤ 40 * (a + m) + 40 := by
  by_cases h : a < 4
  · rw [if_pos h, show max 7 a = 7 by omega]; omega
  · rw [if_neg h]
    have h3 := small_sums a (by omega) b (by omega) (by omega) (by omega)
    have h4 : w * (a + b - 4) ≤ (62 - (a + b)) * (a + b - 4) := Nat.mul_le_mul_right _ (by omega)
    omega
end
end Pot
end Go.Proofs.YtpcomekikeoliaaDoor
