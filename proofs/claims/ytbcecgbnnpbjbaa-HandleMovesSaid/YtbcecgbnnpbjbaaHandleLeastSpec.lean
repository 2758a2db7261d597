/- HandleLeast's plain law: a table whose slots are each opened once, and some closed. No condition. -/
import Derived.Test.YtbcecgbnnpbjbaaHandleSpec
namespace Go.Proofs.Ytbcecgbnnpbjbaa
namespace HTbl

/-- The first i slots of at most n, each opened once, at its place; those of P are closed. -/
def leastAt (n : Int) (i : Nat) (P : Nat → Bool) : HTbl := ⟨n, 4294967295, (List.range i).map fun k => ⟨if P k then 0 else 1, 1, (k : Int)⟩⟩
def leastName (k : Nat) : Int := 4294967296 + ((k : Int) + 1)

theorem least_len (n : Int) (i : Nat) (P : Nat → Bool) : (leastAt n i P).l.length = i := by simp [leastAt]
theorem least_get (n : Int) (i : Nat) (P : Nat → Bool) (k : Nat) : (leastAt n i P).l[k]? = if k < i then some ⟨if P k then 0 else 1, 1, (k : Int)⟩ else none := by
  by_cases h : k < i
  · simp [leastAt, h]
  · simp [leastAt, h]

theorem least_free (n : Int) (i L : Nat) (P : Nat → Bool) (h1 : L ≤ i) (h2 : ∀ k, k < L → P k = false) (h3 : L < i → P L = true) : (leastAt n i P).free = L := by
  refine freeIn_eq _ _ (fun k s hk hs => ?_) (by rw [least_len]; exact h1) (fun s hs => ?_)
  · rw [least_get, if_pos (by omega)] at hs
    simp only [Option.some.injEq] at hs
    subst hs
    simp [h2 k hk]
  · rw [least_get] at hs
    split at hs
    · rename_i h
      simp only [Option.some.injEq] at hs
      subst hs
      simp [h3 h]
    · simp at hs

theorem least_open (n i : Nat) (h : i < n) : (leastAt n i fun _ => false).open' (i : Int) = (leastName i, 0, leastAt n (i + 1) fun _ => false) := by
  have hf := least_free n i i (fun _ => false) (Nat.le_refl _) (fun _ _ => rfl) (fun h => absurd h (Nat.lt_irrefl _))
  have hg : (leastAt n i fun _ => false).genAt i = 0 := by unfold genAt; rw [least_get, if_neg (Nat.lt_irrefl _)]
  unfold open' openK put
  rw [hf, hg, if_neg (by omega), if_neg (by simp only [leastAt]; omega), least_len, if_neg (Nat.lt_irrefl _)]
  have e1 : nameOf i (0 + 1) = leastName i := by unfold nameOf leastName; omega
  rw [e1]
  simp [leastAt, List.range_succ]

theorem least_okB (n : Int) (m : Nat) (P : Nat → Bool) (k : Nat) (h : k < m) (hm : m ≤ 30) : (leastAt n m P).okB (leastName k) = !P k := by
  have e1 : place (leastName k) = k := by unfold place leastName; omega
  have e2 : leastName k / 4294967296 = 1 := by unfold leastName; omega
  unfold okB
  rw [e1, Int.toNat_natCast, least_get, if_pos h, e2]
  by_cases hp : P k = true
  · simp [hp]
  · simp [hp]

theorem least_close (n : Int) (m : Nat) (P : Nat → Bool) (k : Nat) (h : k < m) (hm : m ≤ 30) (hp : P k = false) : (leastAt n m P).close (leastName k) = (0, leastAt n m fun x => x == k || P x) := by
  have e1 : place (leastName k) = k := by unfold place leastName; omega
  unfold close
  rw [least_okB n m P k h hm, hp]
  simp only [Bool.not_false, if_true, e1, Int.toNat_natCast]
  unfold shut
  rw [least_get, if_pos h]
  have e3 : ((leastAt n m P).l.set k ⟨0, 1, (k : Int)⟩) = (leastAt n m fun x => x == k || P x).l := by
    refine List.ext_getElem? fun j => ?_
    rw [List.getElem?_set, least_get, least_get, least_len]
    by_cases hj : k = j
    · subst hj; simp [h]
    · have : (j == k) = false := by simp; omega
      simp [hj, this]
  have e4 : (1 : Int) ≠ (leastAt n m P).last := by simp [leastAt]
  simp only [if_neg e4]
  rw [e3]
  rfl

theorem least_stale (n : Int) (m : Nat) (P : Nat → Bool) (k : Nat) (h : k < m) (hm : m ≤ 30) (hp : P k = true) : (leastAt n m P).close (leastName k) = (7, leastAt n m P) := by
  unfold close
  rw [least_okB n m P k h hm, hp]
  simp

structure LeastInv (m L : Nat) (P : Nat → Bool) : Prop where
  le : L ≤ m
  lo : ∀ k, k < L → P k = false
  at_ : L < m → P L = true

theorem LeastInv.first (m : Nat) : LeastInv m m fun _ => false := ⟨Nat.le_refl _, fun _ _ => rfl, fun h => absurd h (Nat.lt_irrefl _)⟩
theorem LeastInv.less {m L : Nat} {P : Nat → Bool} (h : LeastInv m L P) (k : Nat) (hk : k < L) : LeastInv m k fun x => x == k || P x :=
  ⟨by have := h.le; omega, fun x hx => by have : (x == k) = false := by simp; omega
                                          simp [this, h.lo x (by omega)], fun _ => by simp⟩
theorem LeastInv.more {m L : Nat} {P : Nat → Bool} (h : LeastInv m L P) (k : Nat) (hk : L ≤ k) : LeastInv m L fun x => x == k || P x :=
  ⟨h.le, fun x hx => by have : (x == k) = false := by simp; omega
                        simp [this, h.lo x hx], fun hl => by simp [h.at_ hl]⟩

theorem least_full (m : Nat) (P : Nat → Bool) (h : LeastInv m m P) : (leastAt m m P).open' 7 = (0, 10, leastAt m m P) := by
  have hf := least_free m m m P h.le h.lo h.at_
  unfold open'
  rw [hf, if_neg (by omega), if_pos (by simp [leastAt])]

theorem least_last (m L : Nat) (P : Nat → Bool) (h : LeastInv m L P) (hl : L < m) : ∃ T, (leastAt m m P).open' 7 = (8589934592 + ((L : Int) + 1), 0, T) ∧ T.l.length = m := by
  have hf := least_free m m L P h.le h.lo h.at_
  have hg : (leastAt m m P).genAt L = 1 := by unfold genAt; rw [least_get, if_pos hl]
  refine ⟨(leastAt m m P).openK 7, ?_, ?_⟩
  · unfold open'
    rw [hf, hg, if_neg (by omega), if_neg (by simp only [leastAt]; omega)]
    have e1 : nameOf L (1 + 1) = 8589934592 + ((L : Int) + 1) := by unfold nameOf; omega
    rw [e1]
  · unfold openK put
    rw [hf, least_len, if_pos hl]
    simp [least_len]
end HTbl
end Go.Proofs.Ytbcecgbnnpbjbaa
