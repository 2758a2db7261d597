/- HandleMoves' plain law: a table whose slots are all open, each once, with any addresses. No condition. -/
import Derived.Test.YtbcecgbnnpbjbaaHandleLeastSpec
namespace Go.Proofs.Ytbcecgbnnpbjbaa
namespace HTbl

def allOpen (n : Int) (ad : List Int) : HTbl := ⟨n, 4294967295, ad.map fun a => ⟨1, 1, a⟩⟩

theorem all_get (n : Int) (ad : List Int) (k : Nat) : (allOpen n ad).l[k]? = ad[k]?.map fun a => ⟨1, 1, a⟩ := by simp [allOpen]
theorem all_len (n : Int) (ad : List Int) : (allOpen n ad).l.length = ad.length := by simp [allOpen]

theorem all_free (n : Int) (ad : List Int) : (allOpen n ad).free = ad.length := by
  refine freeIn_eq _ _ (fun k s hk hs => ?_) (by rw [all_len]; exact Nat.le_refl _) (fun s hs => ?_)
  · rw [all_get, List.getElem?_eq_getElem hk] at hs
    simp at hs; subst hs; simp
  · rw [all_get, List.getElem?_eq_none (Nat.le_refl _)] at hs
    simp at hs

theorem all_open (n : Nat) (ad : List Int) (h : ad.length < n) (a : Int) (ha : 0 ≤ a) : (allOpen n ad).open' a = (leastName ad.length, 0, allOpen n (ad ++ [a])) := by
  have hf := all_free n ad
  have hg : (allOpen n ad).genAt ad.length = 0 := by unfold genAt; rw [all_get, List.getElem?_eq_none (Nat.le_refl _)]; rfl
  unfold open' openK put
  rw [hf, hg, if_neg (by omega), if_neg (by simp only [allOpen]; omega), all_len, if_neg (Nat.lt_irrefl _)]
  have e1 : nameOf ad.length (0 + 1) = leastName ad.length := by unfold nameOf leastName; omega
  rw [e1]
  simp [allOpen]

theorem all_okB (n : Int) (ad : List Int) (k : Nat) (h : k < ad.length) (hm : ad.length ≤ 30) : (allOpen n ad).okB (leastName k) = true := by
  have e1 : place (leastName k) = k := by unfold place leastName; omega
  have e2 : leastName k / 4294967296 = 1 := by unfold leastName; omega
  unfold okB
  rw [e1, Int.toNat_natCast, all_get, List.getElem?_eq_getElem h, e2]
  simp

theorem all_at (n : Int) (ad : List Int) (k : Nat) (h : k < ad.length) (hm : ad.length ≤ 30) : (allOpen n ad).at' (leastName k) = (ad[k], 0) := by
  have e1 : place (leastName k) = k := by unfold place leastName; omega
  unfold at'
  rw [all_okB n ad k h hm, e1, Int.toNat_natCast, all_get, List.getElem?_eq_getElem h]
  simp

theorem all_move (n : Int) (ad : List Int) (k : Nat) (h : k < ad.length) (hm : ad.length ≤ 30) (a : Int) (ha : 0 ≤ a) : (allOpen n ad).move (leastName k) a = (0, allOpen n (ad.set k a)) := by
  have e1 : place (leastName k) = k := by unfold place leastName; omega
  unfold move
  rw [if_neg (by omega), all_okB n ad k h hm, e1, Int.toNat_natCast]
  unfold setAddr
  rw [all_get, List.getElem?_eq_getElem h]
  simp [allOpen, List.map_set]

theorem all_stays (n : Int) (ad : List Int) (h a : Int) (ha : a < 0) : (allOpen n ad).move h a = (2, allOpen n ad) := by
  unfold move; rw [if_pos ha]

theorem all_liveTo (n : Int) (ad : List Int) (j : Nat) (h : j ≤ ad.length) : ((allOpen n ad).liveTo j).length = j := by
  induction j with
  | zero => rfl
  | succ j ih =>
    simp only [liveTo, List.length_append, ih (by omega), all_get, List.getElem?_eq_getElem (show j < ad.length by omega)]
    simp
theorem all_live (n : Int) (ad : List Int) : (allOpen n ad).live.length = ad.length := by
  unfold live; rw [all_len]; exact all_liveTo n ad _ (Nat.le_refl _)
end HTbl
end Go.Proofs.Ytbcecgbnnpbjbaa
