/- What a new store's three records do when the first is dropped: the last goes to its place, then all rest. No program stands here. No condition. -/
import Derived.Test.YtfmcddomciicdaaGreatDoorCompactB
set_option linter.unusedVariables false
set_option linter.unusedSimpArgs false
set_option maxRecDepth 100000
namespace Go.Proofs.YtfmcddomciicdaaGreatDoor
open Go

namespace Aw7
def t0 : HTbl := ⟨10, 4294967295, []⟩
def adr (S : Slb) : Int := (S.halloc (0 + 2)).1
def mkT (S : Slb) (T : HTbl) : HTbl := (T.open' (adr S)).2.2
def mkS (S : Slb) (T : HTbl) : Slb := (((S.halloc (0 + 2)).2.2.write (adr S) (T.open' (adr S)).1).2.write (adr S + 1) 0).2
theorem mk {S S' : Slb} {T T' : HTbl} {H H' : List Ent} {R R' : List Rc} {hd er : Int} (M : Made S T H R 0 hd er S' T' H' R') (h1 : (S.halloc (0 + 2)).2.1 = 0) (h2 : (T.free : Int) ≠ T.most) :
    er = 0 ∧ S' = mkS S T ∧ T' = mkT S T ∧ hd = (T.open' (adr S)).1 ∧ R' = R ++ [⟨(T.open' (adr S)).1, adr S, []⟩] := by
  cases M with
  | arg hn => omega
  | quota h0 hl e => rw [e] at h1; cases h1
  | full h0 hl a S1 H1 e ha A W hf => exact absurd hf h2
  | ok h0 hl a S1 H1 e ha A W hf hd S2 S3 ho d0 d1 w1 w2 =>
    unfold mkS mkT adr
    rw [e]
    dsimp only
    rw [ho]
    dsimp only
    rw [w1]
    dsimp only
    rw [w2]
    exact ⟨rfl, rfl, rfl, rfl, rfl⟩
def s0 : Slb := Slb.empty 640
def s1 := mkS s0 t0
def t1 := mkT s0 t0
def s2 := mkS s1 t1
def t2 := mkT s1 t1
def s3 := mkS s2 t2
def t3 := mkT s2 t2
theorem k0 : (s0.halloc (0 + 2)).2.1 = 0 := by kernel_rfl
theorem k1 : (s1.halloc (0 + 2)).2.1 = 0 := by kernel_rfl
theorem k2 : (s2.halloc (0 + 2)).2.1 = 0 := by kernel_rfl
theorem f0 : t0.free = 0 := by kernel_rfl
theorem f1 : t1.free = 1 ∧ t1.most = 10 := ⟨by kernel_rfl, by kernel_rfl⟩
theorem f2 : t2.free = 2 ∧ t2.most = 10 := ⟨by kernel_rfl, by kernel_rfl⟩
theorem a0 : adr s0 = 2 := by kernel_rfl
theorem a1 : adr s1 = 4 := by kernel_rfl
theorem a2 : adr s2 = 6 := by kernel_rfl
theorem h0 : (t0.open' (adr s0)).1 = 4294967297 := by kernel_rfl
theorem h1 : (t1.open' (adr s1)).1 = 4294967298 := by kernel_rfl
theorem h2 : (t2.open' (adr s2)).1 = 4294967299 := by kernel_rfl
def R3 : List Rc := [⟨4294967297, 2, []⟩, ⟨4294967298, 4, []⟩, ⟨4294967299, 6, []⟩]
def R4 : List Rc := [⟨4294967297, -1, []⟩, ⟨4294967298, 4, []⟩, ⟨4294967299, 6, []⟩]
def R5 : List Rc := [⟨4294967297, -1, []⟩, ⟨4294967298, 4, []⟩, ⟨4294967299, 2, []⟩]
def s4 : Slb := (s3.hfree 2).2
def s5 : Slb := (s4.hslide 6).2.2
theorem at3 : (t3.at' 4294967297).2 = 0 := by kernel_rfl
theorem tr4 : tried s4 = [4294967299, 4294967298] := by kernel_rfl
theorem sl4 : (s4.hslide 6).1 = 2 := by kernel_rfl
theorem tr5 : tried s5 = [4294967298, 4294967299] := by kernel_rfl
theorem sl5 : (s5.hslide 4).1 = 4 := by kernel_rfl
theorem sl5' : (s5.hslide 2).1 = 2 := by kernel_rfl

theorem rec3 {R : List Rc} {a b c : Rc} (e : R = [a, b, c]) {hh : Int} {j : Nat} {r : Rc} (L : Rec R hh j r) : (j = 0 ∧ r = a) ∨ (j = 1 ∧ r = b) ∨ (j = 2 ∧ r = c) := by
  have hj := L.hj
  subst e
  match j, hj with
  | 0, h => exact .inl ⟨rfl, by simpa using h.symm⟩
  | 1, h => exact .inr (.inl ⟨rfl, by simpa using h.symm⟩)
  | 2, h => exact .inr (.inr ⟨rfl, by simpa using h.symm⟩)
  | j + 3, h => simp at h

section
variable {S S' : Slb} {T T' : HTbl} {H H' : List Ent} {R R' : List Rc}
theorem drop {er : Int} (D : Drops s3 t3 H R3 4294967297 er S' T' H' R') : er = 0 ∧ S' = s4 ∧ R' = R4 := by
  cases D with
  | stale e => have := at3; rw [e] at this; cases this
  | ok j r L S2 T2 H2 e =>
    rcases rec3 rfl L with ⟨rfl, rfl⟩ | ⟨rfl, rfl⟩ | ⟨rfl, rfl⟩
    · refine ⟨rfl, ?_, rfl⟩
      unfold s4
      rw [e]
    · have := L.he; simp at this
    · have := L.he; simp at this
theorem rest4 : ¬ Rests s4 R4 4294967299 := by
  rintro ⟨j, r, L, e⟩
  rcases rec3 rfl L with ⟨rfl, rfl⟩ | ⟨rfl, rfl⟩ | ⟨rfl, rfl⟩
  · have := L.he; simp at this
  · have := L.he; simp at this
  · have := sl4
    dsimp only at e
    omega
theorem step4 {is : Bool} (D : Stepped s4 T H R4 is S' T' H' R') : is = true ∧ S' = s5 ∧ R' = R5 := by
  cases D with
  | done all I => exact absurd (all _ (by rw [tr4]; simp)) rest4
  | gone pre post x e rest D =>
    rw [tr4] at e
    cases pre with
    | cons y pre =>
      simp only [List.cons_append, List.cons.injEq] at e
      exact absurd (rest y (by simp)) (e.1 ▸ rest4)
    | nil =>
      simp only [List.nil_append, List.cons.injEq] at e
      obtain ⟨rfl, -⟩ := e
      refine ⟨rfl, ?_⟩
      generalize hb : true = b at D
      cases D with
      | ok j r L tq S2 T2 H2 e =>
        rcases rec3 rfl L with ⟨rfl, rfl⟩ | ⟨rfl, rfl⟩ | ⟨rfl, rfl⟩
        · have := L.he; simp at this
        · have := L.he; simp at this
        · have h1 := sl4
          dsimp only at e
          rw [e] at h1
          dsimp only at h1
          refine ⟨?_, ?_⟩
          · unfold s5; rw [e]
          · rw [h1]; rfl
theorem step5 {is : Bool} (D : Stepped s5 T H R5 is S' T' H' R') : is = false := by
  cases D with
  | done all I => rfl
  | gone pre post x e rest D =>
    exfalso
    generalize hb : true = b at D
    cases D with
    | ok j r L tq S2 T2 H2 e =>
      rcases rec3 rfl L with ⟨rfl, rfl⟩ | ⟨rfl, rfl⟩ | ⟨rfl, rfl⟩
      · have := L.h0; simp at this
      · have h1 := sl5
        dsimp only at e hb
        rw [e] at h1
        dsimp only at h1
        rw [h1] at hb
        simp at hb
      · have h1 := sl5'
        dsimp only at e hb
        rw [e] at h1
        dsimp only at h1
        rw [h1] at hb
        simp at hb
end

theorem all {g1 g2 g3 e1 e2 e3 : Int} {S1 S2 S3 : Slb} {T1 T2 T3 : HTbl} {H1 H2 H3 : List Ent} {R1 R2 Q3 : List Rc} (M1 : Made (Slb.empty 640) ⟨10, 4294967295, []⟩ [] [] 0 g1 e1 S1 T1 H1 R1) (M2 : Made S1 T1 H1 R1 0 g2 e2 S2 T2 H2 R2) (M3 : Made S2 T2 H2 R2 0 g3 e3 S3 T3 H3 Q3) :
    e1 = 0 ∧ Named T3 Q3 g1 ∧ ∀ {er : Int} {S4 T4 H4 R4}, Drops S3 T3 H3 Q3 g1 er S4 T4 H4 R4 → er = 0 ∧ ∀ {is : Bool} {S5 T5 H5 R5}, Stepped S4 T4 H4 R4 is S5 T5 H5 R5 → is = true ∧ ∀ {is' : Bool} {S6 T6 H6 R6}, Stepped S5 T5 H5 R5 is' S6 T6 H6 R6 → is' = false := by
  have hf0 : ((t0.free : Nat) : Int) ≠ t0.most := by rw [f0]; decide
  obtain ⟨rfl, rfl, rfl, rfl, rfl⟩ := mk (S := s0) (T := t0) M1 k0 hf0
  obtain ⟨rfl, rfl, rfl, rfl, rfl⟩ := mk (S := s1) (T := t1) M2 k1 (by rw [f1.1, f1.2]; decide)
  obtain ⟨rfl, rfl, rfl, rfl, rfl⟩ := mk (S := s2) (T := t2) M3 k2 (by rw [f2.1, f2.2]; decide)
  have hR : (([] ++ [⟨(t0.open' (adr s0)).1, adr s0, []⟩] ++ [⟨(t1.open' (adr s1)).1, adr s1, []⟩] : List Rc) ++ [⟨(t2.open' (adr s2)).1, adr s2, []⟩]) = R3 := by
    rw [h0, h1, h2, a0, a1, a2]
    rfl
  rw [hR]
  have hs3 : mkS s2 t2 = s3 := rfl
  have ht3 : mkT s2 t2 = t3 := rfl
  rw [hs3, ht3, h0]
  refine ⟨rfl, .inl ⟨0, _, rfl, rfl⟩, fun D => ?_⟩
  obtain ⟨rfl, rfl, rfl⟩ := drop D
  refine ⟨rfl, fun D => ?_⟩
  obtain ⟨rfl, rfl, rfl⟩ := step4 D
  exact ⟨rfl, fun D => step5 D⟩
end Aw7
end Go.Proofs.YtfmcddomciicdaaGreatDoor
