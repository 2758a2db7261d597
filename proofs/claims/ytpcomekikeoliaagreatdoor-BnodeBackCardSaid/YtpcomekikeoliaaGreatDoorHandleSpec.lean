/- The plain law of package handle: what a table's calls compute, as functions on lists. No program stands here. No condition. -/
namespace Go.Proofs.YtpcomekikeoliaaGreatDoor

/-- A slot: 0 free, 1 open, 2 retired; its generation; its address. -/
structure HSlot where
  is : Int
  gen : Int
  addr : Int

/-- A table: how many slots at most, the last generation, the slots that were opened. -/
structure HTbl where
  most : Int
  last : Int
  l : List HSlot

namespace HTbl
/-- The place of a handle: its lower 32 bits less 1. -/
def place (h : Int) : Int := h % 4294967296 - 1

/-- Is a handle live? -/
def okB (T : HTbl) (h : Int) : Bool := decide (0 ≤ place h) && match T.l[(place h).toNat]? with
  | some s => s.is == 1 && s.gen == h / 4294967296
  | none => false

def at' (T : HTbl) (h : Int) : Int × Int := if T.okB h then match T.l[(place h).toNat]? with | some s => (s.addr, 0) | none => (0, 7) else (0, 7)

def setAddr (T : HTbl) (k : Nat) (a : Int) : HTbl := match T.l[k]? with | some s => { T with l := T.l.set k { s with addr := a } } | none => T
def shut (T : HTbl) (k : Nat) : HTbl := match T.l[k]? with | some s => { T with l := T.l.set k { s with is := if s.gen = T.last then 2 else 0 } } | none => T

def move (T : HTbl) (h a : Int) : Int × HTbl := if a < 0 then (2, T) else if T.okB h then (0, T.setAddr (place h).toNat a) else (7, T)
def close (T : HTbl) (h : Int) : Int × HTbl := if T.okB h then (0, T.shut (place h).toNat) else (7, T)

/-- The first free slot from a list's head on; its length if there is none. -/
def freeIn : List HSlot → Nat
  | [] => 0
  | s :: r => if s.is = 0 then 0 else freeIn r + 1
def free (T : HTbl) : Nat := freeIn T.l
def nameOf (k : Nat) (gen : Int) : Int := gen * 4294967296 + (k + 1)
def put (T : HTbl) (k : Nat) (s : HSlot) : HTbl := { T with l := if k < T.l.length then T.l.set k s else T.l ++ [s] }
def genAt (T : HTbl) (k : Nat) : Int := match T.l[k]? with | some s => s.gen | none => 0

def openK (T : HTbl) (a : Int) : HTbl := T.put T.free ⟨1, T.genAt T.free + 1, a⟩
/-- The handle, the error, the table behind it. -/
def open' (T : HTbl) (a : Int) : Int × Int × HTbl :=
  if a < 0 then (0, 2, T) else if (T.free : Int) = T.most then (0, 10, T) else (nameOf T.free (T.genAt T.free + 1), 0, T.openK a)

/-- The live handles of the first j slots. -/
def liveTo (T : HTbl) : Nat → List Int
  | 0 => []
  | j + 1 => liveTo T j ++ match T.l[j]? with | some s => if s.is = 1 then [nameOf j s.gen] else [] | none => []
def live (T : HTbl) : List Int := T.liveTo T.l.length

theorem liveTo_le (T : HTbl) (j : Nat) : (T.liveTo j).length ≤ j := by
  induction j with
  | zero => simp [liveTo]
  | succ j ih =>
    simp only [liveTo, List.length_append]
    split
    · split <;> simp <;> omega
    · simp; omega

/-- What a slot may be. -/
def SlotOk (last : Int) (s : HSlot) : Prop := (s.is = 0 ∧ s.gen < last ∨ s.is = 1 ∨ s.is = 2 ∧ s.gen = last) ∧ 1 ≤ s.gen ∧ s.gen ≤ last ∧ 0 ≤ s.addr ∧ s.addr ≤ 9223372036854775807
structure Ok (T : HTbl) : Prop where
  most1 : 1 ≤ T.most
  most2 : T.most ≤ 65536
  last1 : 1 ≤ T.last
  last2 : T.last ≤ 4294967295
  len : (T.l.length : Int) ≤ T.most
  slots : ∀ (k : Nat) (s : HSlot), T.l[k]? = some s → SlotOk T.last s

theorem freeIn_le (l : List HSlot) : freeIn l ≤ l.length := by
  induction l with
  | nil => simp [freeIn]
  | cons s r ih => simp only [freeIn, List.length_cons]; split <;> omega

theorem freeIn_before (l : List HSlot) : ∀ k s, k < freeIn l → l[k]? = some s → s.is ≠ 0 := by
  induction l with
  | nil => simp
  | cons s r ih =>
    intro k x hk hx
    simp only [freeIn] at hk
    split at hk
    · omega
    · rename_i hs
      cases k with
      | zero => simp at hx; subst hx; exact hs
      | succ k => exact ih k x (by omega) (by simpa using hx)

theorem freeIn_at (l : List HSlot) : ∀ s, l[freeIn l]? = some s → s.is = 0 := by
  induction l with
  | nil => simp [freeIn]
  | cons s r ih =>
    intro x hx
    simp only [freeIn] at hx
    split at hx
    · simp at hx; subst hx; assumption
    · exact ih x (by simpa using hx)

/-- The free slot is the one before which none is free, and which is free, or the list's end. -/
theorem freeIn_eq (l : List HSlot) (n : Nat) (h1 : ∀ (k : Nat) (s : HSlot), k < n → l[k]? = some s → s.is ≠ 0) (h2 : n ≤ l.length) (h3 : ∀ s, l[n]? = some s → s.is = 0) : freeIn l = n := by
  rcases Nat.lt_trichotomy (freeIn l) n with h | h | h
  · have hl : freeIn l < l.length := by omega
    exact absurd (freeIn_at l _ (List.getElem?_eq_getElem hl)) (h1 _ _ h (List.getElem?_eq_getElem hl))
  · exact h
  · have hl : n < l.length := by have := freeIn_le l; omega
    exact absurd (h3 _ (List.getElem?_eq_getElem hl)) (freeIn_before l n _ h (List.getElem?_eq_getElem hl))

theorem okB_place {T : HTbl} {h : Int} (hk : T.okB h = true) : 0 ≤ place h ∧ ∃ s, T.l[(place h).toNat]? = some s ∧ s.is = 1 ∧ s.gen = h / 4294967296 := by
  unfold okB at hk
  simp only [Bool.and_eq_true, decide_eq_true_eq] at hk
  obtain ⟨h0, h1⟩ := hk
  refine ⟨h0, ?_⟩
  cases hs : T.l[(place h).toNat]? with
  | none => rw [hs] at h1; simp at h1
  | some s => rw [hs] at h1; simp at h1; exact ⟨s, rfl, h1.1, h1.2⟩

theorem okB_lt {T : HTbl} {h : Int} (hk : T.okB h = true) : (place h).toNat < T.l.length := by
  obtain ⟨_, s, hs, _⟩ := okB_place hk
  exact (List.getElem?_eq_some_iff.1 hs).1

theorem okB_of {T : HTbl} {h : Int} {s : HSlot} (h0 : 0 ≤ place h) (hs : T.l[(place h).toNat]? = some s) (h1 : s.is = 1) (h2 : s.gen = h / 4294967296) : T.okB h = true := by
  unfold okB; rw [hs]; simp [h0, h1, h2]

theorem slotOk_set {T : HTbl} (h : T.Ok) (k : Nat) (s : HSlot) (hs : SlotOk T.last s) : ({ T with l := T.l.set k s } : HTbl).Ok := by
  refine ⟨h.most1, h.most2, h.last1, h.last2, by simpa using h.len, fun i x hx => ?_⟩
  simp only [List.getElem?_set] at hx
  split at hx
  · split at hx
    · simp only [Option.some.injEq] at hx; subst hx; exact hs
    · simp at hx
  · exact h.slots i x hx

theorem setAddr_ok {T : HTbl} (h : T.Ok) (k : Nat) (a : Int) (ha0 : 0 ≤ a) (ha1 : a ≤ 9223372036854775807) : (T.setAddr k a).Ok := by
  unfold setAddr
  cases hs : T.l[k]? with
  | none => exact h
  | some s => exact slotOk_set h k _ (by have := h.slots k s hs; unfold SlotOk at *; exact ⟨this.1, this.2.1, this.2.2.1, ha0, ha1⟩)

theorem shut_ok {T : HTbl} (h : T.Ok) (k : Nat) : (T.shut k).Ok := by
  unfold shut
  cases hs : T.l[k]? with
  | none => exact h
  | some s =>
    refine slotOk_set h k _ ?_
    have := h.slots k s hs
    unfold SlotOk at *
    refine ⟨?_, this.2⟩
    by_cases e : s.gen = T.last
    · rw [if_pos e]; exact .inr (.inr ⟨rfl, e⟩)
    · rw [if_neg e]; exact .inl ⟨rfl, show s.gen < T.last by have := this.2.2.1; omega⟩

theorem openK_ok {T : HTbl} (h : T.Ok) (a : Int) (ha0 : 0 ≤ a) (ha1 : a ≤ 9223372036854775807) (hf : (T.free : Int) ≠ T.most) : (T.openK a).Ok := by
  have hle : T.free ≤ T.l.length := freeIn_le T.l
  unfold openK put
  split
  · rename_i hlt
    refine slotOk_set h _ _ ?_
    have hs := h.slots _ _ (List.getElem?_eq_getElem hlt)
    have hz : (T.l[T.free]).is = 0 := freeIn_at T.l _ (List.getElem?_eq_getElem hlt)
    have hg : T.genAt T.free = (T.l[T.free]).gen := by unfold genAt; rw [List.getElem?_eq_getElem hlt]
    unfold SlotOk at *
    refine ⟨.inr (.inl rfl), ?_, ?_, ha0, ha1⟩
    · show 1 ≤ T.genAt T.free + 1; rw [hg]; omega
    · show T.genAt T.free + 1 ≤ T.last; rw [hg]; have := hs.1; omega
  · have he : T.free = T.l.length := by omega
    have hg : T.genAt T.free = 0 := by unfold genAt; rw [he]; simp
    have hl := h.len
    have h1 := h.last1
    refine ⟨h.most1, h.most2, h.last1, h.last2, by simp only [List.length_append, List.length_cons, List.length_nil]; omega, fun i x hx => ?_⟩
    simp only [List.getElem?_append] at hx
    split at hx
    · exact h.slots i x hx
    · have : x = ⟨1, T.genAt T.free + 1, a⟩ := by
        cases hi : i - T.l.length with
        | zero => rw [hi] at hx; simp at hx; exact hx.symm
        | succ j => rw [hi] at hx; simp at hx
      subst this
      unfold SlotOk
      rw [hg]
      exact ⟨.inr (.inl rfl), by show (1 : Int) ≤ 0 + 1; omega, by show (0 : Int) + 1 ≤ T.last; omega, ha0, ha1⟩

theorem open_range {T : HTbl} (h : T.Ok) (a : Int) : 0 ≤ (T.open' a).1 ∧ (T.open' a).1 < 18446744073709551616 := by
  unfold open'
  split
  · exact ⟨by show (0 : Int) ≤ 0; omega, by show (0 : Int) < _; omega⟩
  split
  · exact ⟨by show (0 : Int) ≤ 0; omega, by show (0 : Int) < _; omega⟩
  · have hle : T.free ≤ T.l.length := freeIn_le T.l
    have h1 := h.len
    have h2 := h.most2
    have h3 := h.last2
    show 0 ≤ nameOf T.free (T.genAt T.free + 1) ∧ nameOf T.free (T.genAt T.free + 1) < 18446744073709551616
    have hg : 0 ≤ T.genAt T.free ∧ T.genAt T.free + 1 ≤ T.last := by
      unfold genAt
      rcases Nat.lt_or_ge T.free T.l.length with hl | hl
      · have hs := h.slots _ _ (List.getElem?_eq_getElem hl)
        have hz : (T.l[T.free]).is = 0 := freeIn_at T.l _ (List.getElem?_eq_getElem hl)
        rw [List.getElem?_eq_getElem hl]
        unfold SlotOk at hs
        show 0 ≤ (T.l[T.free]).gen ∧ (T.l[T.free]).gen + 1 ≤ T.last
        omega
      · rw [List.getElem?_eq_none hl]
        have := h.last1
        show (0 : Int) ≤ 0 ∧ (0 : Int) + 1 ≤ T.last
        omega
    unfold nameOf
    omega

/-- The table behind so many openings, each closed again. -/
def endsStep (T : HTbl) (i : Nat) : HTbl := ((T.open' i).2.2.close (T.open' i).1).2
def endsAt (m n : Int) : Nat → HTbl
  | 0 => ⟨m, n, []⟩
  | i + 1 => endsStep (endsAt m n i) i
def endsGood (m n : Int) (i : Nat) : Bool := let T := endsAt m n i; (T.open' i).2.1 == 0 && ((T.open' i).2.2.close (T.open' i).1).1 == 0
def endsLast (m n : Int) (i : Nat) : Bool := let T := endsAt m n i; (T.open' 7).1 == 0 && (T.open' 7).2.1 == 10 && (T.open' 7).2.2.l.length == m.toNat && (T.open' 7).2.2.live.length == 0
theorem ends_all : ∀ m : Fin 6, ∀ n : Fin 6, (List.range ((m.val + 1) * (n.val + 1))).all (endsGood (m.val + 1) (n.val + 1)) = true ∧ endsLast (m.val + 1) (n.val + 1) ((m.val + 1) * (n.val + 1)) = true := by decide +kernel
end HTbl
end Go.Proofs.YtpcomekikeoliaaGreatDoor
