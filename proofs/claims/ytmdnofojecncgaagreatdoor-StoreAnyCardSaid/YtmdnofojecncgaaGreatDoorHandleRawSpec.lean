/- HandleRaw's plain law: a table's slots as they are told, and tables that differ in dead slots' addresses alone. No condition. -/
import Derived.Test.YtmdnofojecncgaaGreatDoorHandleSpec
set_option linter.unusedVariables false
set_option linter.unusedSimpArgs false
set_option maxRecDepth 100000
namespace Go.Proofs.YtmdnofojecncgaaGreatDoor

/-- A slot as it is told. -/
structure RSlot where
  op : Bool
  gen : Int
  addr : Int

namespace HTbl
def toR (s : HSlot) : RSlot := if s.is = 1 then ⟨true, s.gen, s.addr⟩ else ⟨false, s.gen, 0⟩
def ofR (last : Int) (r : RSlot) : HSlot := ⟨if r.op then 1 else if r.gen = last then 2 else 0, r.gen, r.addr⟩
def rOk (last : Int) (r : RSlot) : Bool := decide (1 ≤ r.gen) && decide (r.gen ≤ last) && decide (0 ≤ r.addr) && (r.op || r.addr == 0)
def raw (T : HTbl) : List RSlot := T.l.map toR
def ofRaw (m last : Int) (zs : List RSlot) : HTbl := ⟨m, last, zs.map (ofR last)⟩

theorem rOk_iff {last : Int} {r : RSlot} : rOk last r = true ↔ 1 ≤ r.gen ∧ r.gen ≤ last ∧ 0 ≤ r.addr ∧ (r.op = true ∨ r.addr = 0) := by
  unfold rOk
  simp only [Bool.and_eq_true, decide_eq_true_eq, Bool.or_eq_true, beq_iff_eq, and_assoc]

theorem ofR_ok {last : Int} {r : RSlot} (h : rOk last r = true) (ha : r.addr ≤ 9223372036854775807) : SlotOk last (ofR last r) := by
  obtain ⟨h1, h2, h3, h4⟩ := rOk_iff.1 h
  unfold SlotOk ofR
  refine ⟨?_, h1, h2, h3, ha⟩
  dsimp only
  by_cases ho : r.op = true
  · rw [if_pos ho]; exact .inr (.inl rfl)
  · rw [if_neg ho]
    by_cases hg : r.gen = last
    · rw [if_pos hg]; exact .inr (.inr ⟨rfl, hg⟩)
    · rw [if_neg hg]; exact .inl ⟨rfl, by omega⟩

theorem ofRaw_ok {m last : Int} {zs : List RSlot} (h1 : 1 ≤ m) (h2 : m ≤ 65536) (h3 : 1 ≤ last) (h4 : last ≤ 4294967295) (hl : (zs.length : Int) ≤ m) (h : ∀ r ∈ zs, rOk last r = true) (ha : ∀ r ∈ zs, r.addr ≤ 9223372036854775807) : (ofRaw m last zs).Ok := by
  refine ⟨h1, h2, h3, h4, by simpa [ofRaw] using hl, fun k s hs => ?_⟩
  simp only [ofRaw, List.getElem?_map] at hs
  cases hz : zs[k]? with
  | none => rw [hz] at hs; simp at hs
  | some r =>
    rw [hz] at hs
    simp only [Option.map_some, Option.some.injEq] at hs
    subst hs
    exact ofR_ok (h r (List.mem_of_getElem? hz)) (ha r (List.mem_of_getElem? hz))

theorem toR_ofR {last : Int} {r : RSlot} (h : rOk last r = true) : toR (ofR last r) = r := by
  obtain ⟨_, _, _, h4⟩ := rOk_iff.1 h
  obtain ⟨op, g, a⟩ := r
  cases op with
  | true => simp [toR, ofR]
  | false =>
    have ha : a = 0 := by simpa using h4
    subst ha
    unfold toR ofR
    dsimp only
    rw [if_neg]
    rw [if_neg (by decide)]
    split <;> decide

theorem raw_ofRaw {m last : Int} {zs : List RSlot} (h : ∀ r ∈ zs, rOk last r = true) : (ofRaw m last zs).raw = zs := by
  unfold raw ofRaw
  rw [List.map_map]
  conv => rhs; rw [← List.map_id zs]
  exact List.map_congr_left fun r hr => toR_ofR (h r hr)

theorem toR_ok {last : Int} {s : HSlot} (h : SlotOk last s) : rOk last (toR s) = true ∧ (toR s).addr ≤ 9223372036854775807 := by
  obtain ⟨_, h1, h2, h3, h4⟩ := h
  unfold toR
  split
  · exact ⟨rOk_iff.2 ⟨h1, h2, h3, .inl rfl⟩, h4⟩
  · exact ⟨rOk_iff.2 ⟨h1, h2, Int.le_refl _, .inr rfl⟩, by show (0 : Int) ≤ _; omega⟩

theorem raw_ok {T : HTbl} (h : T.Ok) : ∀ r ∈ T.raw, rOk T.last r = true ∧ r.addr ≤ 9223372036854775807 := by
  intro r hr
  obtain ⟨s, hs, rfl⟩ := List.mem_map.1 hr
  obtain ⟨k, hk⟩ := List.getElem?_of_mem hs
  exact toR_ok (h.slots k s hk)

/-- A slot without what nobody can see. -/
def nS (s : HSlot) : HSlot := if s.is = 1 then s else ⟨s.is, s.gen, 0⟩
def norm (T : HTbl) : HTbl := ⟨T.most, T.last, T.l.map nS⟩

theorem nS_is (s : HSlot) : (nS s).is = s.is := by unfold nS; split <;> rfl
theorem nS_gen (s : HSlot) : (nS s).gen = s.gen := by unfold nS; split <;> rfl
theorem nS_one {s : HSlot} (h : s.is = 1) : nS s = s := by unfold nS; rw [if_pos h]
theorem nS_other {s : HSlot} (h : s.is ≠ 1) : nS s = ⟨s.is, s.gen, 0⟩ := by unfold nS; rw [if_neg h]

theorem ofR_toR {last : Int} {s : HSlot} (h : SlotOk last s) : ofR last (toR s) = nS s := by
  unfold ofR toR nS
  by_cases hi : s.is = 1
  · rw [if_pos hi, if_pos hi]; simp [← hi]
  · rw [if_neg hi, if_neg hi]
    have h1 := h.1
    simp only [Bool.false_eq_true, if_false]
    congr 1
    split <;> omega

/-- The table of a table's slots. -/
theorem ofRaw_raw {T : HTbl} (h : T.Ok) : ofRaw T.most T.last T.raw = T.norm := by
  unfold ofRaw raw norm
  rw [List.map_map]
  congr 1
  refine List.map_congr_left fun s hs => ?_
  obtain ⟨k, hk⟩ := List.getElem?_of_mem hs
  exact ofR_toR (h.slots k s hk)

theorem norm_get (T : HTbl) (k : Nat) : T.norm.l[k]? = T.l[k]?.map nS := by simp [norm]
theorem norm_len (T : HTbl) : T.norm.l.length = T.l.length := by simp [norm]

theorem norm_okB (T : HTbl) (h : Int) : T.norm.okB h = T.okB h := by
  unfold okB
  rw [norm_get]
  cases T.l[(place h).toNat]? with
  | none => rfl
  | some s => simp only [Option.map_some, nS_is, nS_gen]

theorem norm_at (T : HTbl) (h : Int) : T.norm.at' h = T.at' h := by
  unfold at'
  rw [norm_okB]
  cases hb : T.okB h with
  | false => rfl
  | true =>
    obtain ⟨_, s, hs, h1, _⟩ := okB_place hb
    rw [norm_get, hs]
    simp [nS_one h1]

theorem norm_set {T : HTbl} {k : Nat} {s : HSlot} : ({ T with l := T.l.set k s } : HTbl).norm = { T.norm with l := T.norm.l.set k (nS s) } := by
  simp [norm, List.map_set]

theorem norm_norm (T : HTbl) : T.norm.norm = T.norm := by
  unfold norm
  dsimp only
  rw [List.map_map]
  congr 1
  refine List.map_congr_left fun s _ => ?_
  by_cases hi : s.is = 1
  · simp [nS_one hi]
  · simp [nS, hi]

theorem norm_move (T : HTbl) (h a : Int) : (T.norm.move h a).1 = (T.move h a).1 ∧ (T.norm.move h a).2.norm = (T.move h a).2.norm := by
  unfold move
  by_cases ha : a < 0
  · rw [if_pos ha, if_pos ha]; exact ⟨rfl, norm_norm T⟩
  rw [if_neg ha, if_neg ha, norm_okB]
  cases hb : T.okB h with
  | false => exact ⟨rfl, norm_norm T⟩
  | true =>
    obtain ⟨_, s, hs, h1, _⟩ := okB_place hb
    refine ⟨rfl, ?_⟩
    simp only [if_true]
    unfold setAddr
    rw [norm_get, hs]
    simp only [Option.map_some, nS_one h1]
    rw [norm_set (T := T.norm), norm_set (T := T), norm_norm]

theorem norm_close (T : HTbl) (h : Int) : (T.norm.close h).1 = (T.close h).1 ∧ (T.norm.close h).2.norm = (T.close h).2.norm := by
  unfold close
  rw [norm_okB]
  cases hb : T.okB h with
  | false => exact ⟨rfl, norm_norm T⟩
  | true =>
    obtain ⟨_, s, hs, h1, _⟩ := okB_place hb
    refine ⟨rfl, ?_⟩
    simp only [if_true]
    unfold shut
    rw [norm_get, hs]
    simp only [Option.map_some, nS_one h1]
    rw [norm_set (T := T.norm), norm_set (T := T), norm_norm]
    rfl

theorem freeIn_norm : ∀ l : List HSlot, freeIn (l.map nS) = freeIn l
  | [] => rfl
  | s :: l => by simp only [List.map_cons, freeIn, nS_is, freeIn_norm l]
theorem norm_free (T : HTbl) : T.norm.free = T.free := freeIn_norm T.l
theorem norm_genAt (T : HTbl) (k : Nat) : T.norm.genAt k = T.genAt k := by
  unfold genAt
  rw [norm_get]
  cases T.l[k]? with
  | none => rfl
  | some s => simp [nS_gen]

theorem norm_open (T : HTbl) (a : Int) : (T.norm.open' a).1 = (T.open' a).1 ∧ (T.norm.open' a).2.1 = (T.open' a).2.1 ∧ (T.norm.open' a).2.2.norm = (T.open' a).2.2.norm := by
  unfold open'
  rw [norm_free, norm_genAt]
  by_cases ha : a < 0
  · rw [if_pos ha, if_pos ha]; exact ⟨rfl, rfl, norm_norm T⟩
  rw [if_neg ha, if_neg ha]
  have hm : T.norm.most = T.most := rfl
  rw [hm]
  by_cases hf : (T.free : Int) = T.most
  · rw [if_pos hf, if_pos hf]; exact ⟨rfl, rfl, norm_norm T⟩
  rw [if_neg hf, if_neg hf]
  refine ⟨rfl, rfl, ?_⟩
  dsimp only
  unfold openK put
  rw [norm_free, norm_genAt, norm_len]
  by_cases hk : T.free < T.l.length
  · rw [if_pos hk, if_pos hk, norm_set (T := T.norm), norm_set (T := T), norm_norm]
  · rw [if_neg hk, if_neg hk]
    have hn := norm_norm T
    unfold norm at hn ⊢
    simp only [HTbl.mk.injEq, true_and] at hn
    simp only [List.map_append, hn]

/-- Two tables that answer alike. -/
def Twin (T U : HTbl) : Prop := T.norm = U.norm
theorem Twin.len {T U : HTbl} (h : Twin T U) : U.l.length = T.l.length := by rw [← norm_len T, ← norm_len U, h]
theorem Twin.at_ {T U : HTbl} (h : Twin T U) (n : Int) : U.at' n = T.at' n := by rw [← norm_at T, ← norm_at U, h]
theorem Twin.move_ {T U : HTbl} (h : Twin T U) (n a : Int) : (U.move n a).1 = (T.move n a).1 ∧ Twin (T.move n a).2 (U.move n a).2 := by
  have h1 := norm_move T n a
  have h2 := norm_move U n a
  rw [← show T.norm = U.norm from h] at h2
  exact ⟨h2.1.symm.trans h1.1, h1.2.symm.trans h2.2⟩
theorem Twin.close_ {T U : HTbl} (h : Twin T U) (n : Int) : (U.close n).1 = (T.close n).1 ∧ Twin (T.close n).2 (U.close n).2 := by
  have h1 := norm_close T n
  have h2 := norm_close U n
  rw [← show T.norm = U.norm from h] at h2
  exact ⟨h2.1.symm.trans h1.1, h1.2.symm.trans h2.2⟩
theorem Twin.open_ {T U : HTbl} (h : Twin T U) (a : Int) : (U.open' a).1 = (T.open' a).1 ∧ (U.open' a).2.1 = (T.open' a).2.1 ∧ Twin (T.open' a).2.2 (U.open' a).2.2 := by
  have h1 := norm_open T a
  have h2 := norm_open U a
  rw [← show T.norm = U.norm from h] at h2
  exact ⟨h2.1.symm.trans h1.1, h2.2.1.symm.trans h1.2.1, h1.2.2.symm.trans h2.2.2⟩
end HTbl
end Go.Proofs.YtmdnofojecncgaaGreatDoor
