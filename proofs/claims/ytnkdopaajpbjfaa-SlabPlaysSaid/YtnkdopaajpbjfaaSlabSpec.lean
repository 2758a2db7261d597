/- The plain law of package slab: an arena's calls, as functions on a rising list of pages and a memory of words. No program stands here. No condition. -/
namespace Go.Proofs.Ytnkdopaajpbjfaa

/-- An arena: its quota, its pages' numbers, rising, its words (0 where no page is). -/
structure Slb where
  quota : Int
  pg : List Nat
  wd : Nat → Int

namespace Slb

structure Ok (S : Slb) : Prop where
  q0 : 0 ≤ S.quota
  q1 : S.quota ≤ 262144
  fit : 64 * (S.pg.length : Int) ≤ S.quota
  sorted : S.pg.Pairwise (· < ·)
  small : ∀ k ∈ S.pg, k < 33554432
  words : ∀ a, 0 ≤ S.wd a ∧ S.wd a < 18446744073709551616
  zero : ∀ a, a / 64 ∉ S.pg → S.wd a = 0

/-- Is a page granted? -/
def has (S : Slb) (n : Int) : Bool := decide (0 ≤ n) && decide (n.toNat ∈ S.pg)

theorem has_iff {S : Slb} {n : Int} : S.has n = true ↔ 0 ≤ n ∧ n.toNat ∈ S.pg := by simp [has]
theorem has_nat {S : Slb} {n : Nat} : S.has n = true ↔ n ∈ S.pg := by simp [has]

/-- What stands against a word. -/
def err (S : Slb) (a : Int) : Int := if a < 0 ∨ 67108863 < a then 2 else if S.has (a / 64) then 0 else 5
def read (S : Slb) (a : Int) : Int × Int := if S.err a = 0 then (S.wd a.toNat, 0) else (0, S.err a)
def write (S : Slb) (a v : Int) : Int × Slb := if S.err a = 0 then (0, { S with wd := fun x => if x = a.toNat then v else S.wd x }) else (S.err a, S)

/-- Pages more, from one on. -/
def more (pg : List Nat) (f n : Nat) : List Nat := pg.filter (· < f) ++ (List.range n).map (f + ·) ++ pg.filter (f + n ≤ ·)
/-- Pages less. -/
def less (pg : List Nat) (f n : Nat) : List Nat := pg.filter fun k => decide (k < f) || decide (f + n ≤ k)

def claim (S : Slb) (n : Int) : Int × Slb :=
  if n < 0 ∨ 1048575 < n then (2, S) else if S.has n then (6, S) else if S.quota < (S.pg.length + 1) * 64 then (3, S) else (0, { S with pg := more S.pg n.toNat 1 })

def release (S : Slb) (f n : Int) : Int × Slb :=
  if n < 1 ∨ 4096 < n ∨ f < 0 ∨ 1048576 - n < f then (2, S)
  else if (List.range n.toNat).all (fun k => S.has (f + k)) then (0, { S with pg := less S.pg f.toNat n.toNat, wd := fun a => if f.toNat ≤ a / 64 ∧ a / 64 < f.toNat + n.toNat then 0 else S.wd a })
  else (5, S)

/-- Are n pages from one on free? -/
def freeB (pg : List Nat) (f n : Nat) : Bool := pg.all fun k => decide (k < f) || decide (f + n ≤ k)
/-- The least page from which on n are free. -/
def least (pg : List Nat) (n : Nat) : Nat := ((List.range (n * pg.length + 1)).find? fun f => freeB pg f n).getD 0

def grant (S : Slb) (n : Int) : Int × Int × Slb :=
  if n < 1 ∨ 4096 < n then (0, 2, S) else if S.quota < (S.pg.length + n) * 64 then (0, 3, S)
  else (least S.pg n.toNat, 0, { S with pg := more S.pg (least S.pg n.toNat) n.toNat })

def moveBad (to f n : Int) : Bool := decide (n < 0 ∨ 262144 < n ∨ to < 0 ∨ f < 0 ∨ 67108863 - max (n - 1) 0 < max to f)
def move (S : Slb) (to f n : Int) : Int × Slb :=
  if moveBad to f n then (2, S)
  else if (List.range n.toNat).all (fun k => S.has ((f + k) / 64) && S.has ((to + k) / 64)) then
    (0, { S with wd := fun a => if to.toNat ≤ a ∧ a < to.toNat + n.toNat then S.wd (f.toNat + (a - to.toNat)) else S.wd a })
  else (5, S)

theorem freeB_iff {pg : List Nat} {f n : Nat} : freeB pg f n = true ↔ ∀ k ∈ pg, k < f ∨ f + n ≤ k := by simp [freeB]

theorem free_at (pg : List Nat) (n : Nat) (hn : 1 ≤ n) : ∀ (m f : Nat), (pg.filter (fun k => decide (f ≤ k))).length ≤ m → ∃ g, f ≤ g ∧ g ≤ f + n * m ∧ freeB pg g n = true := by
  intro m
  induction m with
  | zero =>
    intro f h
    have h0 : pg.filter (fun k => decide (f ≤ k)) = [] := List.eq_nil_of_length_eq_zero (by omega)
    refine ⟨f, Nat.le_refl _, by omega, freeB_iff.2 fun k hk => ?_⟩
    have := List.filter_eq_nil_iff.1 h0 k hk
    simp at this
    exact .inl this
  | succ m ih =>
    intro f h
    cases hf : freeB pg f n with
    | true => exact ⟨f, Nat.le_refl _, by omega, hf⟩
    | false =>
      have hex : ∃ k ∈ pg, f ≤ k ∧ k < f + n := by
        refine Classical.byContradiction fun hne => ?_
        have : freeB pg f n = true := freeB_iff.2 fun k hk => by
          rcases Nat.lt_or_ge k f with h1 | h1
          · exact .inl h1
          · rcases Nat.lt_or_ge k (f + n) with h2 | h2
            · exact absurd ⟨k, hk, h1, h2⟩ hne
            · exact .inr h2
        rw [hf] at this
        cases this
      obtain ⟨k, hk, h1, h2⟩ := hex
      have hlt : (pg.filter (fun j => decide (k + 1 ≤ j))).length ≤ m := by
        have hsub : (pg.filter (fun j => decide (k + 1 ≤ j))) = (pg.filter (fun j => decide (f ≤ j))).filter (fun j => decide (k + 1 ≤ j)) := by
          rw [List.filter_filter]
          apply List.filter_congr
          intro j _
          by_cases hj : k + 1 ≤ j
          · have : f ≤ j := by omega
            simp [hj, this]
          · simp [hj]
        rw [hsub]
        have hmem : k ∈ pg.filter (fun j => decide (f ≤ j)) := List.mem_filter.2 ⟨hk, by simpa using h1⟩
        have : ((pg.filter (fun j => decide (f ≤ j))).filter (fun j => decide (k + 1 ≤ j))).length < (pg.filter (fun j => decide (f ≤ j))).length := by
          refine List.length_filter_lt_length_iff_exists.2 ⟨k, hmem, by simp⟩
        omega
      obtain ⟨g, g1, g2, g3⟩ := ih (k + 1) hlt
      refine ⟨g, by omega, ?_, g3⟩
      have e : n * (m + 1) = n * m + n := Nat.mul_succ n m
      omega

theorem exists_free (pg : List Nat) (n : Nat) (hn : 1 ≤ n) : ∃ g, g ≤ n * pg.length ∧ freeB pg g n = true := by
  obtain ⟨g, _, h2, h3⟩ := free_at pg n hn pg.length 0 (List.length_filter_le _ _)
  exact ⟨g, by omega, h3⟩

theorem least_spec (pg : List Nat) (n : Nat) (hn : 1 ≤ n) : least pg n ≤ n * pg.length ∧ freeB pg (least pg n) n = true ∧ ∀ f, f < least pg n → freeB pg f n = false := by
  obtain ⟨g, g1, g2⟩ := exists_free pg n hn
  unfold least
  cases hf : (List.range (n * pg.length + 1)).find? fun f => freeB pg f n with
  | none =>
    have := List.find?_eq_none.1 hf g (List.mem_range.2 (by omega))
    simp [g2] at this
  | some x =>
    have h1 := List.find?_some hf
    have h2 := List.mem_range.1 (List.mem_of_find?_eq_some hf)
    refine ⟨by simp; omega, by simpa using h1, fun f hlt => ?_⟩
    simp only [Option.getD_some] at hlt
    have h3 := List.find?_eq_some_iff_getElem.1 hf
    obtain ⟨_, i, hi, hx, hbef⟩ := h3
    simp only [List.getElem_range] at hx
    have := hbef f (by omega)
    simpa using this

theorem least_eq {pg : List Nat} {n f : Nat} (hn : 1 ≤ n) (h1 : freeB pg f n = true) (h2 : ∀ g, g < f → freeB pg g n = false) : least pg n = f := by
  obtain ⟨_, l1, l2⟩ := least_spec pg n hn
  rcases Nat.lt_trichotomy (least pg n) f with h | h | h
  · rw [h2 _ h] at l1; cases l1
  · exact h
  · rw [l2 _ h] at h1; cases h1

theorem mem_more {pg : List Nat} {f n k : Nat} (hf : freeB pg f n = true) : k ∈ more pg f n ↔ k ∈ pg ∨ f ≤ k ∧ k < f + n := by
  unfold more
  simp only [List.mem_append, List.mem_filter, List.mem_map, List.mem_range, decide_eq_true_eq]
  constructor
  · rintro ((h | ⟨j, hj, rfl⟩) | h)
    · exact .inl h.1
    · exact .inr ⟨by omega, by omega⟩
    · exact .inl h.1
  · rintro (h | h)
    · rcases freeB_iff.1 hf k h with h1 | h1
      · exact .inl (.inl ⟨h, h1⟩)
      · exact .inr ⟨h, h1⟩
    · exact .inl (.inr ⟨k - f, by omega, by omega⟩)

theorem more_perm {pg : List Nat} {f n : Nat} (hf : freeB pg f n = true) : (more pg f n).Perm ((List.range n).map (f + ·) ++ pg) := by
  have h1 : (pg.filter (· < f) ++ pg.filter (f + n ≤ ·)).Perm pg := by
    have : pg.filter (f + n ≤ ·) = pg.filter (fun k => !decide (k < f)) := by
      apply List.filter_congr
      intro k hk
      rcases freeB_iff.1 hf k hk with h | h
      · have : ¬ f + n ≤ k := by omega
        simp [h, this]
      · have : ¬ k < f := by omega
        simp [h, this]
    rw [this]
    exact List.filter_append_perm _ pg
  unfold more
  rw [List.append_assoc]
  refine List.Perm.trans ?_ (List.Perm.append_left _ h1)
  rw [← List.append_assoc, ← List.append_assoc]
  exact List.Perm.append_right _ List.perm_append_comm

theorem more_length {pg : List Nat} {f n : Nat} (hf : freeB pg f n = true) : (more pg f n).length = pg.length + n := by
  rw [(more_perm hf).length_eq]; simp; omega

theorem more_sorted {pg : List Nat} {f n : Nat} (hs : pg.Pairwise (· < ·)) : (more pg f n).Pairwise (· < ·) := by
  unfold more
  rw [List.pairwise_append, List.pairwise_append]
  refine ⟨⟨hs.filter _, ?_, ?_⟩, hs.filter _, ?_⟩
  · rw [List.pairwise_map]
    exact (List.pairwise_lt_range).imp (by intro a b h; omega)
  · intro a ha b hb
    simp only [List.mem_filter, decide_eq_true_eq] at ha
    obtain ⟨j, _, rfl⟩ := List.mem_map.1 hb
    omega
  · intro a ha b hb
    simp only [List.mem_filter, decide_eq_true_eq] at hb
    rcases List.mem_append.1 ha with ha | ha
    · simp only [List.mem_filter, decide_eq_true_eq] at ha; omega
    · obtain ⟨j, hj, rfl⟩ := List.mem_map.1 ha
      have := List.mem_range.1 hj
      omega

theorem more_ok {S : Slb} (h : S.Ok) {f n : Nat} (hf : freeB S.pg f n = true) (hq : ((S.pg.length : Int) + n) * 64 ≤ S.quota) (hs : f + n ≤ 33554432) : ({ S with pg := more S.pg f n } : Slb).Ok := by
  refine ⟨h.q0, h.q1, ?_, more_sorted h.sorted, fun k hk => ?_, h.words, fun a ha => h.zero a fun hin => ha ((mem_more hf).2 (.inl hin))⟩
  · show 64 * ((more S.pg f n).length : Int) ≤ S.quota
    rw [more_length hf]; omega
  · rcases (mem_more hf).1 hk with h1 | h1
    · exact h.small k h1
    · omega

theorem free_one {pg : List Nat} {k : Nat} (h : k ∉ pg) : freeB pg k 1 = true := freeB_iff.2 fun j hj => by
  have : j ≠ k := fun e => h (e ▸ hj)
  omega

theorem claim_ok {S : Slb} (h : S.Ok) (n : Int) : (S.claim n).2.Ok := by
  unfold claim
  split
  · exact h
  split
  · exact h
  split
  · exact h
  · rename_i h1 h2 h3
    have hn : n.toNat ∉ S.pg := fun hin => h2 (has_iff.2 ⟨by omega, hin⟩)
    exact more_ok h (free_one hn) (by omega) (by omega)

theorem grant_ok {S : Slb} (h : S.Ok) (n : Int) : (S.grant n).2.2.Ok := by
  unfold grant
  split
  · exact h
  split
  · exact h
  · rename_i h1 h2
    obtain ⟨l1, l2, _⟩ := least_spec S.pg n.toNat (by omega)
    have hq := h.q1
    have hlen : S.pg.length ≤ 4096 := by have := h.fit; omega
    have hm : n.toNat * S.pg.length ≤ 4096 * 4096 := Nat.mul_le_mul (by omega) hlen
    exact more_ok h l2 (by omega) (by omega)

theorem mem_less {pg : List Nat} {f n k : Nat} : k ∈ less pg f n ↔ k ∈ pg ∧ ¬ (f ≤ k ∧ k < f + n) := by
  unfold less
  simp only [List.mem_filter, Bool.or_eq_true, decide_eq_true_eq]
  constructor
  · rintro ⟨h1, h2⟩; exact ⟨h1, by omega⟩
  · rintro ⟨h1, h2⟩; exact ⟨h1, by omega⟩

theorem release_ok {S : Slb} (h : S.Ok) (f n : Int) : (S.release f n).2.Ok := by
  unfold release
  split
  · exact h
  split
  · refine ⟨h.q0, h.q1, ?_, h.sorted.filter _, fun k hk => h.small k (mem_less.1 hk).1, fun a => ?_, fun a ha => ?_⟩
    · have := List.length_filter_le (fun k => decide (k < f.toNat) || decide (f.toNat + n.toNat ≤ k)) S.pg
      have := h.fit
      show 64 * ((less S.pg f.toNat n.toNat).length : Int) ≤ S.quota
      unfold less
      omega
    · dsimp only
      split
      · omega
      · exact h.words a
    · dsimp only
      split
      · rfl
      · rename_i hc
        exact h.zero a fun hin => ha (mem_less.2 ⟨hin, hc⟩)
  · exact h

theorem err_zero {S : Slb} {a : Int} (h : S.err a = 0) : 0 ≤ a ∧ a ≤ 67108863 ∧ a.toNat / 64 ∈ S.pg := by
  unfold err at h
  split at h
  · omega
  split at h
  · rename_i h1 h2
    have := (has_iff.1 h2).2
    refine ⟨by omega, by omega, ?_⟩
    have e : (a / 64).toNat = a.toNat / 64 := by omega
    rw [← e]; exact this
  · omega
theorem err_iff {S : Slb} {a : Int} (h0 : 0 ≤ a) (h1 : a ≤ 67108863) : S.err a = 0 ↔ S.has (a / 64) = true := by
  unfold err
  rw [if_neg (by omega)]
  split
  · rename_i h; simp [h]
  · rename_i h; simp [h]
theorem err_range (S : Slb) (a : Int) : S.err a = 0 ∨ S.err a = 2 ∨ S.err a = 5 := by
  unfold err; split
  · exact .inr (.inl rfl)
  split
  · exact .inl rfl
  · exact .inr (.inr rfl)

theorem write_ok {S : Slb} (h : S.Ok) (a v : Int) (v0 : 0 ≤ v) (v1 : v < 18446744073709551616) : (S.write a v).2.Ok := by
  unfold write
  split
  · rename_i he
    obtain ⟨_, _, hin⟩ := err_zero he
    refine ⟨h.q0, h.q1, h.fit, h.sorted, h.small, fun x => ?_, fun x hx => ?_⟩
    · dsimp only
      split
      · exact ⟨v0, v1⟩
      · exact h.words x
    · dsimp only
      split
      · rename_i e; subst e; exact absurd hin hx
      · exact h.zero x hx
  · exact h

theorem move_ok {S : Slb} (h : S.Ok) (to f n : Int) : (S.move to f n).2.Ok := by
  unfold move
  split
  · exact h
  split
  · rename_i hb hall
    simp only [moveBad, decide_eq_true_eq] at hb
    refine ⟨h.q0, h.q1, h.fit, h.sorted, h.small, fun x => ?_, fun x hx => ?_⟩
    · dsimp only
      split
      · exact h.words _
      · exact h.words x
    · dsimp only
      split
      · rename_i hr
        have := List.all_eq_true.1 hall (x - to.toNat) (List.mem_range.2 (by omega))
        simp only [Bool.and_eq_true] at this
        have h2 := (has_iff.1 this.2).2
        have e : ((to + ((x - to.toNat : Nat) : Int)) / 64).toNat = x / 64 := by omega
        rw [e] at h2
        exact absurd h2 hx
      · exact h.zero x hx
  · exact h

theorem nodup {S : Slb} (h : S.Ok) : S.pg.Nodup := h.sorted.imp (by intro a b h; omega)
end Slb
end Go.Proofs.Ytnkdopaajpbjfaa
