/- The plain law of HeapPlays: the reference's pages stand for the heap's entries. Condition: the arena is the heap's (Rep). -/
import Derived.Test.YtfmkiioahnphbaaDoorRef04J
import Derived.Test.YtfmkiioahnphbaaDoorSpareSpec
import Derived.Test.YtfmkiioahnphbaaDoorHeapLawSpec
set_option linter.unusedVariables false
set_option linter.unusedSimpArgs false
set_option maxRecDepth 100000
namespace Go.Proofs.YtfmkiioahnphbaaDoor
open Go Slb

structure Like (H : List Ent) (L : List RPg) : Prop where
  map : L.map RPg.ent = H
  ok : ∀ P ∈ L, P.Ok
variable {S S' : Slb} {H H' : List Ent} {L : List RPg}
theorem Like.mem (K : Like H L) {P : RPg} (hP : P ∈ L) : P.ent ∈ H := by rw [← K.map]; exact List.mem_map_of_mem hP
theorem RPg.ent1 (P : RPg) : P.ent.1 = P.n := by unfold RPg.ent; rfl
theorem Like.split (K : Like H L) {i : Nat} {P : RPg} (hP : L[i]? = some P) : L = L.take i ++ P :: L.drop (i + 1) ∧ H = (L.take i).map RPg.ent ++ P.ent :: (L.drop (i + 1)).map RPg.ent := by
  have hi := (List.getElem?_eq_some_iff.1 hP)
  have e : L = L.take i ++ P :: L.drop (i + 1) := by
    have := List.take_append_drop i L
    rw [List.drop_eq_getElem_cons hi.1, hi.2] at this
    exact this.symm
  refine ⟨e, ?_⟩
  have h2 := congrArg (List.map RPg.ent) e
  rw [List.map_append, List.map_cons, K.map] at h2
  exact h2
theorem Slb.Rep.ne (R : Rep S H) {A B : List Ent} {e : Ent} (h : H = A ++ e :: B) : (∀ y ∈ A, y.1 ≠ e.1) ∧ ∀ y ∈ B, y.1 ≠ e.1 := by
  have ho := R.ord
  have hg := R.good
  rw [h] at ho hg
  rw [List.pairwise_append] at ho
  obtain ⟨_, h2, h3⟩ := ho
  rw [List.pairwise_cons] at h2
  have hw := (hg e (by simp)).wide1
  refine ⟨fun y hy => ?_, fun y hy => ?_⟩
  · have := h3 y hy e (by simp)
    have := (hg y (by simp [hy])).wide1
    omega
  · have := h2.1 y hy
    omega
theorem Like.upd (R : Rep S H) (K : Like H L) {i : Nat} {P P' : RPg} (hP : L[i]? = some P) (hn : P'.n = P.n) : (L.set i P').map RPg.ent = updE H P.n P'.ent.2 := by
  obtain ⟨e1, e2⟩ := K.split hP
  obtain ⟨h1, h2⟩ := R.ne e2
  have hi := (List.getElem?_eq_some_iff.1 hP).1
  have e3 : L.set i P' = L.take i ++ P' :: L.drop (i + 1) := by rw [List.set_eq_take_append_cons_drop, if_pos hi]
  have eP : P.ent = (P.n, P.ent.2) := rfl
  have eP' : P'.ent = (P.n, P'.ent.2) := by rw [← hn]; rfl
  rw [e3, List.map_append, List.map_cons]
  conv => rhs; rw [e2]
  rw [eP, updE_split (p := P.n) h1 h2, ← eP']
theorem Like.del (R : Rep S H) (K : Like H L) {i : Nat} {P : RPg} (hP : L[i]? = some P) : (L.eraseIdx i).map RPg.ent = delE H P.n := by
  obtain ⟨e1, e2⟩ := K.split hP
  obtain ⟨h1, h2⟩ := R.ne e2
  rw [List.eraseIdx_eq_take_drop_succ, List.map_append]
  have eP : P.ent = (P.n, P.ent.2) := rfl
  conv => rhs; rw [e2]
  rw [eP, delE_split (p := P.n) h1 h2]
theorem Like.ins (R : Rep S H) (K : Like H L) {P : RPg} {c : Nat} (hlo : ∀ (j : Nat) Q, j < c → L[j]? = some Q → Q.n < P.n) (hhi : ∀ Q, L[c]? = some Q → ¬ Q.n < P.n) (hne : ∀ x ∈ H, x.1 ≠ P.n) :
    (L.take c ++ P :: L.drop c).map RPg.ent = insE H P.ent := by
  have hA : ∀ y ∈ (L.take c).map RPg.ent, y.1 < P.n := fun y hy => by
    obtain ⟨Q, hQ, rfl⟩ := List.mem_map.1 hy
    obtain ⟨j, hj, e⟩ := List.mem_take_iff_getElem.1 hQ
    exact hlo j Q (by omega) (by rw [← e]; exact List.getElem?_eq_getElem _)
  have hB : ∀ y ∈ (L.drop c).map RPg.ent, P.n < y.1 := fun y hy => by
    obtain ⟨Q, hQ, rfl⟩ := List.mem_map.1 hy
    have hne' := hne Q.ent (K.mem (List.mem_of_mem_drop hQ))
    have hc : c < L.length := by
      refine Nat.lt_of_not_le fun h => ?_
      rw [List.drop_of_length_le h] at hQ
      cases hQ
    have e0 := hhi L[c] (List.getElem?_eq_getElem hc)
    rw [List.drop_eq_getElem_cons hc] at hQ
    have e1 : Q.ent.1 = Q.n := rfl
    rcases List.mem_cons.1 hQ with rfl | hQ
    · omega
    · obtain ⟨_, e2⟩ := K.split (List.getElem?_eq_getElem hc)
      have ho := R.ord
      rw [e2] at ho
      have := (List.pairwise_cons.1 (List.pairwise_append.1 ho).2.1).1 Q.ent (List.mem_map_of_mem hQ)
      have e3 : (L[c]).ent.1 = (L[c]).n := rfl
      have := (R.good _ (K.mem (List.getElem_mem hc))).wide1
      omega
  have hH : H = (L.take c).map RPg.ent ++ (L.drop c).map RPg.ent := by rw [← List.map_append, List.take_append_drop, K.map]
  unfold insE
  rw [List.map_append, List.map_cons]
  have e1 : P.ent.1 = P.n := rfl
  have f1 : ((L.take c).map RPg.ent).filter (fun x => decide (x.1 < P.n)) = (L.take c).map RPg.ent := List.filter_eq_self.2 fun y hy => decide_eq_true (hA y hy)
  have f2 : ((L.drop c).map RPg.ent).filter (fun x => decide (x.1 < P.n)) = [] := List.filter_eq_nil_iff.2 fun y hy => by have := hB y hy; simp; omega
  have f3 : ((L.take c).map RPg.ent).filter (fun x => decide (P.n < x.1)) = [] := List.filter_eq_nil_iff.2 fun y hy => by have := hA y hy; simp; omega
  have f4 : ((L.drop c).map RPg.ent).filter (fun x => decide (P.n < x.1)) = (L.drop c).map RPg.ent := List.filter_eq_self.2 fun y hy => decide_eq_true (hB y hy)
  rw [hH, List.filter_append, List.filter_append, e1, f1, f2, f3, f4]
  simp
theorem Like.fit (R : Rep S H) (K : Like H L) : Fit4 L := by
  refine ⟨?_, fun P hP => ?_⟩
  · have h1 : L.length = H.length := by rw [← K.map, List.length_map]
    have h2 : H.length ≤ S.pg.length := by
      rw [R.pg_eq, List.length_flatMap]
      have := R.good
      clear R K h1
      induction H with
      | nil => simp
      | cons x H ih =>
        have hw := (this x (by simp)).wide1
        have := ih fun y hy => this y (by simp [hy])
        simp only [List.map_cons, List.sum_cons, List.length_cons]
        have : (runE x).length = x.2.wide := by simp [runE]
        omega
    have := R.ok.fit
    have := R.ok.q1
    omega
  · have h := K.mem hP
    have h1 := R.low _ (R.page h)
    have h2 := (R.good _ h).wide1
    rw [(K.ok P hP).wide] at h2
    exact ⟨h1, by omega⟩
theorem Like.free (R : Rep S H) (K : Like H L) {f m : Nat} (hm : 1 ≤ m) : FreeR L f m (-1) ↔ freeB S.pg f m = true := by
  rw [freeB_iff]
  constructor
  · intro h k hk
    obtain ⟨x, hx, h1, h2⟩ := (R.mem k).1 hk
    rw [← K.map] at hx
    obtain ⟨P, hP, rfl⟩ := List.mem_map.1 hx
    obtain ⟨i, hi⟩ := List.mem_iff_getElem?.1 hP
    have := h i P hi (by omega)
    rw [(K.ok P hP).wide] at h2
    have e1 : P.ent.1 = P.n := rfl
    omega
  · intro h i P hP _
    have hm' := List.mem_of_getElem? hP
    have hx := K.mem hm'
    have := R.free hm (freeB_iff.2 h) hx
    rw [(K.ok P hm').wide] at this
    exact this
theorem Like.least (R : Rep S H) (K : Like H L) {f m : Nat} (hm : 1 ≤ m) (h1 : FreeR L f m (-1)) (h2 : ∀ g, g < f → ¬ FreeR L g m (-1)) : least S.pg m = f := by
  obtain ⟨_, l2, l3⟩ := least_spec S.pg m hm
  have a1 := (K.free R hm).1 h1
  rcases Nat.lt_trichotomy (Slb.least S.pg m) f with h | h | h
  · exact absurd ((K.free R hm).2 l2) (h2 _ h)
  · exact h
  · rw [l3 f h] at a1; cases a1
theorem Like.gr (R : Rep S H) (K : Like H L) : gr L = S.pg.length := by
  rw [R.pg_eq, List.length_flatMap, ← K.map]
  have := K.ok
  clear K R
  induction L with
  | nil => rfl
  | cons P L ih =>
    have e := ih fun Q hQ => this Q (by simp [hQ])
    have hw := (this P (by simp)).wide
    simp only [List.map_cons, List.sum_cons]
    have : (runE P.ent).length = P.ent.2.wide := by simp [runE]
    show P.many + Go.Proofs.YtfmkiioahnphbaaDoor.gr L = _
    omega

theorem RPg.Ok.place_eq {P : RPg} (h : P.Ok) (hl : P.lg = false) (k : Nat) : P.place k = 64 * P.n + 2 + k * csz P.cls := by unfold RPg.place; rw [if_neg (by rw [hl]; decide)]
theorem RPg.Ok.slots_eq {P : RPg} (h : P.Ok) (hl : P.lg = false) : P.slots = 62 / csz P.cls := by unfold RPg.slots; rw [if_neg (by rw [hl]; decide)]
theorem RPg.Ok.place_page {P : RPg} (h : P.Ok) {k : Nat} (hk : k < P.slots) : P.place k / 64 = P.n := by
  cases hl : P.lg with
  | true => unfold RPg.place; rw [if_pos hl]; omega
  | false =>
    rw [h.slots_eq hl] at hk
    rw [h.place_eq hl]
    have := slot_in (h.cls8 hl).1 hk
    have := csz_range (h.cls8 hl).1
    omega
theorem Like.blk (K : Like H L) {a : Int} {i k : Nat} (Y : FindY L a i k) {P : RPg} (hP : L[i]? = some P) : ∃ r, (P.place k, r) ∈ blks H ∧ a = (P.place k : Nat) ∧ k < P.slots ∧ P.bits.testBit k = true := by
  obtain ⟨P', hP', hk, hb, ha⟩ := Y
  rw [hP] at hP'
  cases hP'
  have hm := List.mem_of_getElem? hP
  obtain ⟨r, hr⟩ := (K.ok P hm).blk hk hb
  exact ⟨r, mem_blks.2 ⟨_, K.mem hm, hr⟩, ha.symm, hk, hb⟩
theorem Like.none (R : Rep S H) (K : Like H L) {a : Int} (N : FindN L a) : S.find a = none :=
  R.find_no fun b hb e => by
    obtain ⟨x, hx, hbx⟩ := mem_blks.1 hb
    rw [← K.map] at hx
    obtain ⟨P, hP, rfl⟩ := List.mem_map.1 hx
    obtain ⟨k, hk, hbit, hpl⟩ := (K.ok P hP).blk_inv (a := b.1) (r := b.2) hbx
    obtain ⟨i, hi⟩ := List.mem_iff_getElem?.1 hP
    exact N i P k hi hk hbit (by rw [← hpl]; exact e)
theorem Like.find (R : Rep S H) (K : Like H L) {a : Int} {i k : Nat} (Y : FindY L a i k) {P : RPg} (hP : L[i]? = some P) :
    ∃ k', S.find a = some (P.n, k', P.ent.2) ∧ ((P.lg = true ∧ k = 0) ∨ (P.lg = false ∧ k' = (k : Nat))) := by
  obtain ⟨r, hb, rfl, hk, hbit⟩ := K.blk Y hP
  have hm := List.mem_of_getElem? hP
  have o := K.ok P hm
  obtain ⟨p, k', h, hf, B⟩ := R.find_blk hb
  have B : IsBlk H (P.place k) p k' h r := B
  have hf : S.find ((P.place k : Nat) : Int) = some (p, k', h) := hf
  have hpg := o.place_page hk
  have hp : p = P.n := by
    rcases B.what with ⟨_, _, h3, _⟩ | ⟨h1, _, j, _, h4, _, h6⟩
    · omega
    · have hg := (R.good _ B.ent).small (by show h.kind ≠ 2; omega)
      have hn8 : h.n.toNat < 8 := by have a1 : 0 ≤ h.n := hg.2.2.1; have a2 : h.n < 8 := hg.2.2.2.1; omega
      have := slot_in hn8 h4
      have := csz_range hn8
      omega
  subst hp
  have he := R.uniq B.ent (K.mem hm) rfl
  have he2 : h = P.ent.2 := congrArg Prod.snd he
  subst he2
  refine ⟨k', hf, ?_⟩
  cases hl : P.lg with
  | true =>
    refine .inl ⟨rfl, ?_⟩
    unfold RPg.slots at hk
    rw [if_pos hl] at hk
    omega
  | false =>
    refine .inr ⟨rfl, ?_⟩
    rcases B.what with ⟨h1, _⟩ | ⟨h1, _, j, e, h4, _, h6⟩
    · rw [RPg.ent_sm hl] at h1
      exact absurd h1 (by show (1 : Int) ≠ 2; omega)
    · rw [e]
      have e2 : P.ent.2.n.toNat = P.cls := by rw [RPg.ent_sm hl]; exact Int.toNat_natCast _
      rw [e2, o.place_eq hl] at h6
      have hc := csz_range (o.cls8 hl).1
      have : k * csz P.cls = j * csz P.cls := by omega
      rw [Nat.eq_of_mul_eq_mul_right (by omega) this]
theorem Like.openY (R : Rep S H) (K : Like H L) {c i k : Nat} (Y : SpotY L c i k) {P : RPg} (hP : L[i]? = some P) :
    Slb.Open H c (P.place k) P.n P.bits k ∧ ∀ a' p' N' k', Slb.Open H c a' p' N' k' → P.place k ≤ a' := by
  obtain ⟨P', hP', hlg, hcls, hk, hb, hbef, hfull⟩ := Y
  rw [hP] at hP'
  cases hP'
  have hm := List.mem_of_getElem? hP
  have o := K.ok P hm
  have hx := K.mem hm
  subst hcls
  refine ⟨⟨?_, by rw [← o.slots_eq hlg]; exact hk, hb, o.place_eq hlg k⟩, fun a' p' N' k' O => ?_⟩
  · rw [RPg.ent_sm hlg] at hx
    exact hx
  · have hent := O.ent
    rw [← K.map] at hent
    obtain ⟨Q, hQ, he⟩ := List.mem_map.1 hent
    have oQ := K.ok Q hQ
    have hQl : Q.lg = false := by
      cases hl : Q.lg with
      | false => rfl
      | true =>
        rw [RPg.ent_lg hl] at he
        have := congrArg (fun x : Ent => x.2.kind) he
        exact absurd this (by show (2 : Int) ≠ 1; omega)
    rw [RPg.ent_sm hQl] at he
    have e1 : Q.n = p' := congrArg Prod.fst he
    have e2 : ((Q.cls : Nat) : Int) = ((P.cls : Nat) : Int) := congrArg (fun x : Ent => x.2.n) he
    have e3 : ((Q.bits : Nat) : Int) = ((N' : Nat) : Int) := congrArg (fun x : Ent => x.2.w) he
    have e2 : Q.cls = P.cls := by omega
    have e3 : Q.bits = N' := by omega
    obtain ⟨j, hj⟩ := List.mem_iff_getElem?.1 hQ
    have hk' : k' < Q.slots := by rw [oQ.slots_eq hQl, e2]; exact O.lt
    have ha : a' = Q.place k' := by rw [oQ.place_eq hQl, e1, e2]; exact O.addr
    rcases Nat.lt_trichotomy j i with h | h | h
    · have := hfull j Q k' h hj hQl e2 hk'
      rw [e3, O.bit] at this
      cases this
    · subst h
      rw [hP] at hj
      cases hj
      have : ¬ k' < k := fun hlt => by
        have := hbef k' hlt
        rw [e3, O.bit] at this
        cases this
      rw [ha, o.place_eq hlg, o.place_eq hlg]
      have := Nat.mul_le_mul_right (csz P.cls) (show k ≤ k' by omega)
      omega
    · obtain ⟨el, e4⟩ := K.split hP
      have ho := R.ord
      rw [e4] at ho
      have hQd : Q ∈ L.drop (i + 1) := by
        refine List.mem_iff_getElem?.2 ⟨j - (i + 1), ?_⟩
        rw [List.getElem?_drop, show i + 1 + (j - (i + 1)) = j by omega]
        exact hj
      have h5 := (List.pairwise_cons.1 (List.pairwise_append.1 ho).2.1).1 Q.ent (List.mem_map_of_mem hQd)
      have h6 := (R.good _ hx).wide1
      have e5 : P.ent.1 = P.n := rfl
      have e6 : Q.ent.1 = Q.n := rfl
      have h7 := o.place_page hk
      have h8 := oQ.place_page hk'
      omega
theorem Like.openN (K : Like H L) {c : Nat} (N : SpotN L c) : ∀ a p N k, ¬ Slb.Open H c a p N k := fun a' p' N' k' O => by
  have hent := O.ent
  rw [← K.map] at hent
  obtain ⟨Q, hQ, he⟩ := List.mem_map.1 hent
  have oQ := K.ok Q hQ
  have hQl : Q.lg = false := by
    cases hl : Q.lg with
    | false => rfl
    | true =>
      rw [RPg.ent_lg hl] at he
      have := congrArg (fun x : Ent => x.2.kind) he
      exact absurd this (by show (2 : Int) ≠ 1; omega)
  rw [RPg.ent_sm hQl] at he
  have e2 : ((Q.cls : Nat) : Int) = ((c : Nat) : Int) := congrArg (fun x : Ent => x.2.n) he
  have e3 : ((Q.bits : Nat) : Int) = ((N' : Nat) : Int) := congrArg (fun x : Ent => x.2.w) he
  have e2 : Q.cls = c := by omega
  have e3 : Q.bits = N' := by omega
  obtain ⟨j, hj⟩ := List.mem_iff_getElem?.1 hQ
  have := N j Q k' (List.getElem?_eq_some_iff.1 hj).1 hj hQl e2 (by rw [oQ.slots_eq hQl, e2]; exact O.lt)
  rw [e3, O.bit] at this
  cases this
end Go.Proofs.YtfmkiioahnphbaaDoor
