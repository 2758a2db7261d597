/- The plain law behind HandleOnce: handles that were told, and what is kept beside each (an address, or less than 0 for a closed one). No program stands here. -/
import Derived.Test.YtpcomekikeoliaaGreatDoorHandleSpec
set_option linter.unusedVariables false
set_option linter.unusedSimpArgs false
set_option maxRecDepth 100000
namespace Go.Proofs.YtpcomekikeoliaaGreatDoor
namespace HTbl

theorem place_name (k : Nat) (g : Int) (hk : k ≤ 65535) : place (nameOf k g) = k ∧ nameOf k g / 4294967296 = g := by
  unfold place nameOf; omega
theorem name_of_place {h : Int} (_h0 : 0 ≤ place h) : h = h / 4294967296 * 4294967296 + (place h + 1) := by unfold place; omega

theorem put_get {T : HTbl} {k : Nat} (hk : k ≤ T.l.length) (s : HSlot) (i : Nat) : (T.put k s).l[i]? = if i = k then some s else T.l[i]? := by
  unfold put
  split
  · rename_i hlt
    show (T.l.set k s)[i]? = _
    rw [List.getElem?_set]
    by_cases e : i = k
    · subst e; simp [hlt]
    · rw [if_neg (fun x => e x.symm), if_neg e]
  · rename_i hge
    show (T.l ++ [s])[i]? = _
    have hkl : k = T.l.length := by omega
    rw [List.getElem?_append]
    by_cases e : i = k
    · subst e; rw [if_neg (by omega), if_pos rfl, hkl]; simp
    · rw [if_neg e]
      split
      · rfl
      · rw [List.getElem?_eq_none (l := [s]) (by simp; omega), List.getElem?_eq_none (by omega)]

theorem open_ok_cases {T T' : HTbl} {a h : Int} (r : T.open' a = (h, 0, T')) : 0 ≤ a ∧ (T.free : Int) ≠ T.most ∧ h = nameOf T.free (T.genAt T.free + 1) ∧ T' = T.openK a := by
  unfold open' at r
  by_cases c1 : a < 0
  · rw [if_pos c1] at r; simp at r
  rw [if_neg c1] at r
  by_cases c2 : (T.free : Int) = T.most
  · rw [if_pos c2] at r; simp at r
  rw [if_neg c2] at r
  simp only [Prod.mk.injEq, true_and] at r
  exact ⟨by omega, c2, r.1.symm, r.2.symm⟩

theorem open_err {T T' : HTbl} {a h e : Int} (r : T.open' a = (h, e, T')) (he : e ≠ 0) : T' = T ∧ h = 0 := by
  unfold open' at r
  by_cases c1 : a < 0
  · rw [if_pos c1] at r; simp at r; exact ⟨r.2.2.symm, r.1.symm⟩
  rw [if_neg c1] at r
  by_cases c2 : (T.free : Int) = T.most
  · rw [if_pos c2] at r; simp at r; exact ⟨r.2.2.symm, r.1.symm⟩
  rw [if_neg c2] at r
  simp at r; exact absurd r.2.1.symm he

theorem okB_of_same {T T' : HTbl} {h : Int} (e : T'.l[(place h).toNat]? = T.l[(place h).toNat]?) : T'.okB h = T.okB h := by unfold okB; rw [e]

structure OnceInv (T : HTbl) (ls as : List Int) : Prop where
  len : as.length = ls.length
  nd : ∀ (n m : Nat) (h : Int), ls[n]? = some h → ls[m]? = some h → n = m
  each : ∀ (n : Nat) (h a : Int), ls[n]? = some h → as[n]? = some a → ∃ s, 0 ≤ place h ∧ T.l[(place h).toNat]? = some s ∧ 0 ≤ h ∧ h < 18446744073709551616 ∧ h / 4294967296 ≤ s.gen ∧
    (0 ≤ a → s.is = 1 ∧ s.gen = h / 4294967296 ∧ s.addr = a) ∧ (a < 0 → T.okB h = false) ∧ a ≤ 9223372036854775807 ∧ -1 ≤ a

theorem OnceInv.start (T : HTbl) : OnceInv T [] [] := ⟨rfl, by simp, by simp⟩

theorem OnceInv.ok {T : HTbl} {ls as : List Int} (I : OnceInv T ls as) {n : Nat} {h a : Int} (h1 : ls[n]? = some h) (h2 : as[n]? = some a) : T.okB h = decide (0 ≤ a) := by
  obtain ⟨s, p0, hs, _, _, _, hl, hd, _⟩ := I.each n h a h1 h2
  by_cases c : 0 ≤ a
  · rw [okB_of p0 hs (hl c).1 (hl c).2.1]; simp [c]
  · rw [hd (by omega)]; simp [c]

theorem OnceInv.at_eq {T : HTbl} {ls as : List Int} (I : OnceInv T ls as) {n : Nat} {h a : Int} (h1 : ls[n]? = some h) (h2 : as[n]? = some a) : T.at' h = if 0 ≤ a then (a, 0) else (0, 7) := by
  have hk := I.ok h1 h2
  obtain ⟨s, p0, hs, _, _, _, hl, hd, _⟩ := I.each n h a h1 h2
  unfold at'
  rw [hk, hs]
  by_cases c : 0 ≤ a
  · simp [c, (hl c).2.2]
  · simp [c]

theorem OnceInv.opened {T T' : HTbl} {ls as : List Int} (hT : T.Ok) (I : OnceInv T ls as) {a h : Int} (a1 : a ≤ 9223372036854775807) (r : T.open' a = (h, 0, T')) :
    (∀ x ∈ ls, x ≠ h) ∧ OnceInv T' (ls ++ [h]) (as ++ [a]) := by
  obtain ⟨ha, hf, rfl, rfl⟩ := open_ok_cases r
  have hle : T.free ≤ T.l.length := freeIn_le T.l
  have hl1 := hT.len
  have hl2 := hT.most2
  have hk : T.free ≤ 65535 := by omega
  obtain ⟨e1, e2⟩ := place_name T.free (T.genAt T.free + 1) hk
  have hg0 : 0 ≤ T.genAt T.free := by
    unfold genAt
    rcases Nat.lt_or_ge T.free T.l.length with hl | hl
    · rw [List.getElem?_eq_getElem hl]; have := (hT.slots _ _ (List.getElem?_eq_getElem hl)).2.1; show 0 ≤ (T.l[T.free]).gen; omega
    · rw [List.getElem?_eq_none hl]; show (0 : Int) ≤ 0; omega
  have hrange := open_range hT a
  rw [r] at hrange
  have hfree : ∀ s, T.l[T.free]? = some s → s.is = 0 := freeIn_at T.l
  have old : ∀ (n : Nat) (x b : Int), ls[n]? = some x → as[n]? = some b → x ≠ nameOf T.free (T.genAt T.free + 1) ∧ ((place x).toNat = T.free → b < 0) := by
    intro n x b hx hb
    obtain ⟨s, p0, hs, _, _, hle, hlv, hd, _⟩ := I.each n x b hx hb
    have hp : (place x).toNat = T.free → s.gen = T.genAt T.free := by intro e; unfold genAt; rw [← e, hs]
    refine ⟨fun e => ?_, fun e => ?_⟩
    · have : (place x).toNat = T.free := by rw [e, e1]; rfl
      have h3 := hp this
      rw [e, e2] at hle
      omega
    · have h0 := hfree s (by rw [← e]; exact hs)
      by_cases c : 0 ≤ b
      · have := (hlv c).1; omega
      · omega
  have asN : ∀ (n : Nat) (x : Int), ls[n]? = some x → ∃ b, as[n]? = some b := by
    intro n x hx
    exact ⟨_, List.getElem?_eq_getElem (by rw [I.len]; exact (List.getElem?_eq_some_iff.1 hx).1)⟩
  have hne : ∀ x ∈ ls, x ≠ nameOf T.free (T.genAt T.free + 1) := by
    intro x hx
    obtain ⟨n, hn⟩ := List.getElem?_of_mem hx
    obtain ⟨b, hb⟩ := asN n x hn
    exact (old n x b hn hb).1
  refine ⟨hne, by simp [I.len], ?_, ?_⟩
  · intro n m x hn hm
    rw [List.getElem?_append] at hn hm
    split at hn <;> split at hm
    · exact I.nd n m x hn hm
    · exfalso
      have hx : x = nameOf T.free (T.genAt T.free + 1) := by
        cases hq : m - ls.length with
        | zero => rw [hq] at hm; simpa using hm.symm
        | succ q => rw [hq] at hm; simp at hm
      exact hne x (List.mem_of_getElem? hn) hx
    · exfalso
      have hx : x = nameOf T.free (T.genAt T.free + 1) := by
        cases hq : n - ls.length with
        | zero => rw [hq] at hn; simpa using hn.symm
        | succ q => rw [hq] at hn; simp at hn
      exact hne x (List.mem_of_getElem? hm) hx
    · have h1 : n - ls.length = 0 := by
        cases hq : n - ls.length with
        | zero => rfl
        | succ q => rw [hq] at hn; simp at hn
      have h2 : m - ls.length = 0 := by
        cases hq : m - ls.length with
        | zero => rfl
        | succ q => rw [hq] at hm; simp at hm
      omega
  · intro n x b hx hb
    rw [List.getElem?_append] at hx hb
    rw [I.len] at hb
    have hput := put_get (T := T) hle ⟨1, T.genAt T.free + 1, a⟩
    show ∃ s, 0 ≤ place x ∧ (T.put T.free ⟨1, T.genAt T.free + 1, a⟩).l[(place x).toNat]? = some s ∧ _
    split at hx
    · rename_i hlt
      rw [if_pos hlt] at hb
      obtain ⟨s, p0, hs, x0, x1, hle', hlv, hd, hb1, hb2⟩ := I.each n x b hx hb
      obtain ⟨hxne, hbneg⟩ := old n x b hx hb
      by_cases c : (place x).toNat = T.free
      · refine ⟨⟨1, T.genAt T.free + 1, a⟩, p0, by rw [hput, if_pos c], x0, x1, ?_, fun hb0 => absurd (hbneg c) (by omega), fun _ => ?_, hb1, hb2⟩
        · have : s.gen = T.genAt T.free := by unfold genAt; rw [← c, hs]
          show x / 4294967296 ≤ T.genAt T.free + 1; omega
        · cases ho : (T.openK a).okB x with
          | false => rfl
          | true =>
            exfalso
            obtain ⟨_, s', hs', _, hg'⟩ := okB_place ho
            have : (T.put T.free ⟨1, T.genAt T.free + 1, a⟩).l[(place x).toNat]? = some s' := hs'
            rw [hput, if_pos c] at this
            simp only [Option.some.injEq] at this
            subst this
            have hn := name_of_place p0
            apply hxne
            unfold nameOf
            have hpi : place x = (T.free : Int) := by omega
            rw [hn, hpi, ← hg']
      · refine ⟨s, p0, by rw [hput, if_neg c]; exact hs, x0, x1, hle', hlv, fun hb0 => ?_, hb1, hb2⟩
        rw [okB_of_same (T := T)]
        · exact hd hb0
        · show (T.put T.free ⟨1, T.genAt T.free + 1, a⟩).l[(place x).toNat]? = _
          rw [hput, if_neg c]
    · rename_i hge
      rw [if_neg hge] at hb
      have hq : n - ls.length = 0 := by
        cases hq : n - ls.length with
        | zero => rfl
        | succ q => rw [hq] at hx; simp at hx
      rw [hq] at hx hb
      simp at hx hb
      subst hx hb
      rw [e1, e2]
      exact ⟨⟨1, T.genAt T.free + 1, a⟩, by omega, by rw [hput]; simp, hrange.1, hrange.2, Int.le_refl _, fun _ => ⟨rfl, rfl, rfl⟩, fun h => absurd h (by omega), a1, by omega⟩

/-- One slot is something else, of the same generation. -/
theorem OnceInv.change {T T' : HTbl} {ls as : List Int} (I : OnceInv T ls as) {n : Nat} {h a b : Int} (h1 : ls[n]? = some h) (h2 : as[n]? = some a) (ha : 0 ≤ a) {s s' : HSlot} (hs : T.l[(place h).toNat]? = some s)
    (hl : ∀ i, T'.l[i]? = if i = (place h).toNat then some s' else T.l[i]?) (hg : s'.gen = s.gen) (hb : 0 ≤ b ∧ s'.is = 1 ∧ s'.addr = b ∨ b < 0 ∧ s'.is ≠ 1) (b1 : b ≤ 9223372036854775807) (b2 : -1 ≤ b) : OnceInv T' ls (as.set n b) := by
  obtain ⟨s0, p0, hs0, x0, x1, _, hlv, _, _⟩ := I.each n h a h1 h2
  rw [hs] at hs0
  simp only [Option.some.injEq] at hs0
  subst hs0
  refine ⟨by simp [I.len], I.nd, fun m x c hx hc => ?_⟩
  rw [List.getElem?_set] at hc
  by_cases e : n = m
  · subst e
    rw [if_pos rfl] at hc
    have hxh : x = h := by rw [h1] at hx; exact (Option.some.inj hx).symm
    subst hxh
    have hcb : c = b := by
      split at hc
      · exact (Option.some.inj hc).symm
      · simp at hc
    subst hcb
    refine ⟨s', p0, by rw [hl, if_pos rfl], x0, x1, by rw [hg, (hlv ha).2.1]; exact Int.le_refl _, fun hc0 => ?_, fun hc0 => ?_, b1, b2⟩
    · rcases hb with hb | hb
      · exact ⟨hb.2.1, by rw [hg]; exact (hlv ha).2.1, hb.2.2⟩
      · omega
    · rcases hb with hb | hb
      · omega
      · unfold okB; rw [hl, if_pos rfl]; simp [hb.2]
  · rw [if_neg e] at hc
    obtain ⟨s2, q0, hs2, y0, y1, hle, hlv2, hd2, c1, c2⟩ := I.each m x c hx hc
    by_cases c : (place x).toNat = (place h).toNat
    · have hss : s2 = s := by rw [c, hs] at hs2; exact (Option.some.inj hs2).symm
      subst hss
      have hgen : x / 4294967296 ≠ s2.gen := by
        intro e2
        apply e
        apply I.nd n m h h1
        have := name_of_place p0
        have h5 := name_of_place q0
        have h6 := (hlv ha).2.1
        have : x = h := by omega
        rw [← this]; exact hx
      refine ⟨s', q0, by rw [hl, if_pos c], y0, y1, by rw [hg]; exact hle, fun hc0 => absurd (hlv2 hc0).2.1.symm hgen, fun _ => ?_, c1, c2⟩
      unfold okB; rw [hl, if_pos c]
      simp only [Bool.and_eq_false_iff]
      right; right
      rw [hg]; simp; omega
    · refine ⟨s2, q0, by rw [hl, if_neg c]; exact hs2, y0, y1, hle, hlv2, fun hc0 => ?_, c1, c2⟩
      rw [okB_of_same (T := T) (by rw [hl, if_neg c])]
      exact hd2 hc0

theorem set_get {T : HTbl} {k : Nat} {s : HSlot} (s' : HSlot) (hs : T.l[k]? = some s) (i : Nat) : (T.l.set k s')[i]? = if i = k then some s' else T.l[i]? := by
  have hk := (List.getElem?_eq_some_iff.1 hs).1
  rw [List.getElem?_set]
  by_cases e : i = k
  · subst e; simp [hk]
  · rw [if_neg (fun x => e x.symm), if_neg e]

theorem OnceInv.moved {T : HTbl} {ls as : List Int} (I : OnceInv T ls as) {n : Nat} {h a : Int} (h1 : ls[n]? = some h) (h2 : as[n]? = some a) (b : Int) (b1 : b ≤ 9223372036854775807) :
    (0 ≤ a ∧ 0 ≤ b ∧ (T.move h b).1 = 0 ∧ OnceInv (T.move h b).2 ls (as.set n b)) ∨ (¬ (0 ≤ a ∧ 0 ≤ b) ∧ (T.move h b).1 ≠ 0 ∧ (T.move h b).2 = T) := by
  have hk := I.ok h1 h2
  unfold move
  by_cases cb : b < 0
  · rw [if_pos cb]; exact .inr ⟨by omega, by simp, rfl⟩
  rw [if_neg cb, hk]
  by_cases ca : 0 ≤ a
  · obtain ⟨s, p0, hs, _, _, _, hlv, _⟩ := I.each n h a h1 h2
    simp only [ca, decide_true, if_true]
    refine .inl ⟨trivial, by omega, trivial, ?_⟩
    have hT : T.setAddr (place h).toNat b = { T with l := T.l.set (place h).toNat { s with addr := b } } := by unfold setAddr; rw [hs]
    rw [hT]
    exact I.change h1 h2 ca hs (fun i => set_get _ hs i) rfl (.inl ⟨by omega, (hlv ca).1, rfl⟩) b1 (by omega)
  · have hd : decide (0 ≤ a) = false := by simp [ca]
    rw [hd]
    exact .inr ⟨fun x => ca x.1, by simp, rfl⟩

theorem OnceInv.closed {T : HTbl} {ls as : List Int} (I : OnceInv T ls as) {n : Nat} {h a : Int} (h1 : ls[n]? = some h) (h2 : as[n]? = some a) :
    OnceInv (T.close h).2 ls (as.set n (-1)) ∧ (0 ≤ a ∧ (T.close h).1 = 0 ∨ a < 0 ∧ (T.close h).1 ≠ 0) := by
  have hk := I.ok h1 h2
  unfold close
  rw [hk]
  by_cases ca : 0 ≤ a
  · obtain ⟨s, p0, hs, _, _, _, hlv, _⟩ := I.each n h a h1 h2
    simp only [ca, decide_true, if_true]
    refine ⟨?_, .inl ⟨trivial, trivial⟩⟩
    have hT : T.shut (place h).toNat = { T with l := T.l.set (place h).toNat { s with is := if s.gen = T.last then 2 else 0 } } := by unfold shut; rw [hs]
    rw [hT]
    refine I.change h1 h2 ca hs (fun i => set_get _ hs i) rfl (.inr ⟨by omega, ?_⟩) (by omega) (by omega)
    show (if s.gen = T.last then (2 : Int) else 0) ≠ 1
    split <;> omega
  · simp only [ca, decide_false, Bool.false_eq_true, if_false]
    obtain ⟨_, _, _, _, _, _, _, _, _, hm1⟩ := I.each n h a h1 h2
    have : a = -1 := by omega
    subst this
    refine ⟨?_, .inr ⟨by omega, by simp⟩⟩
    have e : as.set n (-1) = as := by
      apply List.ext_getElem?
      intro i
      rw [List.getElem?_set]
      split
      · rename_i e; subst e; rw [h2]; split
        · rfl
        · rename_i hl; rw [List.getElem?_eq_none (by omega)] at h2; simp at h2
      · rfl
    rw [e]; exact I
end HTbl
end Go.Proofs.YtpcomekikeoliaaGreatDoor
