/- BnodeBack's parts: nodes that came in, in slices; what stands of the nodes that were put; Put of a node that does not fit. No condition. | BnodeBack, walked. Condition: the table of math/bits holds what its initialiser lays. -/
import Derived.Test.YtpcomekikeoliaaGreatDoorBnodeGetA
import Derived.Test.YtpcomekikeoliaaGreatDoorAwake15
import Derived.Test.YtpcomekikeoliaaGreatDoorArgsFN
import Derived.Test.YtpcomekikeoliaaGreatDoorFlat
import Derived.Deep.RegionHeld3
import Derived.Deep.DeepCutAuto
import Derived.Deep.CutBlock
set_option linter.unusedVariables false
set_option linter.unusedSimpArgs false
set_option maxRecDepth 100000
namespace Go.Proofs.YtpcomekikeoliaaGreatDoor
open Go Go.RowKit
open Go.ChangeShapes Go.WideShapes Go.Deep

/-- A node, and where its parts lie. -/
structure WNd where
  x : Nd
  sk : Option Addr
  ck : Nat
  sv : Option Addr
  cv : Nat
  sc : Option Addr
  cc : Nat
def WNd.cells (e : WNd) : List Value := [.slice e.sk e.x.keys.length e.ck, .slice e.sv e.x.vals.length e.cv, .slice e.sc e.x.kids.length e.cc, .int .u64 e.x.size]
theorem WNd.cells_len (e : WNd) : e.cells.length = 4 := rfl
/-- Its parts lie in a world. -/
structure WNd.At (w : World) (e : WNd) : Prop where
  nd : NdAt w e.sk e.sv e.sc e.x
  ok : e.x.Ok
  max : e.x.max

/-- A call of BnodeBack: its first word, its N, its node. -/
structure OpW where
  d : Int
  n : Int
  e : WNd
def WNd.cell (e : WNd) (j : Nat) (v : Value) : Prop := e.cells[j]? = some v
def OpW.cell (o : OpW) (j : Nat) (v : Value) : Prop := (j = 0 ∧ v = .int .i64 o.d) ∨ (j = 2 ∧ v = .int .i64 o.n) ∨ (5 ≤ j ∧ o.e.cells[j - 5]? = some v)

/-- What a slice that came in holds. -/
structure RowsA (α : Type) (cell : α → Nat → Value → Prop) (ok : α → Prop) (n : Nat) (w : World) (s : Option Addr) (len : Nat) (z : List α) : Prop where
  count : z.length = len
  ok : ∀ e ∈ z, ok e
  cells : 0 < len → ∃ b off, s = some ⟨b, off, none⟩ ∧ b < w.heap.size ∧ ∀ (k : Nat) e, z[k]? = some e → ∀ j v, cell e j v → w.cell? ⟨b, off + k * n + j, none⟩ = some v

theorem rowsA_of {α : Type} {cell : α → Nat → Value → Prop} {ok : α → Prop} {n : Nat} {w : World} {x : Addr} {len : Nat} (h0 : ∀ e, ∃ v, cell e 0 v)
    (h : ∀ i, i < len → ∃ e, ok e ∧ ∀ j v, cell e j v → w.cell? (x.add (i * n + j)) = some v) : ∃ z, RowsA α cell ok n w (some x) len z := by
  have hall : ∀ m, m ≤ len → ∃ z : List α, z.length = m ∧ ∀ (i : Nat) e, z[i]? = some e → ok e ∧ ∀ j v, cell e j v → w.cell? (x.add (i * n + j)) = some v := by
    intro m
    induction m with
    | zero => exact fun _ => ⟨[], rfl, by simp⟩
    | succ m ih =>
      intro hm
      obtain ⟨z, hl, hr⟩ := ih (by omega)
      obtain ⟨e, he⟩ := h m (by omega)
      refine ⟨z ++ [e], by simp [hl], fun i e' hi => ?_⟩
      rw [List.getElem?_append] at hi
      split at hi
      · exact hr i e' hi
      · rename_i hge
        have : i = m := by
          have := (List.getElem?_eq_some_iff.1 hi).1
          simp at this; omega
        subst this
        rw [hl, Nat.sub_self] at hi
        simp at hi
        subst hi
        exact he
  obtain ⟨z, hl, hr⟩ := hall len (Nat.le_refl _)
  refine ⟨z, hl, fun e hm => ?_, fun hpos => ?_⟩
  · obtain ⟨i, hi⟩ := List.getElem?_of_mem hm
    exact (hr i e hi).1
  · have hspot : x.spot = none ∧ x.block < w.heap.size := by
      obtain ⟨e, he⟩ : ∃ e, z[0]? = some e := ⟨_, List.getElem?_eq_getElem (by omega)⟩
      obtain ⟨v, hv⟩ := h0 e
      have hc := (hr 0 e he).2 0 v hv
      have e2 : x.add (0 * n + 0) = x := by simp [Addr.add]
      rw [e2] at hc
      exact ⟨World.cell?_spot hc, cell_lt hc⟩
    refine ⟨x.block, x.off, ?_, hspot.2, fun i e hi j v hv => ?_⟩
    · obtain ⟨b, o, s⟩ := x; simp at hspot; simp [hspot.1]
    · have hc := (hr i e hi).2 j v hv
      rw [addr_of hc (fun _ => hspot.1), ← Nat.add_assoc] at hc
      exact hc
theorem rowsA_nil {α : Type} {cell : α → Nat → Value → Prop} {ok : α → Prop} {n : Nat} (w : World) : RowsA α cell ok n w none 0 [] := ⟨rfl, by simp, by omega⟩
theorem RowsA.old {α : Type} {cell : α → Nat → Value → Prop} {ok : α → Prop} {n : Nat} {w : World} {s : Option Addr} {len : Nat} {z : List α} (R : RowsA α cell ok n w s len z) {k : Nat} (hk : k < len) :
    ∃ b off e, s = some ⟨b, off, none⟩ ∧ b < w.heap.size ∧ z[k]? = some e ∧ ok e ∧ ∀ j v, cell e j v → w.cell? ⟨b, off + k * n + j, none⟩ = some v := by
  obtain ⟨b, off, rfl, hb, hc⟩ := R.cells (by omega)
  have he : z[k]? = some (z[k]'(by rw [R.count]; exact hk)) := List.getElem?_eq_getElem _
  exact ⟨b, off, _, rfl, hb, he, R.ok _ (List.mem_of_getElem? he), hc k _ he⟩

/-- The words of a slice that came in. -/
def nlst (z : List (List Int)) : List Int := z.map fun r => r.headD 0
theorem nlst_len {w : World} {s : Option Addr} {l : Nat} {z : List (List Int)} (R : Recs w s l [some .u64] z) : (nlst z).length = l := by unfold nlst; rw [List.length_map, R.count]
theorem nlst_has {w : World} {s : Option Addr} {l : Nat} {z : List (List Int)} (R : Recs w s l [some .u64] z) : HasR w s (nlst z) ∧ ∀ k ∈ nlst z, 0 ≤ k ∧ k < 18446744073709551616 := by
  have each : ∀ (k : Nat) (x : Int), (nlst z)[k]? = some x → ∃ r, z[k]? = some r ∧ r[0]? = some x := fun k x h => by
    unfold nlst at h
    rw [List.getElem?_map] at h
    obtain ⟨r, hr, hx⟩ := Option.map_eq_some_iff.1 h
    have hl := (R.ok r (List.mem_of_getElem? hr)).1
    match r, hl with
    | [y], _ => exact ⟨[y], hr, by rw [← hx]; rfl⟩
  refine ⟨fun k x h => ?_, fun x hx => ?_⟩
  · obtain ⟨r, hr, h0⟩ := each k x h
    have hlt : 0 < l := by have := (List.getElem?_eq_some_iff.1 hr).1; rw [R.count] at this; omega
    obtain ⟨b, off, e, _, hc⟩ := R.cells hlt
    have := hc k r hr 0 _ x rfl h0
    exact ⟨b, off, e, by simpa [fv] using this⟩
  · obtain ⟨k, hk⟩ := List.mem_iff_getElem?.1 hx
    obtain ⟨r, hr, h0⟩ := each k x hk
    have := bounds_u64 ((R.ok r (List.mem_of_getElem? hr)).2 0 _ x rfl h0)
    omega
theorem wnd_of {w : World} {s0 s1 s2 : Option Addr} {l0 c0 l1 c1 l2 c2 : Nat} {z0 z1 z2 : List (List Int)} {n : Int} (r0 : Recs w s0 l0 [some .u64] z0) (r1 : Recs w s1 l1 [some .u64] z1) (r2 : Recs w s2 l2 [some .u64] z2) (hn : (Lit.int .u64 n).wf = true) :
    ∃ e : WNd, e.At w ∧ e.cells = [.slice s0 l0 c0, .slice s1 l1 c1, .slice s2 l2 c2, .int .u64 n] := by
  have h0 := nlst_has r0
  have h1 := nlst_has r1
  have h2 := nlst_has r2
  have hb := bounds_u64 hn
  refine ⟨⟨⟨nlst z0, nlst z1, nlst z2, n⟩, s0, c0, s1, c1, s2, c2⟩, ⟨⟨h0.1, h1.1, h2.1⟩, ⟨h0.2, h1.2, h2.2, by dsimp only; omega⟩, ?_⟩, ?_⟩
  · exact ⟨by dsimp only; rw [nlst_len r0]; exact r0.max, by dsimp only; rw [nlst_len r1]; exact r1.max, by dsimp only; rw [nlst_len r2]; exact r2.max⟩
  · unfold WNd.cells
    dsimp only
    rw [nlst_len r0, nlst_len r1, nlst_len r2]

section
variable {H : Type} {enc : TypeId × Value → H} {P : Program} {w : World} {base : Nat} {spare : Nat → Bool} {held : Bool}
/-- A slice of nodes. -/
theorem open_nodes {ts t tl te tu : TypeId} {fs : Array Field} {a : Option Addr} {len cap : Nat} {d : DataW H} {p : List MemPlace} (hts : P.underlying ts = some (.slice t))
    (ht : P.underlying t = some (.struct fs)) (hsz : fs.size = 4) (hC : P.cellsOf t = 4) (hf : ∀ (i : Nat) f, fs[i]? = some f → f.offset = i ∧ f.type = (if i = 3 then tu else tl))
    (hl : P.underlying tl = some (.slice te)) (he : P.underlying te = some (.int .u64)) (hu : P.underlying tu = some (.int .u64)) (hCl : P.cellsOf tl = 1) (hCu : P.cellsOf tu = 1) (hCe : P.cellsOf te = 1)
    (h : DataW.Trod enc P w base spare held ts (.slice a len cap) d p) : ∃ z, RowsA WNd WNd.cell (WNd.At w) 4 w a len z := by
  obtain ⟨fuel, hfu⟩ := h
  rcases open_slice hts hfu with ⟨hcs, _⟩ | ⟨x, l, c, m, n, D, Pl, hcs, _, hl', hm, hmm, _, hi⟩
  · simp [Value.cells] at hcs
    obtain ⟨rfl, rfl, rfl⟩ := hcs
    exact ⟨[], rowsA_nil w⟩
  · simp [Value.cells] at hcs
    obtain ⟨rfl, rfl, rfl⟩ := hcs
    have hml : len ≤ m := by rw [hmm]; split <;> omega
    refine rowsA_of (fun e => ⟨_, rfl⟩) fun i hil => ?_
    obtain ⟨cs', hc, ht'⟩ := hi i (by omega)
    rw [hC] at hc
    obtain ⟨_, hcl, hat⟩ := World.cells?_some hc
    obtain ⟨s0, l0, c0, z0, s1, l1, c1, z1, s2, l2, c2, z2, n', hcs, r0, r1, r2, hw⟩ := open_node4 ht hsz hC hf hl he hu hCl hCu hCe ht'
    obtain ⟨e, he1, he2⟩ := wnd_of (c0 := c0) (c1 := c1) (c2 := c2) r0 r1 r2 hw
    refine ⟨e, he1, fun j v hv => ?_⟩
    have hv : e.cells[j]? = some v := hv
    have hj : j < 4 := by have := (List.getElem?_eq_some_iff.1 hv).1; rw [WNd.cells_len] at this; exact this
    rw [← Go.Deep.add_add, hat j hj, hcs, ← he2]
    exact hv

/-- A slice of calls: five integers' fields and a word, and a node. -/
theorem open_opnodes {ts to_ ti t tl te tu : TypeId} {gs fs : Array Field} {a : Option Addr} {len cap : Nat} {d : DataW H} {p : List MemPlace} (hts : P.underlying ts = some (.slice to_))
    (hto : P.underlying to_ = some (.struct gs)) (hgs : gs.size = 6) (hCo : P.cellsOf to_ = 9) (hg : ∀ (i : Nat) f, gs[i]? = some f → f.offset = i ∧ f.type = (if i = 5 then t else if i = 4 then tu else ti)) (hti : P.underlying ti = some (.int .i64)) (hCi : P.cellsOf ti = 1)
    (ht : P.underlying t = some (.struct fs)) (hsz : fs.size = 4) (hC : P.cellsOf t = 4) (hf : ∀ (i : Nat) f, fs[i]? = some f → f.offset = i ∧ f.type = (if i = 3 then tu else tl))
    (hl : P.underlying tl = some (.slice te)) (he : P.underlying te = some (.int .u64)) (hu : P.underlying tu = some (.int .u64)) (hCl : P.cellsOf tl = 1) (hCu : P.cellsOf tu = 1) (hCe : P.cellsOf te = 1)
    (h : DataW.Trod enc P w base spare held ts (.slice a len cap) d p) : ∃ z, RowsA OpW OpW.cell (fun o => o.e.At w ∧ (Lit.int .i64 o.n).wf = true) 9 w a len z := by
  obtain ⟨fuel, hfu⟩ := h
  rcases open_slice hts hfu with ⟨hcs, _⟩ | ⟨x, l, c, m, n, D, Pl, hcs, _, hl', hm, hmm, _, hi⟩
  · simp [Value.cells] at hcs
    obtain ⟨rfl, rfl, rfl⟩ := hcs
    exact ⟨[], rowsA_nil w⟩
  · simp [Value.cells] at hcs
    obtain ⟨rfl, rfl, rfl⟩ := hcs
    have hml : len ≤ m := by rw [hmm]; split <;> omega
    refine rowsA_of (fun e => ⟨_, .inl ⟨rfl, rfl⟩⟩) fun i hil => ?_
    obtain ⟨cs', hc, ht'⟩ := hi i (by omega)
    rw [hCo] at hc
    obtain ⟨_, hcl, hat⟩ := World.cells?_some hc
    obtain ⟨ys, n', _, _, hln, hyl, hfd⟩ := DataW.trod_struct hto ht'
    rw [hCo] at hln
    match cs', hln with
    | [x0, x1, x2, x3, x4, x5, x6, x7, x8], _ =>
    have hgf : ∀ i (hi : i < 6), ∃ f y, gs[i]? = some f ∧ ys[i]? = some y ∧ f.offset = i ∧ f.type = (if i = 5 then t else if i = 4 then tu else ti) := fun i hi => by
      have h1 : gs[i]? = some (gs[i]'(by omega)) := Array.getElem?_eq_getElem _
      have h2 : ys[i]? = some (ys[i]'(by omega)) := List.getElem?_eq_getElem _
      exact ⟨_, _, h1, h2, hg i _ h1⟩
    obtain ⟨f0, y0, a0, b0, o0, k0⟩ := hgf 0 (by omega)
    obtain ⟨f2, y2, a2, b2, o2, k2⟩ := hgf 2 (by omega)
    obtain ⟨f5, y5, a5, b5, o5, k5⟩ := hgf 5 (by omega)
    rw [if_neg (by omega), if_neg (by omega)] at k0 k2
    rw [if_pos rfl] at k5
    have h0 := hfd 0 f0 a0
    have h2 := hfd 2 f2 a2
    have h5 := hfd 5 f5 a5
    rw [b0, o0, k0, hCi] at h0
    rw [b2, o2, k2, hCi] at h2
    rw [b5, o5, k5, hC] at h5
    have h0 : DataW.trod enc P w base spare held n' ti [x0] = some y0 := h0
    have h2 : DataW.trod enc P w base spare held n' ti [x2] = some y2 := h2
    have h5 : DataW.trod enc P w base spare held n' t [x5, x6, x7, x8] = some y5 := h5
    obtain ⟨d0, hv0, _, hw0⟩ := DataW.trod_int hti h0
    obtain ⟨d2, hv2, _, hw2⟩ := DataW.trod_int hti h2
    simp at hv0 hv2
    obtain ⟨s0, l0, c0, z0, s1, l1, c1, z1, s2, l2, c2, z2, nn, hcs, r0, r1, r2, hw⟩ := open_node4 ht hsz hC hf hl he hu hCl hCu hCe h5
    obtain ⟨e, he1, he2⟩ := wnd_of (c0 := c0) (c1 := c1) (c2 := c2) r0 r1 r2 hw
    refine ⟨⟨d0, d2, e⟩, ⟨he1, hw2⟩, fun j v hv => ?_⟩
    rcases hv with ⟨rfl, rfl⟩ | ⟨rfl, rfl⟩ | ⟨h5j, hv⟩
    · rw [← Go.Deep.add_add, hat 0 (by omega)]
      simp [hv0]
    · rw [← Go.Deep.add_add, hat 2 (by omega)]
      simp [hv2]
    · have hj : j - 5 < 4 := by have := (List.getElem?_eq_some_iff.1 hv).1; rw [WNd.cells_len] at this; exact this
      rw [← Go.Deep.add_add, hat j (by omega)]
      dsimp only at hv
      rw [he2, ← hcs] at hv
      obtain ⟨k, rfl⟩ : ∃ k, j = k + 5 := ⟨j - 5, by omega⟩
      rw [Nat.add_sub_cancel] at hv
      simpa using hv
end

/-! What stands of the nodes. -/
section
variable {w : World} {S S' : Slb} {T T' : HTbl} {H H' : List Ent} {R R' : List Rc} {W : List WNd} {t : Nat}
structure BN (w : World) (S : Slb) (T : HTbl) (H : List Ent) (R : List Rc) (W : List WNd) (t : Nat) : Prop where
  inv : StInv S T H R
  len : R.length = W.length
  live : ∀ r ∈ R, 0 ≤ r.a
  node : ∀ (k : Nat) r e, R[k]? = some r → W[k]? = some e → r.w = Nd.ws t e.x ∧ Nd.fitB (t : Int) e.x = true
  args : ∀ e ∈ W, e.At w
def hdv (R : List Rc) : List Value := R.map fun r => .int .u64 r.h
def wrow (W : List WNd) : List Value := W.flatMap WNd.cells
theorem hdv_at {k : Nat} {r : Rc} (h : R[k]? = some r) : (hdv R)[k]? = some (.int .u64 r.h) := by unfold hdv; rw [List.getElem?_map, h]; rfl
theorem hdv_set {k : Nat} {r r' : Rc} (h : R[k]? = some r) (he : r'.h = r.h) : hdv (R.set k r') = hdv R := by
  unfold hdv
  rw [List.map_set, he]
  exact list_set_same (by rw [List.getElem?_map, h]; rfl)
theorem wrow_at {k j : Nat} {e : WNd} (h : W[k]? = some e) (hj : j < 4) : (wrow W)[k * 4 + j]? = e.cells[j]? := flat_get WNd.cells_len W k j e h hj
theorem wrow_set {k : Nat} (e : WNd) (hk : k < W.length) : ((((wrow W).set (k * 4) (.slice e.sk e.x.keys.length e.ck)).set (k * 4 + 1) (.slice e.sv e.x.vals.length e.cv)).set (k * 4 + 2) (.slice e.sc e.x.kids.length e.cc)).set (k * 4 + 3) (.int .u64 e.x.size) = wrow (W.set k e) := by
  induction W generalizing k with
  | nil => simp at hk
  | cons c W ih =>
    cases k with
    | zero => rfl
    | succ k =>
      have := ih (k := k) (by simpa using hk)
      show ((((c.cells ++ wrow W).set _ _).set _ _).set _ _).set _ _ = c.cells ++ wrow (W.set k e)
      rw [List.set_append_right _ _ (by rw [WNd.cells_len]; omega), List.set_append_right _ _ (by rw [WNd.cells_len]; omega), List.set_append_right _ _ (by rw [WNd.cells_len]; omega), List.set_append_right _ _ (by rw [WNd.cells_len]; omega), WNd.cells_len,
        show (k + 1) * 4 - 4 = k * 4 by omega, show (k + 1) * 4 + 1 - 4 = k * 4 + 1 by omega, show (k + 1) * 4 + 2 - 4 = k * 4 + 2 by omega, show (k + 1) * 4 + 3 - 4 = k * 4 + 3 by omega, this]
theorem wrow_app (W : List WNd) (e : WNd) : wrow (W ++ [e]) = wrow W ++ e.cells := by unfold wrow; rw [List.flatMap_append]; simp

theorem BN.start (I : StInv S T H []) : BN w S T H [] [] t := ⟨I, rfl, by simp, by simp, by simp⟩
theorem BN.keep (N : BN w S T H R W t) (I : StInv S' T' H' R) : BN w S' T' H' R W t := ⟨I, N.len, N.live, N.node, N.args⟩
theorem BN.add (N : BN w S T H R W t) {hd : Int} {a : Nat} {e : WNd} (I : StInv S' T' H' (R ++ [⟨hd, (a : Int), Nd.ws t e.x⟩])) (hf : Nd.fitB (t : Int) e.x = true) (he : e.At w) : BN w S' T' H' (R ++ [⟨hd, (a : Int), Nd.ws t e.x⟩]) (W ++ [e]) t := by
  refine ⟨I, by simp [N.len], fun r hr => ?_, fun k r e' hr he' => ?_, fun e' he' => ?_⟩
  · rcases List.mem_append.1 hr with hr | hr
    · exact N.live r hr
    · rw [List.mem_singleton.1 hr]; exact Int.natCast_nonneg a
  · rw [List.getElem?_append] at hr he'
    rw [N.len] at hr
    split at hr
    · rename_i hk
      rw [if_pos hk] at he'
      exact N.node k r e' hr he'
    · rename_i hk
      rw [if_neg hk] at he'
      have h0 := (List.getElem?_eq_some_iff.1 hr).1
      simp only [List.length_singleton] at h0
      have : k - W.length = 0 := by omega
      rw [this] at hr he'
      simp at hr he'
      subst hr he'
      exact ⟨rfl, hf⟩
  · rcases List.mem_append.1 he' with h | h
    · exact N.args e' h
    · rw [List.mem_singleton.1 h]; exact he
theorem BN.put (N : BN w S T H R W t) {k : Nat} {r : Rc} {e : WNd} (hk : R[k]? = some r) (hf : Nd.fitB (t : Int) e.x = true) (he : e.At w) (I : StInv S' T H (R.set k { r with w := Nd.ws t e.x })) : BN w S' T H (R.set k { r with w := Nd.ws t e.x }) (W.set k e) t := by
  refine ⟨I, by simp [N.len], fun q hq => ?_, fun j q e' hq he' => ?_, fun e' he' => ?_⟩
  · rcases List.mem_or_eq_of_mem_set hq with h | rfl
    · exact N.live q h
    · exact N.live r (List.mem_of_getElem? hk)
  · rw [List.getElem?_set] at hq he'
    split at hq
    · rename_i hj
      rw [if_pos hj] at he'
      split at hq
      · rename_i hjl
        rw [if_pos (by rw [← N.len]; exact hjl)] at he'
        cases hq
        cases he'
        exact ⟨rfl, hf⟩
      · cases hq
    · rename_i hj
      rw [if_neg hj] at he'
      exact N.node j q e' hq he'
  · rcases List.mem_or_eq_of_mem_set he' with h | rfl
    · exact N.args e' h
    · exact he
theorem BN.slide (N : BN w S T H R W t) {k : Nat} {r : Rc} {a : Nat} (hk : R[k]? = some r) (I : StInv S' T' H' (R.set k { r with a := (a : Int) })) : BN w S' T' H' (R.set k { r with a := (a : Int) }) W t := by
  refine ⟨I, by simp [N.len], fun q hq => ?_, fun j q e' hq he' => ?_, N.args⟩
  · rcases List.mem_or_eq_of_mem_set hq with h | rfl
    · exact N.live q h
    · exact Int.natCast_nonneg a
  · rw [List.getElem?_set] at hq
    split at hq
    · rename_i hj
      subst hj
      split at hq
      · cases hq
        exact N.node k r e' hk he'
      · cases hq
    · exact N.node j q e' hq he'
end

section
variable {F0 : Nat → Prop} {w0 w : World} {Ps : List Res} {b : Nat} {m la : Int} {S : Slb} {T : HTbl} {H : List Ent} {R : List Rc}
attribute [local go_sem] Oper.semAt_some
/-- Put of a node that does not fit. -/
theorem bnput_arg (h : Sep F0 w0 w Ps) (i : Nat) (hi : Ps[i]? = some (stR b m la S T)) (I : StInv S T H R) (hh : Int) {sk sv sc : Option Addr} {ck cv cc : Nat} {x : Nd} (hx : HasR w sc x.kids) (lk : x.keys.length ≤ maxLen) (lc : x.kids.length ≤ maxLen) {t : Int} (hf : Nd.fitB t x = false) :
    Calls Tryz.prog 20 #[.pointer (some ⟨b, 0, none⟩), .int .i64 t, .int .u64 hh, ndV sk ck sv cv sc cc x] w fun e w' => e = .returned (.int .i64 2) ∧ Mod No w w' := by
  have h2 := ((h.pushCells #[.pointer (some ⟨b, 0, none⟩)] 46).pushCells #[.int .u64 hh] 55).pushCells #[.slice sk x.keys.length ck, .slice sv x.vals.length cv, .slice sc x.kids.length cc, .int .u64 x.size] 54
  have hm : Mod No w (((w.alloc (.cells #[.pointer (some ⟨b, 0, none⟩)] 46)).alloc (.cells #[.int .u64 hh] 55)).alloc (.cells #[.slice sk x.keys.length ck, .slice sv x.vals.length cv, .slice sc x.kids.length cc, .int .u64 x.size] 54)) := (((Mod.refl No w).alloc _).alloc _).alloc _
  have hl := stlen_call (h.more hm) i hi I (hh := 0) (by omega) (.stale T.at_zero)
  have hc := fits_call (sk := sk) (sv := sv) (ck := ck) (cv := cv) (cc := cc) (hx.mod hm) lk lc t
  rw [hf] at hc
  have HM := Lib.hid hm
  clear h h2 hi I hx lk lc hf hm
  go_enter Tryz.func20, Tryz.ntmps20
  go_wp2_with fail
  refine hl.mono ?_
  rintro e w' ⟨rfl, rfl⟩
  clear hl
  go_wp2_with fail
  refine hc.mono ?_
  rintro e w2 ⟨rfl, hm2⟩
  have HM2 := Lib.hid (HM.out.trans' hm2)
  clear hc hm2
  go_wp2
  go_ret
  exact ⟨rfl, HM2.out⟩
end

theorem Nd.sameB_size {x : Nd} (hx : x.Ok) : Nd.sameB { x with size := IntKind.u64.wrap (x.size + 1) } x = false := by
  have h : ¬ Nd.sameB { x with size := IntKind.u64.wrap (x.size + 1) } x = true := fun h => by
    have := congrArg Nd.size (Nd.sameB_iff.1 h)
    have hs := hx.size
    dsimp only at this
    rw [IntKind.wrap_u64] at this
    omega
  simpa using h
end Go.Proofs.YtpcomekikeoliaaGreatDoor

namespace Go.Proofs.YtpcomekikeoliaaGreatDoor
open Go Go.RowKit

theorem infoBN : (Tryz.prog.info? 54).map (fun i => (i.zero, i.size, i.bytes)) = some (some (.agg #[.slice none 0 0, .slice none 0 0, .slice none 0 0, .int .u64 0]), 4, 80) := by kernel_rfl
theorem infoHdlBB : (Tryz.prog.info? 55).map (fun i => (i.zero, i.size, i.bytes)) = some (some (.int .u64 0), 1, 8) := by kernel_rfl

abbrev hRow (v : Value) (n : Nat) (R : List Rc) : Res := rowAt 55 1 v n (hdv R)
abbrev wRow (v : Value) (n : Nat) (W : List WNd) : Res := rowAt 54 4 v n (wrow W)
def BbRel (w : World) (b t : Nat) (lv wv : Value) (j : Nat) (wr : World) : Prop := ∃ (S : Slb) (T : HTbl) (H : List Ent) (R : List Rc) (W : List WNd), BN w S T H R W t ∧ W.length ≤ j ∧
  Sep No w wr [stR b 100 4294967295 S T, hRow lv W.length R, wRow wv W.length W]
def BbRel2 (w : World) (b t : Nat) (lv wv : Value) (n : Nat) (wr : World) : Prop := ∃ (S : Slb) (T : HTbl) (H : List Ent) (R : List Rc) (W : List WNd), BN w S T H R W t ∧ W.length = n ∧
  Sep No w wr [stR b 100 4294967295 S T, hRow lv n R, wRow wv n W]
theorem bb_cells {F0 : Nat → Prop} {w0 w : World} {Ps : List Res} (h : Sep F0 w0 w Ps) (i : Nat) {sw : Option Addr} {n cw : Nat} {W : List WNd} (hi : Ps[i]? = some (wRow (.slice sw n cw) n W)) {k : Nat} {e : WNd} (hk : W[k]? = some e) :
    ∃ g, sw = some ⟨g, 0, none⟩ ∧ (w.cell? ⟨g, k * 4, none⟩ = some (.slice e.sk e.x.keys.length e.ck) ∧ w.cell? ⟨g, k * 4 + 1, none⟩ = some (.slice e.sv e.x.vals.length e.cv) ∧ w.cell? ⟨g, k * 4 + 2, none⟩ = some (.slice e.sc e.x.kids.length e.cc) ∧ w.cell? ⟨g, k * 4 + 3, none⟩ = some (.int .u64 e.x.size)) ∧ ∀ o, w.frozen? ⟨g, o, none⟩ = false := by
  have a0 := wrow_at (j := 0) hk (by omega)
  have a1 := wrow_at (j := 1) hk (by omega)
  have a2 := wrow_at (j := 2) hk (by omega)
  have a3 := wrow_at (j := 3) hk (by omega)
  obtain ⟨g, rfl, c0, f⟩ := h.item i hi (x := .slice e.sk e.x.keys.length e.ck) a0
  obtain ⟨g1, e1, c1, _⟩ := h.item i hi (x := .slice e.sv e.x.vals.length e.cv) a1
  cases e1
  obtain ⟨g2, e2, c2, _⟩ := h.item i hi (x := .slice e.sc e.x.kids.length e.cc) a2
  cases e2
  obtain ⟨g3, e3, c3, _⟩ := h.item i hi (x := .int .u64 e.x.size) a3
  cases e3
  exact ⟨g, rfl, ⟨by simpa using c0, c1, c2, c3⟩, f⟩


theorem slides_inv {S S' : Slb} {T T' : HTbl} {H H' : List Ent} {R R' : List Rc} {hh er : Int} {is : Bool} (D : Slides S T H R hh is er S' T' H' R') : StInv S' T' H' R' := by cases D <;> assumption

set_option maxRecDepth 100000 in
set_option maxHeartbeats 8000000 in
theorem bback_in (t : Nat) (s1 : Option Addr) (len1 cap1 : Nat) (z1 : List WNd) (s2 : Option Addr) (len2 cap2 : Nat) (z2 : List OpW) (w : World) (ht : 2 ≤ t ∧ t ≤ 16) (R1 : RowsA WNd WNd.cell (WNd.At w) 4 w s1 len1 z1) (hl1 : len1 ≤ 20)
    (R2 : RowsA OpW OpW.cell (fun o => o.e.At w ∧ (Lit.int .i64 o.n).wf = true) 9 w s2 len2 z2) (hl2 : len2 ≤ 20) (hT : Tab64 w) :
    Calls Tryz.prog 4 #[.int .i64 (t : Nat), .slice s1 len1 cap1, .slice s2 len2 cap2] w fun e w' => e = .returned (.bool true) ∧ Below w.heap.size w w' := by
  have d1 : decide ((t : Int) < 2) = false := ltF (by omega)
  have d2 : decide ((16 : Int) < (t : Int)) = false := ltF (by omega)
  have d3 : decide ((20 : Int) < (len1 : Int)) = false := ltF (by omega)
  have d4 : decide ((20 : Int) < (len2 : Int)) = false := ltF (by omega)
  have HR1 := Lib.hid R1
  have HR2 := Lib.hid R2
  have HT := Lib.hid hT
  obtain ⟨i0, hi0, hz0, hz1, hz2⟩ := info_parts infoHdlBB
  have HI := Lib.hid (And.intro hi0 (And.intro hz0 (And.intro hz1 hz2)))
  obtain ⟨i1, hi1, hy0, hy1, hy2⟩ := info_parts infoBN
  have HJ := Lib.hid (And.intro hi1 (And.intro hy0 (And.intro hy1 hy2)))
  clear R1 R2 hT hi0 hz0 hz1 hz2 hi1 hy0 hy1 hy2
  go_enter Tryz.func4, Tryz.ntmps4
  go_wp2_with fail
  refine (stnew_call (Sep.nil w) 262144 100 4294967295 (by omega) (by omega) (by omega) (by omega) (by omega) (by omega)).mono ?_
  rintro e w1 ⟨b, rfl, h1⟩
  have I0 := StInv.start (q := 262144) (m := 100) (l := 4294967295) (by omega) (by omega) (by omega) (by omega) (by omega) (by omega)
  have hst : Hid (BbRel w b t (.slice none 0 0) (.slice none 0 0) 0 w1) := ⟨_, _, [], [], [], BN.start I0, Nat.le_refl _, (h1.pushNil 55 1).pushNil 54 4⟩
  clear h1 I0 d1 d2 d3 d4
  go_wp2_with fail
  go_loopw [9, 10, 11] (fun lv wv i wr => ∃ j : Nat, i = .int .i64 j ∧ j ≤ len1 ∧ BbRel w b t lv wv j wr) (fun _ _ i _ => len1 - (RowKit.intOf i).toNat)
  case atStart => exact ⟨0, rfl, Nat.zero_le _, hst.out⟩
  case round =>
    obtain ⟨j, rfl, hj, S, T, H, R, W, N, hWj, h⟩ := hrel
    clear hst
    obtain ⟨sl, cl, rfl⟩ := h.form 1 rfl
    obtain ⟨sw, cw, rfl⟩ := h.form 2 rfl
    obtain ⟨n, hn⟩ : ∃ n, W.length = n := ⟨_, rfl⟩
    rw [hn] at h hWj ⊢
    have HWn := Lib.hid hn
    clear hn
    by_cases hlt : j < len1
    · obtain ⟨bb, off, e, rfl, hbw, hze, heA, hcl⟩ := HR1.out.old hlt
      have hcell : ∀ (jj : Nat) v, e.cells[jj]? = some v → wr.cell? ⟨bb, off + j * 4 + jj, none⟩ = some v := fun jj v hv => h.old (hcl jj v hv)
      have c0 := hcell 0 _ rfl
      have c1 := hcell 1 _ rfl
      have c2 := hcell 2 _ rfl
      have c3 := hcell 3 _ rfl
      rw [Nat.add_zero] at c0
      have HC := Lib.hid (And.intro (hcl 0 _ rfl) (And.intro (hcl 1 _ rfl) (And.intro (hcl 2 _ rfl) (hcl 3 _ rfl))))
      have Hh := Lib.hid h
      have HN := Lib.hid (And.intro N heA)
      have hj20 : j < 20 := by omega
      clear hcell hcl h N hze heA
      go_wp2_with fail
      refine (long_call e.sk e.ck e.sv e.cv e.sc e.cc e.x _).mono ?_
      rintro er w3 ⟨c, rfl, hcs, hm3⟩
      cases c with
      | true =>
        have HM := Lib.hid (Hh.out.more hm3).mod
        clear hcs hm3 Hh
        go_wp2_with fail
        have ha := awake15_call w3 (HT.out.mod HM.out)
        go_wp2_with fail
        refine ha.mono ?_
        rintro e w9 ⟨rfl, hm9⟩
        have H9 := Lib.hid (HM.out.trans' hm9)
        clear ha hm9
        go_wp2
        go_ret
        exact ⟨rfl, H9.out.below _ (Nat.le_refl _) (fun _ _ x => x)⟩
      | false =>
        have h3 := Hh.out.more hm3
        have c0 := h3.old HC.out.1
        have c1 := h3.old HC.out.2.1
        have c2 := h3.old HC.out.2.2.1
        have c3 := h3.old HC.out.2.2.2
        rw [Nat.add_zero] at c0
        by_cases hf : Nd.fitB (t : Int) e.x = true
        · obtain ⟨n6, hn6⟩ : ∃ n, 6 * t = n := ⟨_, rfl⟩
          obtain ⟨hdl, er, S', T', H', R', M⟩ := HN.out.1.inv.made n6
          by_cases he0 : er = 0
          · subst he0
            have hmk := bnmake_ok h3 0 rfl HN.out.1.inv (HT.out.mod h3.mod) (fun wr S1 T1 hs => HN.out.2.nd.mod hs.mod) HN.out.2.ok HN.out.2.max.1 HN.out.2.max.2.2 hf hn6 M (sk := e.sk) (ck := e.ck) (sv := e.sv) (cv := e.cv) (sc := e.sc) (cc := e.cc)
            have HM2 := Lib.hid (And.intro hf M)
            clear hf M h3 Hh hm3 hcs
            go_wp2_with fail
            refine hmk.mono ?_
            rintro e' w4 ⟨⟨S2, a2⟩, ⟨rfl, I2, hp2, hq2⟩, h4⟩
            have h4 : Sep No w w4 [stR b 100 4294967295 S2 T', hRow (.slice sl n cl) n R, wRow (.slice sw n cw) n W] := h4
            have HN2 := Lib.hid (HN.out.1.add I2 HM2.out.1 HN.out.2)
            obtain ⟨hi0, hz0, hz1, hz2⟩ := HI.out
            clear hmk I2 hp2 hq2 c0 c1 c2 c3
            go_wp2_with (at_builtin; refine wpList_append_sep1 h4 1 rfl (by rfl) _ _ 50 rfl Tryz.underlying50 hi0 hz0 hz1 hz2 rfl (by rfl) _ _ (by rfl) (by simp) (by rfl) _ (by unfold maxLen; omega) (by omega) ?_)
            intro gg capg w5 h5
            have h5 : Sep No w w5 [stR b 100 4294967295 S2 T', hRow (.slice (some ⟨gg, 0, none⟩) (n + 1) capg) (n + 1) (R ++ [⟨hdl, (a2 : Int), Nd.ws t e.x⟩]), wRow (.slice sw n cw) n W] := by
              have e1 : hdv (R ++ [(⟨hdl, (a2 : Int), Nd.ws t e.x⟩ : Rc)]) = hdv R ++ [.int .u64 hdl] := by unfold hdv; rw [List.map_append]; rfl
              unfold hRow
              rw [e1]
              exact h5
            have c0 := h5.old HC.out.1
            have c1 := h5.old HC.out.2.1
            have c2 := h5.old HC.out.2.2.1
            have c3 := h5.old HC.out.2.2.2
            rw [Nat.add_zero] at c0
            have hE := h5.alloc (.cells #[.slice e.sk e.x.keys.length e.ck, .slice e.sv e.x.vals.length e.cv, .slice e.sc e.x.kids.length e.cc, .int .u64 e.x.size] 54)
            have hsrc := srcOf_block (w := w5.alloc (.cells #[.slice e.sk e.x.keys.length e.ck, .slice e.sv e.x.vals.length e.cv, .slice e.sc e.x.kids.length e.cc, .int .u64 e.x.size] 54)) (size := 4) (heap_alloc_new w5 _) rfl (by simp [Value.oneCell']) 1
            obtain ⟨hi1, hy0, hy1, hy2⟩ := HJ.out
            clear h4 h5 hi0 hz0 hz1 hz2
            go_wp2_with (at_builtin; refine wpList_append_src hE 2 rfl (by rfl) _ _ 44 rfl Tryz.underlying44 hi1 hy0 hy1 hy2 rfl (by decide) (by rfl) _ (by rfl) hsrc (by unfold maxLen; omega) (by omega) ?_)
            intro sb cb w6 h6
            have H6 : Hid (BbRel w b t (.slice (some ⟨gg, 0, none⟩) (n + 1) capg) (.slice sb (n + 1) cb) (j + 1) w6) := by
              have hl : (W ++ [e]).length = n + 1 := by rw [List.length_append, HWn.out]; rfl
              refine ⟨S2, T', H', _, W ++ [e], HN2.out, by omega, ?_⟩
              rw [hl]
              unfold wRow
              rw [wrow_app]
              exact h6
            clear hE h6 hsrc hi1 hy0 hy1 hy2 HN2 c0 c1 c2 c3
            go_wp2
            go_roundw
            case rel => exact ⟨j + 1, by go_num, by omega, H6.out⟩
            case measure => (simp [RowKit.intOf]; try omega)
          · have hmk := bnmake_no h3 0 rfl HN.out.1.inv (HT.out.mod h3.mod) (HN.out.2.nd.mod h3.mod).kids HN.out.2.max.1 HN.out.2.max.2.2 hf hn6 M he0 (sk := e.sk) (ck := e.ck) (sv := e.sv) (cv := e.cv) (sc := e.sc) (cc := e.cc)
            have hb : (er == 0) = false := beqF he0
            have HM2 := Lib.hid (And.intro (M.err he0) M.inv)
            clear hf M h3 Hh hm3 hcs
            go_wp2_with fail
            refine hmk.mono ?_
            rintro e' w4 ⟨rfl, h4⟩
            have H6 : Hid (BbRel w b t (.slice sl n cl) (.slice sw n cw) (j + 1) w4) := by
              obtain ⟨⟨_, rfl, rfl, _⟩, hi⟩ := HM2.out
              exact ⟨S', _, H', _, W, HN.out.1.keep hi, by rw [HWn.out]; omega, by rw [HWn.out]; exact h4⟩
            clear hmk h4 c0 c1 c2 c3 he0
            go_wp2
            go_roundw
            case rel => exact ⟨j + 1, by go_num, by omega, H6.out⟩
            case measure => (simp [RowKit.intOf]; try omega)
        · have hf : Nd.fitB (t : Int) e.x = false := by simpa using hf
          have hmk := bnmake_arg h3 0 rfl HN.out.1.inv (HN.out.2.nd.mod h3.mod).kids HN.out.2.max.1 HN.out.2.max.2.2 hf (sk := e.sk) (ck := e.ck) (sv := e.sv) (cv := e.cv) (sc := e.sc) (cc := e.cc)
          have H3 := Lib.hid h3
          clear hf h3 Hh hm3 hcs
          go_wp2_with fail
          refine hmk.mono ?_
          rintro e' w4 ⟨rfl, hm4⟩
          have H6 : Hid (BbRel w b t (.slice sl n cl) (.slice sw n cw) (j + 1) w4) := ⟨S, T, H, R, W, HN.out.1, by rw [HWn.out]; omega, by rw [HWn.out]; exact H3.out.more hm4⟩
          clear hmk hm4 H3 c0 c1 c2 c3
          go_wp2
          go_roundw
          case rel => exact ⟨j + 1, by go_num, by omega, H6.out⟩
          case measure => (simp [RowKit.intOf]; try omega)
    · obtain rfl : j = len1 := by omega
      have H5 : Hid (BbRel2 w b t (.slice sl n cl) (.slice sw n cw) n wr) := ⟨S, T, H, R, W, N, HWn.out, h⟩
      have hn20 : n ≤ 20 := by omega
      clear N h hlt HWn hWj
      go_wp2_with fail
      go_loopw [14] (fun iv wr => ∃ i9 : Nat, iv = .int .i64 i9 ∧ i9 ≤ len2 ∧ BbRel2 w b t (.slice sl n cl) (.slice sw n cw) n wr) (fun iv _ => len2 - (RowKit.intOf iv).toNat)
      case atStart => exact ⟨0, rfl, Nat.zero_le _, H5.out⟩
      case round =>
        obtain ⟨i9, rfl, hi9, S, T, H, R, W, N, hWn, h⟩ := hrel
        clear H5
        by_cases hlt : i9 < len2
        · by_cases hn0 : n = 0
          · have dL : decide ((0 : Int) < (n : Int)) = false := ltF (by omega)
            have dL2 : decide (0 < n) = false := decide_eq_false (by omega)
            have dI : decide ((i9 : Int) < (len2 : Int)) = true := ltT (by omega)
            clear hn0
            have H7 : Hid (BbRel2 w b t (.slice sl n cl) (.slice sw n cw) n wr) := ⟨S, T, H, R, W, N, hWn, h⟩
            clear N hWn h
            go_wp2_with fail
            go_loopw [16] (fun iv wr => ∃ i8 : Nat, iv = .int .i64 i8 ∧ i8 ≤ n ∧ BbRel2 w b t (.slice sl n cl) (.slice sw n cw) n wr) (fun iv _ => n - (RowKit.intOf iv).toNat)
            case atStart => exact ⟨0, rfl, Nat.zero_le _, H7.out⟩
            case round =>
              obtain ⟨i8, rfl, hi8, S, T, H, R, W, N, hWn, h⟩ := hrel
              clear H7
              by_cases hlt3 : i8 < n
              · obtain ⟨r, hrk⟩ : ∃ r, R[i8]? = some r := ⟨_, List.getElem?_eq_getElem (by rw [N.len, hWn]; exact hlt3)⟩
                obtain ⟨e, hek⟩ : ∃ e, W[i8]? = some e := ⟨_, List.getElem?_eq_getElem (by rw [hWn]; exact hlt3)⟩
                have hrm := List.mem_of_getElem? hrk
                obtain ⟨g9, rfl, cl0, _⟩ := h.item 1 rfl (o := i8) (x := .int .u64 r.h) (hdv_at hrk)
                obtain ⟨g8, rfl, _, _⟩ := bb_cells h 2 rfl hek
                have hrg := N.inv.rng hrk
                have heA := N.args e (List.mem_of_getElem? hek)
                obtain ⟨h60, hf⟩ := N.node i8 r e hrk hek
                have hg := bnget_ok h 0 rfl N.inv (hh := r.h) ⟨hrg.1, hrg.2.1⟩ ⟨hrk, N.live r hrm, rfl⟩ heA.ok hf h60
                have hij : (i8 : Int) < (n : Int) := by omega
                have F := Nd.Fits.of hf
                have dk : decide (2 * (t : Int) - 1 < (e.x.keys.length : Int)) = false := ltF (by have := F.keys; have := F.t2; omega)
                have dv : ((e.x.vals.length : Int) != (e.x.keys.length : Int)) = false := bneF (by rw [F.vals])
                have e7 : IntKind.i64.wrap (2 * (t : Int)) = 2 * (t : Int) := by rw [IntKind.wrap_i64]; omega
                have e8 : IntKind.i64.wrap (2 * (t : Int) - 1) = 2 * (t : Int) - 1 := by rw [IntKind.wrap_i64]; omega
                have Hh := Lib.hid h
                have HN := Lib.hid (And.intro N (And.intro hWn (And.intro hek heA)))
                clear N h hrk hrm hrg hek heA h60 hf F hWn
                go_wp2_with fail
                refine hg.mono ?_
                rintro er w8 ⟨sk', ck', sv', cv', sc', cc', rfl, hN8, hm8⟩
                have h8 := (Hh.out.more hm8).pushCells #[.slice sk' e.x.keys.length ck', .slice sv' e.x.vals.length cv', .slice sc' e.x.kids.length cc', .int .u64 e.x.size] 54
                have HN8 := Lib.hid hN8
                have hN8 := hN8.mod ((Mod.refl No w8).alloc (.cells #[.slice sk' e.x.keys.length ck', .slice sv' e.x.vals.length cv', .slice sc' e.x.kids.length cc', .int .u64 e.x.size] 54))
                have h8 : Sep No w _ [stR b 100 4294967295 S T, hRow (.slice (some ⟨g9, 0, none⟩) n cl) n R, wRow (.slice (some ⟨g8, 0, none⟩) n cw) n W, cellsAt w8.heap.size #[.slice sk' e.x.keys.length ck', .slice sv' e.x.vals.length cv', .slice sc' e.x.kids.length cc', .int .u64 e.x.size] 54] := h8
                obtain ⟨X, hX⟩ : ∃ X, w8.heap.size = X := ⟨_, rfl⟩
                obtain ⟨W8, hW8⟩ : ∃ W8, w8.alloc (.cells #[.slice sk' e.x.keys.length ck', .slice sv' e.x.vals.length cv', .slice sc' e.x.kids.length cc', .int .u64 e.x.size] 54) = W8 := ⟨_, rfl⟩
                rw [hX, hW8] at h8
                rw [hW8] at hN8
                have H8 := Lib.hid (And.intro h8 hN8)
                clear hg hm8 h8 hN8 Hh cl0
                have x0 := (H8.out.1.cell 3 rfl 0 (v := .slice sk' e.x.keys.length ck') rfl).1
                have x1 := (H8.out.1.cell 3 rfl 1 (v := .slice sv' e.x.vals.length cv') rfl).1
                have x2 := (H8.out.1.cell 3 rfl 2 (v := .slice sc' e.x.kids.length cc') rfl).1
                have x3 := (H8.out.1.cell 3 rfl 3 (v := .int .u64 e.x.size) rfl).1
                obtain ⟨g7, eg7, ⟨q0, q1, q2, q3⟩, _⟩ := bb_cells H8.out.1 2 rfl HN.out.2.2.1
                cases eg7
                have hs := bnsame_call (sk := sk') (sv := sv') (sc := sc') (ck := ck') (cv := cv') (cc := cc') (dk := e.ck) (dv := e.cv) (dc := e.cc) (H8.out.2.mod ((Mod.refl No W8).drew)) (HN.out.2.2.2.nd.mod H8.out.1.drew.mod) HN.out.2.2.2.max
                rw [Nd.sameB_self] at hs
                obtain ⟨y9, hy9⟩ : ∃ y, IntKind.u64.wrap (e.x.size + 1) = y := ⟨_, rfl⟩
                go_wp2_with fail
                go_region_held3 (fun w' => (w'.cell? ⟨X, 0, none⟩ = some (.slice sk' e.x.keys.length ck') ∧ w'.cell? ⟨X, 1, none⟩ = some (.slice sv' e.x.vals.length cv') ∧ w'.cell? ⟨X, 2, none⟩ = some (.slice sc' e.x.kids.length cc') ∧ w'.cell? ⟨X, 3, none⟩ = some (.int .u64 e.x.size)) ∧ w'.cell? ⟨g8, i8 * 4, none⟩ = some (.slice e.sk e.x.keys.length e.ck) ∧ w'.cell? ⟨g8, i8 * 4 + 1, none⟩ = some (.slice e.sv e.x.vals.length e.cv) ∧ w'.cell? ⟨g8, i8 * 4 + 2, none⟩ = some (.slice e.sc e.x.kids.length e.cc) ∧ w'.cell? ⟨g8, i8 * 4 + 3, none⟩ = some (.int .u64 e.x.size))
                  (first | exact ⟨⟨x0, x1, x2, x3⟩, q0, q1, q2, q3⟩ | exact hold1)
                  (first
                    | (go_at_call 23; refine hs.mono ?_; rintro er w9 ⟨rfl, m9⟩; have h9 := H8.out.1.drew.more m9; obtain ⟨g6, eg6, ⟨r0, r1, r2, r3⟩, _⟩ := bb_cells h9 2 rfl HN.out.2.2.1; cases eg6; have hold1 := And.intro (And.intro (h9.cell 3 rfl 0 (v := .slice sk' e.x.keys.length ck') rfl).1 (And.intro (h9.cell 3 rfl 1 (v := .slice sv' e.x.vals.length cv') rfl).1 (And.intro (h9.cell 3 rfl 2 (v := .slice sc' e.x.kids.length cc') rfl).1 (h9.cell 3 rfl 3 (v := .int .u64 e.x.size) rfl).1))) (And.intro r0 (And.intro r1 (And.intro r2 r3))); clear hs))
                obtain ⟨p3, fr3⟩ := h9.cell 3 rfl 3 (v := .int .u64 e.x.size) rfl
                have h10 := h9.set 3 rfl 3 (.int .u64 y9)
                obtain ⟨W9, hW9⟩ : ∃ W9, w9.setCell ⟨X, 3, none⟩ (.int .u64 y9) = W9 := ⟨_, rfl⟩
                rw [hW9] at h10
                have h10 : Sep No w W9 [stR b 100 4294967295 S T, hRow (.slice (some ⟨g9, 0, none⟩) n cl) n R, wRow (.slice (some ⟨g8, 0, none⟩) n cw) n W, cellsAt X #[.slice sk' e.x.keys.length ck', .slice sv' e.x.vals.length cv', .slice sc' e.x.kids.length cc', .int .u64 y9] 54] := h10
                have hm9 : Mod No w8 W9 := by
                  have h1 : Mod No w8 W8 := by rw [← hW8]; exact (Mod.refl No w8).alloc _
                  rw [← hW9]
                  exact (h1.drew.trans' m9).setCell _ _ (.inr (by rw [hX]; exact Nat.le_refl _))
                have HN9 := Lib.hid (HN8.out.mod hm9)
                clear h9 hold1 m9 r0 r1 r2 r3 x0 x1 x2 x3 q0 q1 q2 q3 hm9 HN8 H8
                have x0 := (h10.cell 3 rfl 0 (v := .slice sk' e.x.keys.length ck') rfl).1
                have x1 := (h10.cell 3 rfl 1 (v := .slice sv' e.x.vals.length cv') rfl).1
                have x2 := (h10.cell 3 rfl 2 (v := .slice sc' e.x.kids.length cc') rfl).1
                have x3 := (h10.cell 3 rfl 3 (v := .int .u64 y9) rfl).1
                obtain ⟨g7, eg7, ⟨q0, q1, q2, q3⟩, _⟩ := bb_cells h10 2 rfl HN.out.2.2.1
                cases eg7
                have hs2 : Calls Tryz.prog 23 #[.agg #[.slice sk' e.x.keys.length ck', .slice sv' e.x.vals.length cv', .slice sc' e.x.kids.length cc', .int .u64 y9], ndV e.sk e.ck e.sv e.cv e.sc e.cc e.x] W9.drew fun er w' => er = .returned (.bool false) ∧ Mod No W9.drew w' := by
                  have hA := HN.out.2.2.2
                  have := bnsame_call (w := W9.drew) (x := { e.x with size := y9 }) (sk := sk') (sv := sv') (sc := sc') (ck := ck') (cv := cv') (cc := cc') (dk := e.ck) (dv := e.cv) (dc := e.cc) ⟨HN9.out.keys.mod (Mod.refl No W9).drew, HN9.out.vals.mod (Mod.refl No W9).drew, HN9.out.kids.mod (Mod.refl No W9).drew⟩ (hA.nd.mod h10.drew.mod) hA.max
                  rw [← hy9, Nd.sameB_size hA.ok] at this
                  rw [← hy9]
                  exact this
                have H10 := Lib.hid h10
                clear h10 HN9
                go_wp2_with fail
                go_region_held3 (fun w' => (w'.cell? ⟨X, 0, none⟩ = some (.slice sk' e.x.keys.length ck') ∧ w'.cell? ⟨X, 1, none⟩ = some (.slice sv' e.x.vals.length cv') ∧ w'.cell? ⟨X, 2, none⟩ = some (.slice sc' e.x.kids.length cc') ∧ w'.cell? ⟨X, 3, none⟩ = some (.int .u64 y9)) ∧ w'.cell? ⟨g8, i8 * 4, none⟩ = some (.slice e.sk e.x.keys.length e.ck) ∧ w'.cell? ⟨g8, i8 * 4 + 1, none⟩ = some (.slice e.sv e.x.vals.length e.cv) ∧ w'.cell? ⟨g8, i8 * 4 + 2, none⟩ = some (.slice e.sc e.x.kids.length e.cc) ∧ w'.cell? ⟨g8, i8 * 4 + 3, none⟩ = some (.int .u64 e.x.size))
                  (first | exact ⟨⟨x0, x1, x2, x3⟩, q0, q1, q2, q3⟩ | exact hold2)
                  (first
                    | (go_at_call 23; refine hs2.mono ?_; rintro er w10 ⟨rfl, m10⟩; have h11 := H10.out.drew.more m10; obtain ⟨g5, eg5, ⟨r0, r1, r2, r3⟩, _⟩ := bb_cells h11 2 rfl HN.out.2.2.1; cases eg5; have hold2 := And.intro (And.intro (h11.cell 3 rfl 0 (v := .slice sk' e.x.keys.length ck') rfl).1 (And.intro (h11.cell 3 rfl 1 (v := .slice sv' e.x.vals.length cv') rfl).1 (And.intro (h11.cell 3 rfl 2 (v := .slice sc' e.x.kids.length cc') rfl).1 (h11.cell 3 rfl 3 (v := .int .u64 y9) rfl).1))) (And.intro r0 (And.intro r1 (And.intro r2 r3))); clear hs2))
                have H11 : Hid (BbRel2 w b t (.slice (some ⟨g9, 0, none⟩) n cl) (.slice (some ⟨g8, 0, none⟩) n cw) n w10) := ⟨S, T, H, R, W, HN.out.1, HN.out.2.1, Sep.left (Ps := [_, _, _]) h11⟩
                clear h11 hold2 HN H10
                go_wp2
                go_roundw
                case rel => exact ⟨i8 + 1, by go_num, by omega, H11.out⟩
                case measure => (simp [RowKit.intOf]; try omega)
              · obtain rfl : i8 = n := by omega
                have HM := Lib.hid h.mod
                clear N h hlt3 hWn
                go_wp2_with fail
                have ha := awake15_call wr (HT.out.mod HM.out)
                go_wp2_with fail
                refine ha.mono ?_
                rintro e w9 ⟨rfl, hm9⟩
                have H9 := Lib.hid (HM.out.trans' hm9)
                clear ha hm9
                go_wp2
                go_ret
                exact ⟨rfl, H9.out.below _ (Nat.le_refl _) (fun _ _ x => x)⟩
          · obtain ⟨bb, off, o, rfl, hbw, hzo, ⟨heA, hon⟩, hcl⟩ := HR2.out.old hlt
            obtain ⟨od, nn, e⟩ := o
            dsimp only at heA hon hcl
            have hnn := bounds_i64 hon
            have o2 := hcl 2 (.int .i64 nn) (.inr (.inl ⟨rfl, rfl⟩))
            have o5 := hcl 5 (.slice e.sk e.x.keys.length e.ck) (.inr (.inr ⟨by omega, rfl⟩))
            have o6 := hcl 6 (.slice e.sv e.x.vals.length e.cv) (.inr (.inr ⟨by omega, rfl⟩))
            have o7 := hcl 7 (.slice e.sc e.x.kids.length e.cc) (.inr (.inr ⟨by omega, rfl⟩))
            have o8 := hcl 8 (.int .u64 e.x.size) (.inr (.inr ⟨by omega, rfl⟩))
            have HC := Lib.hid (And.intro o2 (And.intro o5 (And.intro o6 (And.intro o7 o8))))
            have c2 := h.old o2
            have c5 := h.old o5
            have c6 := h.old o6
            have c7 := h.old o7
            have c8 := h.old o8
            have Hh := Lib.hid h
            have HN := Lib.hid (And.intro N (And.intro hWn heA))
            have dL : decide ((0 : Int) < (n : Int)) = true := ltT (by omega)
            have dI : decide ((i9 : Int) < (len2 : Int)) = true := ltT (by omega)
            have hm2 : -(n : Int) < nn.tmod (n : Int) ∧ nn.tmod (n : Int) < (n : Int) := by
              have h1 := Int.tmod_lt_of_pos nn (show (0 : Int) < (n : Int) by omega)
              have h2 := Int.tmod_lt_of_pos (-nn) (show (0 : Int) < (n : Int) by omega)
              rw [Int.neg_tmod] at h2
              omega
            have hz : ((n : Int) == 0) = false := beqF (by omega)
            obtain ⟨mm, hmm⟩ : ∃ y, nn.tmod (n : Int) = y := ⟨_, rfl⟩
            rw [hmm] at hm2
            have e1 : IntKind.i64.wrap mm = mm := by rw [IntKind.wrap_i64]; omega
            have e2 : IntKind.i64.wrap (mm + (n : Int)) = mm + (n : Int) := by rw [IntKind.wrap_i64]; omega
            have h3 : 0 ≤ (mm + (n : Int)).tmod (n : Int) ∧ (mm + (n : Int)).tmod (n : Int) < (n : Int) := by
              rw [Int.tmod_eq_emod_of_nonneg (by omega)]
              exact ⟨Int.emod_nonneg _ (by omega), Int.emod_lt_of_pos _ (by omega)⟩
            obtain ⟨y, hy⟩ := Int.eq_ofNat_of_zero_le h3.1
            have e3 : IntKind.i64.wrap (y : Int) = (y : Int) := by rw [IntKind.wrap_i64]; omega
            rw [hy] at h3
            have hyn : y < n := by omega
            have hyi : (y : Int) < (n : Int) := by omega
            have hii : (i9 : Int) < (len2 : Int) := by omega
            have hl20 : i9 < 20 := by omega
            clear hcl h N hzo heA hon hm2 h3 hn0 o2 o5 o6 o7 o8 hWn
            go_wp2_with fail
            refine (long_call e.sk e.ck e.sv e.cv e.sc e.cc e.x _).mono ?_
            rintro er w3 ⟨c, rfl, hcs, hm3⟩
            cases c with
            | true =>
              have HM := Lib.hid (Hh.out.more hm3).mod
              clear hcs hm3 Hh
              go_wp2_with fail
              have ha := awake15_call w3 (HT.out.mod HM.out)
              go_wp2_with fail
              refine ha.mono ?_
              rintro e w9 ⟨rfl, hm9⟩
              have H9 := Lib.hid (HM.out.trans' hm9)
              clear ha hm9
              go_wp2
              go_ret
              exact ⟨rfl, H9.out.below _ (Nat.le_refl _) (fun _ _ x => x)⟩
            | false =>
              have h3 := Hh.out.more hm3
              have c2 := h3.old HC.out.1
              have c5 := h3.old HC.out.2.1
              have c6 := h3.old HC.out.2.2.1
              have c7 := h3.old HC.out.2.2.2.1
              have c8 := h3.old HC.out.2.2.2.2
              obtain ⟨r, hrk⟩ : ∃ r, R[y]? = some r := ⟨_, List.getElem?_eq_getElem (by rw [HN.out.1.len, HN.out.2.1]; exact hyn)⟩
              obtain ⟨e0, hek⟩ : ∃ e0, W[y]? = some e0 := ⟨_, List.getElem?_eq_getElem (by rw [HN.out.2.1]; exact hyn)⟩
              have hrm := List.mem_of_getElem? hrk
              obtain ⟨gl, rfl, cl0, _⟩ := h3.item 1 rfl (o := y) (x := .int .u64 r.h) (hdv_at hrk)
              obtain ⟨gw, rfl, _, _⟩ := bb_cells h3 2 rfl hek
              have hrg := HN.out.1.inv.rng hrk
              have h60 := (HN.out.1.node y r e0 hrk hek).1
              have h6 : r.w.length = 6 * t := by rw [h60, Nd.ws_len]
              have hl0 := HN.out.1.live r hrm
              by_cases hf : Nd.fitB (t : Int) e.x = true
              · have hp := bnput_in h3.drew 0 rfl HN.out.1.inv (hh := r.h) ⟨hrg.1, hrg.2.1⟩ ⟨hrk, hl0, rfl⟩ (HN.out.2.2.nd.mod h3.drew.mod) HN.out.2.2.ok HN.out.2.2.max.1 HN.out.2.2.max.2.2 hf h6 (sk := e.sk) (ck := e.ck) (sv := e.sv) (cv := e.cv) (sc := e.sc) (cc := e.cc)
                have HX := Lib.hid (And.intro hrk (And.intro hek (And.intro hf (And.intro h6 hl0))))
                clear h3 Hh hm3 hcs hrm hrg h60 h6 hf hek hl0 hrk
                go_wp2_with fail
                go_region_held3 (fun w' => w'.cell? ⟨gl, y, none⟩ = some (.int .u64 r.h) ∧ w'.cell? ⟨bb, off + i9 * 9 + 5, none⟩ = some (.slice e.sk e.x.keys.length e.ck) ∧ w'.cell? ⟨bb, off + i9 * 9 + 6, none⟩ = some (.slice e.sv e.x.vals.length e.cv) ∧ w'.cell? ⟨bb, off + i9 * 9 + 7, none⟩ = some (.slice e.sc e.x.kids.length e.cc) ∧ w'.cell? ⟨bb, off + i9 * 9 + 8, none⟩ = some (.int .u64 e.x.size))
                  (first | exact ⟨cl0, c5, c6, c7, c8⟩ | exact hold1)
                  (first
                    | (go_at_call 20; refine hp.mono ?_; rintro er w5 ⟨S2, ⟨rfl, O⟩, h5⟩; have h5 : Sep No w w5 [stR b 100 4294967295 S2 T, hRow (.slice (some ⟨gl, 0, none⟩) n cl) n R, wRow (.slice (some ⟨gw, 0, none⟩) n cw) n W] := h5; obtain ⟨g5, eg5, cl5, _⟩ := h5.item 1 rfl (o := y) (x := .int .u64 r.h) (hdv_at HX.out.1); cases eg5; have hold1 := And.intro cl5 (And.intro (h5.old HC.out.2.1) (And.intro (h5.old HC.out.2.2.1) (And.intro (h5.old HC.out.2.2.2.1) (h5.old HC.out.2.2.2.2)))); clear hp))
                obtain ⟨g6, eg6, ⟨q0, q1, q2, q3⟩, fz⟩ := bb_cells h5 2 rfl HX.out.2.1
                cases eg6
                obtain ⟨cl6, c5, c6, c7, c8⟩ := hold1
                have f0 := fz (y * 4)
                have f1 := fz (y * 4 + 1)
                have f2 := fz (y * 4 + 2)
                have f3 := fz (y * 4 + 3)
                have hI := O.1
                have eW : putW r (Nd.ws t e.x) (6 * t) = { r with w := Nd.ws t e.x } := by
                  have := putW_all r (ws := Nd.ws t e.x) (by rw [Nd.ws_len, HX.out.2.2.2.1])
                  rw [Nd.ws_len] at this
                  exact this
                rw [eW] at hI
                have hyW : y < W.length := by rw [HN.out.2.1]; exact hyn
                have hNp := HN.out.1.put HX.out.1 HX.out.2.2.1 HN.out.2.2 hI
                have h6 := (((h5.setItem 2 rfl (y * 4) (.slice e.sk e.x.keys.length e.ck)).setItem 2 rfl (y * 4 + 1) (.slice e.sv e.x.vals.length e.cv)).setItem 2 rfl (y * 4 + 2) (.slice e.sc e.x.kids.length e.cc)).setItem 2 rfl (y * 4 + 3) (.int .u64 e.x.size)
                rw [wrow_set e hyW] at h6
                unfold hRow at h6
                rw [← hdv_set (r' := { r with w := Nd.ws t e.x }) HX.out.1 rfl] at h6
                obtain ⟨W6, hW6⟩ : ∃ W6, (((w5.setCell ⟨gw, y * 4, none⟩ (.slice e.sk e.x.keys.length e.ck)).setCell ⟨gw, y * 4 + 1, none⟩ (.slice e.sv e.x.vals.length e.cv)).setCell ⟨gw, y * 4 + 2, none⟩ (.slice e.sc e.x.kids.length e.cc)).setCell ⟨gw, y * 4 + 3, none⟩ (.int .u64 e.x.size) = W6 := ⟨_, rfl⟩
                rw [hW6] at h6
                have h6 : Sep No w W6 [stR b 100 4294967295 S2 T, hRow (.slice (some ⟨gl, 0, none⟩) n cl) n (R.set y { r with w := Nd.ws t e.x }), wRow (.slice (some ⟨gw, 0, none⟩) n cw) n (W.set y e)] := h6
                have hry : (R.set y { r with w := Nd.ws t e.x })[y]? = some { r with w := Nd.ws t e.x } := by rw [List.getElem?_set, if_pos rfl, if_pos (List.getElem?_eq_some_iff.1 HX.out.1).1]
                have hWs : (W.set y e).length = n := by rw [List.length_set]; exact HN.out.2.1
                have cl7 : W6.cell? ⟨gl, y, none⟩ = some (.int .u64 r.h) := by
                  obtain ⟨g4, eg4, cl4, _⟩ := h6.item 1 rfl (o := y) (x := .int .u64 r.h) (hdv_at (r := { r with w := Nd.ws t e.x }) hry)
                  cases eg4
                  exact cl4
                generalize hR1 : R.set y { r with w := Nd.ws t e.x } = R1 at *
                generalize hW1 : W.set y e = W1 at *
                generalize hr1 : ({ r with w := Nd.ws t e.x } : Rc) = r1 at *
                have hrh : r1.h = r.h := by rw [← hr1]
                clear O h5 fz hI eW HX HN
                obtain ⟨tq, S3, T3, H3, D⟩ := hNp.inv.slideOk hry (hNp.live _ (List.mem_of_getElem? hry))
                have hrg2 := hNp.inv.rng hry
                have hI3 := slides_inv D
                rw [hrh] at D hrg2
                have hsl := stslide_call h6 0 rfl (HT.out.mod h6.mod) hNp.inv ⟨hrg2.1, hrg2.2.1⟩ D
                have HN3 := Lib.hid (And.intro (hNp.slide hry hI3) hWs)
                have HD := Lib.hid (hdv_set (r' := { r1 with a := (tq : Int) }) hry rfl)
                clear hNp D h6 hry hrg2 hrh hWs hI3
                go_wp2_with fail
                refine hsl.mono ?_
                rintro er w7 ⟨rfl, h7⟩
                have H7 : Hid (BbRel2 w b t (.slice (some ⟨gl, 0, none⟩) n cl) (.slice (some ⟨gw, 0, none⟩) n cw) n w7) := ⟨S3, T3, H3, _, W1, HN3.out.1, HN3.out.2, by unfold hRow; rw [HD.out]; exact h7⟩
                clear hsl h7 HN3 HD
                go_wp2
                go_roundw
                case rel => exact ⟨i9 + 1, by go_num, by omega, H7.out⟩
                case measure => (simp [RowKit.intOf]; try omega)
              · have hf : Nd.fitB (t : Int) e.x = false := by simpa using hf
                have hp := bnput_arg h3.drew 0 rfl HN.out.1.inv r.h (HN.out.2.2.nd.mod h3.drew.mod).kids HN.out.2.2.max.1 HN.out.2.2.max.2.2 hf (sk := e.sk) (ck := e.ck) (sv := e.sv) (cv := e.cv) (sc := e.sc) (cc := e.cc)
                have HX := Lib.hid (And.intro hrk (And.intro h3 HN.out))
                clear Hh hm3 hcs hrm hrg h60 h6 hf hek hl0 hrk h3 HN
                go_wp2_with fail
                go_region_held3 (fun w' => w'.cell? ⟨gl, y, none⟩ = some (.int .u64 r.h) ∧ w'.cell? ⟨bb, off + i9 * 9 + 5, none⟩ = some (.slice e.sk e.x.keys.length e.ck) ∧ w'.cell? ⟨bb, off + i9 * 9 + 6, none⟩ = some (.slice e.sv e.x.vals.length e.cv) ∧ w'.cell? ⟨bb, off + i9 * 9 + 7, none⟩ = some (.slice e.sc e.x.kids.length e.cc) ∧ w'.cell? ⟨bb, off + i9 * 9 + 8, none⟩ = some (.int .u64 e.x.size))
                  (first | exact ⟨cl0, c5, c6, c7, c8⟩ | exact hold1)
                  (first
                    | (go_at_call 20; refine hp.mono ?_; rintro er w5 ⟨rfl, m5⟩; have h6 := HX.out.2.1.drew.more m5; obtain ⟨g5, eg5, cl5, _⟩ := h6.item 1 rfl (o := y) (x := .int .u64 r.h) (hdv_at HX.out.1); cases eg5; have hold1 := And.intro cl5 (And.intro (h6.old HC.out.2.1) (And.intro (h6.old HC.out.2.2.1) (And.intro (h6.old HC.out.2.2.2.1) (h6.old HC.out.2.2.2.2)))); clear hp))
                have cl7 := hold1.1
                have hNp := HX.out.2.2.1
                have hWs := HX.out.2.2.2.1
                have hry := HX.out.1
                have hrh : r.h = r.h := rfl
                clear hold1 HX
                obtain ⟨tq, S3, T3, H3, D⟩ := hNp.inv.slideOk hry (hNp.live _ (List.mem_of_getElem? hry))
                have hrg2 := hNp.inv.rng hry
                have hI3 := slides_inv D
                rw [hrh] at D hrg2
                have hsl := stslide_call h6 0 rfl (HT.out.mod h6.mod) hNp.inv ⟨hrg2.1, hrg2.2.1⟩ D
                have HN3 := Lib.hid (And.intro (hNp.slide hry hI3) hWs)
                have HD := Lib.hid (hdv_set (r' := { r with a := (tq : Int) }) hry rfl)
                clear hNp D h6 hry hrg2 hrh hWs hI3
                go_wp2_with fail
                refine hsl.mono ?_
                rintro er w7 ⟨rfl, h7⟩
                have H7 : Hid (BbRel2 w b t (.slice (some ⟨gl, 0, none⟩) n cl) (.slice (some ⟨gw, 0, none⟩) n cw) n w7) := ⟨S3, T3, H3, _, W, HN3.out.1, HN3.out.2, by unfold hRow; rw [HD.out]; exact h7⟩
                clear hsl h7 HN3 HD
                go_wp2
                go_roundw
                case rel => exact ⟨i9 + 1, by go_num, by omega, H7.out⟩
                case measure => (simp [RowKit.intOf]; try omega)
        · have dI : decide ((i9 : Int) < (len2 : Int)) = false := ltF (by omega)
          have dI2 : decide (i9 < len2) = false := decide_eq_false hlt
          have H7 : Hid (BbRel2 w b t (.slice sl n cl) (.slice sw n cw) n wr) := ⟨S, T, H, R, W, N, hWn, h⟩
          clear N hWn h
          go_wp2_with fail
          go_loopw [16] (fun iv wr => ∃ i8 : Nat, iv = .int .i64 i8 ∧ i8 ≤ n ∧ BbRel2 w b t (.slice sl n cl) (.slice sw n cw) n wr) (fun iv _ => n - (RowKit.intOf iv).toNat)
          case atStart => exact ⟨0, rfl, Nat.zero_le _, H7.out⟩
          case round =>
            obtain ⟨i8, rfl, hi8, S, T, H, R, W, N, hWn, h⟩ := hrel
            clear H7
            by_cases hlt3 : i8 < n
            · obtain ⟨r, hrk⟩ : ∃ r, R[i8]? = some r := ⟨_, List.getElem?_eq_getElem (by rw [N.len, hWn]; exact hlt3)⟩
              obtain ⟨e, hek⟩ : ∃ e, W[i8]? = some e := ⟨_, List.getElem?_eq_getElem (by rw [hWn]; exact hlt3)⟩
              have hrm := List.mem_of_getElem? hrk
              obtain ⟨g9, rfl, cl0, _⟩ := h.item 1 rfl (o := i8) (x := .int .u64 r.h) (hdv_at hrk)
              obtain ⟨g8, rfl, _, _⟩ := bb_cells h 2 rfl hek
              have hrg := N.inv.rng hrk
              have heA := N.args e (List.mem_of_getElem? hek)
              obtain ⟨h60, hf⟩ := N.node i8 r e hrk hek
              have hg := bnget_ok h 0 rfl N.inv (hh := r.h) ⟨hrg.1, hrg.2.1⟩ ⟨hrk, N.live r hrm, rfl⟩ heA.ok hf h60
              have hij : (i8 : Int) < (n : Int) := by omega
              have F := Nd.Fits.of hf
              have dk : decide (2 * (t : Int) - 1 < (e.x.keys.length : Int)) = false := ltF (by have := F.keys; have := F.t2; omega)
              have dv : ((e.x.vals.length : Int) != (e.x.keys.length : Int)) = false := bneF (by rw [F.vals])
              have e7 : IntKind.i64.wrap (2 * (t : Int)) = 2 * (t : Int) := by rw [IntKind.wrap_i64]; omega
              have e8 : IntKind.i64.wrap (2 * (t : Int) - 1) = 2 * (t : Int) - 1 := by rw [IntKind.wrap_i64]; omega
              have Hh := Lib.hid h
              have HN := Lib.hid (And.intro N (And.intro hWn (And.intro hek heA)))
              clear N h hrk hrm hrg hek heA h60 hf F hWn
              go_wp2_with fail
              refine hg.mono ?_
              rintro er w8 ⟨sk', ck', sv', cv', sc', cc', rfl, hN8, hm8⟩
              have h8 := (Hh.out.more hm8).pushCells #[.slice sk' e.x.keys.length ck', .slice sv' e.x.vals.length cv', .slice sc' e.x.kids.length cc', .int .u64 e.x.size] 54
              have HN8 := Lib.hid hN8
              have hN8 := hN8.mod ((Mod.refl No w8).alloc (.cells #[.slice sk' e.x.keys.length ck', .slice sv' e.x.vals.length cv', .slice sc' e.x.kids.length cc', .int .u64 e.x.size] 54))
              have h8 : Sep No w _ [stR b 100 4294967295 S T, hRow (.slice (some ⟨g9, 0, none⟩) n cl) n R, wRow (.slice (some ⟨g8, 0, none⟩) n cw) n W, cellsAt w8.heap.size #[.slice sk' e.x.keys.length ck', .slice sv' e.x.vals.length cv', .slice sc' e.x.kids.length cc', .int .u64 e.x.size] 54] := h8
              obtain ⟨X, hX⟩ : ∃ X, w8.heap.size = X := ⟨_, rfl⟩
              obtain ⟨W8, hW8⟩ : ∃ W8, w8.alloc (.cells #[.slice sk' e.x.keys.length ck', .slice sv' e.x.vals.length cv', .slice sc' e.x.kids.length cc', .int .u64 e.x.size] 54) = W8 := ⟨_, rfl⟩
              rw [hX, hW8] at h8
              rw [hW8] at hN8
              have H8 := Lib.hid (And.intro h8 hN8)
              clear hg hm8 h8 hN8 Hh cl0
              have x0 := (H8.out.1.cell 3 rfl 0 (v := .slice sk' e.x.keys.length ck') rfl).1
              have x1 := (H8.out.1.cell 3 rfl 1 (v := .slice sv' e.x.vals.length cv') rfl).1
              have x2 := (H8.out.1.cell 3 rfl 2 (v := .slice sc' e.x.kids.length cc') rfl).1
              have x3 := (H8.out.1.cell 3 rfl 3 (v := .int .u64 e.x.size) rfl).1
              obtain ⟨g7, eg7, ⟨q0, q1, q2, q3⟩, _⟩ := bb_cells H8.out.1 2 rfl HN.out.2.2.1
              cases eg7
              have hs := bnsame_call (sk := sk') (sv := sv') (sc := sc') (ck := ck') (cv := cv') (cc := cc') (dk := e.ck) (dv := e.cv) (dc := e.cc) (H8.out.2.mod ((Mod.refl No W8).drew)) (HN.out.2.2.2.nd.mod H8.out.1.drew.mod) HN.out.2.2.2.max
              rw [Nd.sameB_self] at hs
              obtain ⟨y9, hy9⟩ : ∃ y, IntKind.u64.wrap (e.x.size + 1) = y := ⟨_, rfl⟩
              go_wp2_with fail
              go_region_held3 (fun w' => (w'.cell? ⟨X, 0, none⟩ = some (.slice sk' e.x.keys.length ck') ∧ w'.cell? ⟨X, 1, none⟩ = some (.slice sv' e.x.vals.length cv') ∧ w'.cell? ⟨X, 2, none⟩ = some (.slice sc' e.x.kids.length cc') ∧ w'.cell? ⟨X, 3, none⟩ = some (.int .u64 e.x.size)) ∧ w'.cell? ⟨g8, i8 * 4, none⟩ = some (.slice e.sk e.x.keys.length e.ck) ∧ w'.cell? ⟨g8, i8 * 4 + 1, none⟩ = some (.slice e.sv e.x.vals.length e.cv) ∧ w'.cell? ⟨g8, i8 * 4 + 2, none⟩ = some (.slice e.sc e.x.kids.length e.cc) ∧ w'.cell? ⟨g8, i8 * 4 + 3, none⟩ = some (.int .u64 e.x.size))
                (first | exact ⟨⟨x0, x1, x2, x3⟩, q0, q1, q2, q3⟩ | exact hold1)
                (first
                  | (go_at_call 23; refine hs.mono ?_; rintro er w9 ⟨rfl, m9⟩; have h9 := H8.out.1.drew.more m9; obtain ⟨g6, eg6, ⟨r0, r1, r2, r3⟩, _⟩ := bb_cells h9 2 rfl HN.out.2.2.1; cases eg6; have hold1 := And.intro (And.intro (h9.cell 3 rfl 0 (v := .slice sk' e.x.keys.length ck') rfl).1 (And.intro (h9.cell 3 rfl 1 (v := .slice sv' e.x.vals.length cv') rfl).1 (And.intro (h9.cell 3 rfl 2 (v := .slice sc' e.x.kids.length cc') rfl).1 (h9.cell 3 rfl 3 (v := .int .u64 e.x.size) rfl).1))) (And.intro r0 (And.intro r1 (And.intro r2 r3))); clear hs))
              obtain ⟨p3, fr3⟩ := h9.cell 3 rfl 3 (v := .int .u64 e.x.size) rfl
              have h10 := h9.set 3 rfl 3 (.int .u64 y9)
              obtain ⟨W9, hW9⟩ : ∃ W9, w9.setCell ⟨X, 3, none⟩ (.int .u64 y9) = W9 := ⟨_, rfl⟩
              rw [hW9] at h10
              have h10 : Sep No w W9 [stR b 100 4294967295 S T, hRow (.slice (some ⟨g9, 0, none⟩) n cl) n R, wRow (.slice (some ⟨g8, 0, none⟩) n cw) n W, cellsAt X #[.slice sk' e.x.keys.length ck', .slice sv' e.x.vals.length cv', .slice sc' e.x.kids.length cc', .int .u64 y9] 54] := h10
              have hm9 : Mod No w8 W9 := by
                have h1 : Mod No w8 W8 := by rw [← hW8]; exact (Mod.refl No w8).alloc _
                rw [← hW9]
                exact (h1.drew.trans' m9).setCell _ _ (.inr (by rw [hX]; exact Nat.le_refl _))
              have HN9 := Lib.hid (HN8.out.mod hm9)
              clear h9 hold1 m9 r0 r1 r2 r3 x0 x1 x2 x3 q0 q1 q2 q3 hm9 HN8 H8
              have x0 := (h10.cell 3 rfl 0 (v := .slice sk' e.x.keys.length ck') rfl).1
              have x1 := (h10.cell 3 rfl 1 (v := .slice sv' e.x.vals.length cv') rfl).1
              have x2 := (h10.cell 3 rfl 2 (v := .slice sc' e.x.kids.length cc') rfl).1
              have x3 := (h10.cell 3 rfl 3 (v := .int .u64 y9) rfl).1
              obtain ⟨g7, eg7, ⟨q0, q1, q2, q3⟩, _⟩ := bb_cells h10 2 rfl HN.out.2.2.1
              cases eg7
              have hs2 : Calls Tryz.prog 23 #[.agg #[.slice sk' e.x.keys.length ck', .slice sv' e.x.vals.length cv', .slice sc' e.x.kids.length cc', .int .u64 y9], ndV e.sk e.ck e.sv e.cv e.sc e.cc e.x] W9.drew fun er w' => er = .returned (.bool false) ∧ Mod No W9.drew w' := by
                have hA := HN.out.2.2.2
                have := bnsame_call (w := W9.drew) (x := { e.x with size := y9 }) (sk := sk') (sv := sv') (sc := sc') (ck := ck') (cv := cv') (cc := cc') (dk := e.ck) (dv := e.cv) (dc := e.cc) ⟨HN9.out.keys.mod (Mod.refl No W9).drew, HN9.out.vals.mod (Mod.refl No W9).drew, HN9.out.kids.mod (Mod.refl No W9).drew⟩ (hA.nd.mod h10.drew.mod) hA.max
                rw [← hy9, Nd.sameB_size hA.ok] at this
                rw [← hy9]
                exact this
              have H10 := Lib.hid h10
              clear h10 HN9
              go_wp2_with fail
              go_region_held3 (fun w' => (w'.cell? ⟨X, 0, none⟩ = some (.slice sk' e.x.keys.length ck') ∧ w'.cell? ⟨X, 1, none⟩ = some (.slice sv' e.x.vals.length cv') ∧ w'.cell? ⟨X, 2, none⟩ = some (.slice sc' e.x.kids.length cc') ∧ w'.cell? ⟨X, 3, none⟩ = some (.int .u64 y9)) ∧ w'.cell? ⟨g8, i8 * 4, none⟩ = some (.slice e.sk e.x.keys.length e.ck) ∧ w'.cell? ⟨g8, i8 * 4 + 1, none⟩ = some (.slice e.sv e.x.vals.length e.cv) ∧ w'.cell? ⟨g8, i8 * 4 + 2, none⟩ = some (.slice e.sc e.x.kids.length e.cc) ∧ w'.cell? ⟨g8, i8 * 4 + 3, none⟩ = some (.int .u64 e.x.size))
                (first | exact ⟨⟨x0, x1, x2, x3⟩, q0, q1, q2, q3⟩ | exact hold2)
                (first
                  | (go_at_call 23; refine hs2.mono ?_; rintro er w10 ⟨rfl, m10⟩; have h11 := H10.out.drew.more m10; obtain ⟨g5, eg5, ⟨r0, r1, r2, r3⟩, _⟩ := bb_cells h11 2 rfl HN.out.2.2.1; cases eg5; have hold2 := And.intro (And.intro (h11.cell 3 rfl 0 (v := .slice sk' e.x.keys.length ck') rfl).1 (And.intro (h11.cell 3 rfl 1 (v := .slice sv' e.x.vals.length cv') rfl).1 (And.intro (h11.cell 3 rfl 2 (v := .slice sc' e.x.kids.length cc') rfl).1 (h11.cell 3 rfl 3 (v := .int .u64 y9) rfl).1))) (And.intro r0 (And.intro r1 (And.intro r2 r3))); clear hs2))
              have H11 : Hid (BbRel2 w b t (.slice (some ⟨g9, 0, none⟩) n cl) (.slice (some ⟨g8, 0, none⟩) n cw) n w10) := ⟨S, T, H, R, W, HN.out.1, HN.out.2.1, Sep.left (Ps := [_, _, _]) h11⟩
              clear h11 hold2 HN H10
              go_wp2
              go_roundw
              case rel => exact ⟨i8 + 1, by go_num, by omega, H11.out⟩
              case measure => (simp [RowKit.intOf]; try omega)
            · obtain rfl : i8 = n := by omega
              have HM := Lib.hid h.mod
              clear N h hlt3 hWn
              go_wp2_with fail
              have ha := awake15_call wr (HT.out.mod HM.out)
              go_wp2_with fail
              refine ha.mono ?_
              rintro e w9 ⟨rfl, hm9⟩
              have H9 := Lib.hid (HM.out.trans' hm9)
              clear ha hm9
              go_wp2
              go_ret
              exact ⟨rfl, H9.out.below _ (Nat.le_refl _) (fun _ _ x => x)⟩

theorem bnodeBack_walk (t : Int) (s1 : Option Addr) (len1 cap1 : Nat) (z1 : List WNd) (s2 : Option Addr) (len2 cap2 : Nat) (z2 : List OpW) (w : World) (_wt : (Lit.int .i64 t).wf = true) (R1 : RowsA WNd WNd.cell (WNd.At w) 4 w s1 len1 z1)
    (R2 : RowsA OpW OpW.cell (fun o => o.e.At w ∧ (Lit.int .i64 o.n).wf = true) 9 w s2 len2 z2) (hT : Tab64 w) :
    Calls Tryz.prog 4 #[.int .i64 t, .slice s1 len1 cap1, .slice s2 len2 cap2] w fun e w' => e = .returned (.bool true) ∧ Below w.heap.size w w' := by
  by_cases hall : (2 ≤ t ∧ t ≤ 16) ∧ len1 ≤ 20 ∧ len2 ≤ 20
  · obtain ⟨k, rfl⟩ := Int.eq_ofNat_of_zero_le (show 0 ≤ t by omega)
    exact bback_in k s1 len1 cap1 z1 s2 len2 cap2 z2 w (by omega) R1 hall.2.1 R2 hall.2.2 hT
  · have HM := Lib.hid (Mod.refl No w)
    have HT := Lib.hid hT
    clear hT R1 R2
    have hd : decide (t < 2) = true ∨ decide (t < 2) = false ∧ decide (16 < t) = true ∨ decide (t < 2) = false ∧ decide (16 < t) = false ∧ decide ((20 : Int) < (len1 : Int)) = true ∨ decide (t < 2) = false ∧ decide (16 < t) = false ∧ decide ((20 : Int) < (len1 : Int)) = false ∧ decide ((20 : Int) < (len2 : Int)) = true := by
      by_cases h1 : t < 2
      · exact .inl (ltT h1)
      · by_cases h2 : 16 < t
        · exact .inr (.inl ⟨ltF (by omega), ltT h2⟩)
        · by_cases h3 : (20 : Int) < (len1 : Int)
          · exact .inr (.inr (.inl ⟨ltF (by omega), ltF (by omega), ltT h3⟩))
          · exact .inr (.inr (.inr ⟨ltF (by omega), ltF (by omega), ltF (by omega), ltT (by omega)⟩))
    clear hall
    rcases hd with d1 | ⟨d1, d2⟩ | ⟨d1, d2, d3⟩ | ⟨d1, d2, d3, d4⟩
    all_goals
      go_enter Tryz.func4, Tryz.ntmps4
      go_wp2_with fail
      have ha := awake15_call w (HT.out.mod HM.out)
      go_wp2_with fail
      refine ha.mono ?_
      rintro e w9 ⟨rfl, hm9⟩
      have H9 := Lib.hid (HM.out.trans' hm9)
      clear ha hm9
      go_wp2
      go_ret
      exact ⟨rfl, H9.out.below _ (Nat.le_refl _) (fun _ _ x => x)⟩
end Go.Proofs.YtpcomekikeoliaaGreatDoor
