/- SwissMaps: the plain law, the rows appended to, and the walk. -/
import Derived.Test.YtiopkkjcgdcgmaaDoorLw
import Derived.Test.YtiopkkjcgdcgmaaDoorFw5
import Derived.ArgAppend
import Derived.Deep.RegionWith
import Derived.Deep.DeepCutAuto
section
namespace Go.Proofs.YtiopkkjcgdcgmaaDoor.s
open Go.RowKit Go.Rg Go.Nm Go.Gp Go.Mp
abbrev Prs := List (ByteArray × ByteArray)
def nm (L : Prs) (j : Nat) : ByteArray := (L.getD j (ByteArray.empty, ByteArray.empty)).1
def vl (L : Prs) (j : Nat) : ByteArray := (L.getD j (ByteArray.empty, ByteArray.empty)).2
theorem prs_at {L : Prs} {j : Nat} (h : j < L.length) : L[j]? = some (nm L j, vl L j) := by
  unfold nm vl; rw [List.getD_eq_getElem?_getD, List.getElem?_eq_getElem h]; rfl
theorem prs_mem {L : Prs} {j : Nat} (h : j < L.length) : (nm L j, vl L j) ∈ L := List.mem_of_getElem? (prs_at h)
theorem prs_ex {L : Prs} {p : ByteArray × ByteArray} (h : p ∈ L) : ∃ j, j < L.length ∧ nm L j = p.1 ∧ vl L j = p.2 := by
  obtain ⟨j, hj, e⟩ := List.mem_iff_getElem.1 h
  have := prs_at hj
  rw [List.getElem?_eq_getElem hj] at this
  have h2 := Option.some.inj this
  rw [e] at h2
  exact ⟨j, hj, by rw [h2], by rw [h2]⟩
def Dist (L : Prs) : Prop := ∀ i j, i < L.length → j < L.length → nm L i = nm L j → i = j
/-- A map tells just these pairs. -/
structure Tells (m : M ByteArray) (L : Prs) : Prop where
  is : ∀ j, j < L.length → look m (nm L j) = some (vl L j)
  no : ∀ k, (∀ j, j < L.length → nm L j ≠ k) → look m k = none
  n : m.n = L.length
theorem Tells.at_some {m : M ByteArray} {L : Prs} (h : Tells m L) {j : Nat} (hj : j < L.length) {k : ByteArray} (e : nm L j = k) : look m k = some (vl L j) := by rw [← e]; exact h.is j hj

theorem nm_set {L : Prs} {d : Nat} (hd : d < L.length) (k v : ByteArray) (j : Nat) : nm (L.set d (k, v)) j = if j = d then k else nm L j := by
  unfold nm
  simp only [List.getD_eq_getElem?_getD, List.getElem?_set]
  by_cases e : d = j
  · subst e; rw [if_pos rfl, if_pos hd, if_pos rfl]; rfl
  · rw [if_neg e, if_neg (fun e' => e e'.symm)]
theorem vl_set {L : Prs} {d : Nat} (hd : d < L.length) (k v : ByteArray) (j : Nat) : vl (L.set d (k, v)) j = if j = d then v else vl L j := by
  unfold vl
  simp only [List.getD_eq_getElem?_getD, List.getElem?_set]
  by_cases e : d = j
  · subst e; rw [if_pos rfl, if_pos hd, if_pos rfl]; rfl
  · rw [if_neg e, if_neg (fun e' => e e'.symm)]
theorem nm_app {L : Prs} (k v : ByteArray) (j : Nat) : nm (L ++ [(k, v)]) j = if j < L.length then nm L j else if j = L.length then k else ByteArray.empty := by
  unfold nm
  simp only [List.getD_eq_getElem?_getD]
  by_cases h : j < L.length
  · rw [if_pos h, List.getElem?_append_left h]
  · rw [if_neg h, List.getElem?_append_right (by omega)]
    by_cases e : j = L.length
    · subst e; simp
    · rw [if_neg e, List.getElem?_eq_none (by simp; omega)]; rfl
theorem vl_app {L : Prs} (k v : ByteArray) (j : Nat) : vl (L ++ [(k, v)]) j = if j < L.length then vl L j else if j = L.length then v else ByteArray.empty := by
  unfold vl
  simp only [List.getD_eq_getElem?_getD]
  by_cases h : j < L.length
  · rw [if_pos h, List.getElem?_append_left h]
  · rw [if_neg h, List.getElem?_append_right (by omega)]
    by_cases e : j = L.length
    · subst e; simp
    · rw [if_neg e, List.getElem?_eq_none (by simp; omega)]; rfl
theorem nm_era {L : Prs} (d j : Nat) : nm (L.eraseIdx d) j = if j < d then nm L j else nm L (j + 1) := by
  unfold nm
  simp only [List.getD_eq_getElem?_getD, List.getElem?_eraseIdx]
  split <;> rfl
theorem vl_era {L : Prs} (d j : Nat) : vl (L.eraseIdx d) j = if j < d then vl L j else vl L (j + 1) := by
  unfold vl
  simp only [List.getD_eq_getElem?_getD, List.getElem?_eraseIdx]
  split <;> rfl
theorem Dist.app {L : Prs} (h : Dist L) {k v : ByteArray} (hk : ∀ j, j < L.length → nm L j ≠ k) : Dist (L ++ [(k, v)]) := by
  intro i j hi hj e
  simp only [List.length_append, List.length_cons, List.length_nil] at hi hj
  rw [nm_app, nm_app] at e
  by_cases h1 : i < L.length
  · rw [if_pos h1] at e
    by_cases h2 : j < L.length
    · rw [if_pos h2] at e; exact h i j h1 h2 e
    · rw [if_neg h2, if_pos (by omega)] at e; exact absurd e (hk i h1)
  · rw [if_neg h1, if_pos (by omega)] at e
    by_cases h2 : j < L.length
    · rw [if_pos h2] at e; exact absurd e.symm (hk j h2)
    · omega
theorem Dist.set {L : Prs} (h : Dist L) {d : Nat} (hd : d < L.length) (v : ByteArray) : Dist (L.set d (nm L d, v)) := by
  intro i j hi hj e
  rw [List.length_set] at hi hj
  have hn : ∀ j, nm (L.set d (nm L d, v)) j = nm L j := fun j => by
    rw [nm_set hd]; split
    · rename_i e; rw [e]
    · rfl
  rw [hn, hn] at e
  exact h i j hi hj e
theorem Dist.era {L : Prs} (h : Dist L) {d : Nat} (hd : d < L.length) : Dist (L.eraseIdx d) := by
  intro i j hi hj e
  rw [List.length_eraseIdx, if_pos hd] at hi hj
  rw [nm_era, nm_era] at e
  by_cases h1 : i < d
  · rw [if_pos h1] at e
    by_cases h2 : j < d
    · rw [if_pos h2] at e; exact h i j (by omega) (by omega) e
    · rw [if_neg h2] at e; have := h i (j + 1) (by omega) (by omega) e; omega
  · rw [if_neg h1] at e
    by_cases h2 : j < d
    · rw [if_pos h2] at e; have := h (i + 1) j (by omega) (by omega) e; omega
    · rw [if_neg h2] at e; have := h (i + 1) (j + 1) (by omega) (by omega) e; omega
theorem Tells.app {m : M ByteArray} {L : Prs} (h : Tells m L) {k v : ByteArray} (hk : ∀ j, j < L.length → nm L j ≠ k) {r : M ByteArray × Bool × Int} (hp : PutAs m k v r) : Tells r.1 (L ++ [(k, v)]) ∧ r.2 = (false, 0) := by
  have hl := h.no k hk
  refine ⟨⟨fun j hj => ?_, fun k' hk' => ?_, ?_⟩, by rw [hp.is, hl]; rfl⟩
  · simp only [List.length_append, List.length_cons, List.length_nil] at hj
    rw [hp.look, nm_app, vl_app]
    by_cases h1 : j < L.length
    · rw [if_pos h1, if_pos h1, if_neg (hk j h1)]; exact h.is j h1
    · have hjl : j = L.length := by omega
      rw [if_neg h1, if_pos hjl, if_pos rfl, if_neg h1, if_pos hjl]
  · have hne : k' ≠ k := fun e => by
      have := hk' L.length (by simp)
      rw [nm_app, if_neg (by omega), if_pos rfl] at this
      exact this e.symm
    rw [hp.look, if_neg hne]
    refine h.no k' fun j hj => ?_
    have := hk' j (by simp; omega)
    rwa [nm_app, if_pos hj] at this
  · rw [hp.n, hl, h.n]; simp
theorem Tells.set {m : M ByteArray} {L : Prs} (h : Tells m L) (hD : Dist L) {d : Nat} (hd : d < L.length) {v : ByteArray} {r : M ByteArray × Bool × Int} (hp : PutAs m (nm L d) v r) : Tells r.1 (L.set d (nm L d, v)) ∧ r.2 = (true, 0) := by
  have hl := h.is d hd
  refine ⟨⟨fun j hj => ?_, fun k' hk' => ?_, ?_⟩, by rw [hp.is, hl]; rfl⟩
  · rw [List.length_set] at hj
    rw [hp.look, nm_set hd, vl_set hd]
    by_cases e : j = d
    · rw [if_pos e, if_pos rfl, if_pos e]
    · rw [if_neg e, if_neg (fun e' => e (hD j d hj hd e')), if_neg e]; exact h.is j hj
  · have hne : k' ≠ nm L d := fun e => by
      have := hk' d (by rw [List.length_set]; exact hd)
      rw [nm_set hd, if_pos rfl] at this
      exact this e.symm
    rw [hp.look, if_neg hne]
    refine h.no k' fun j hj => ?_
    have := hk' j (by rw [List.length_set]; exact hj)
    rw [nm_set hd] at this
    split at this
    · rename_i e; rw [e]; exact this
    · exact this
  · rw [hp.n, hl, h.n]; simp
theorem Tells.era {m : M ByteArray} {L : Prs} (h : Tells m L) (hD : Dist L) {d : Nat} (hd : d < L.length) {r : M ByteArray × Bool} (hp : DelAs m (nm L d) r) : Tells r.1 (L.eraseIdx d) ∧ r.2 = true := by
  have hl := h.is d hd
  refine ⟨⟨fun j hj => ?_, fun k' hk' => ?_, ?_⟩, by rw [hp.is, hl]; rfl⟩
  · rw [List.length_eraseIdx, if_pos hd] at hj
    rw [hp.look, nm_era, vl_era]
    by_cases e : j < d
    · rw [if_pos e, if_pos e, if_neg (fun e' => by have := hD j d (by omega) hd e'; omega)]; exact h.is j (by omega)
    · rw [if_neg e, if_neg e, if_neg (fun e' => by have := hD (j + 1) d (by omega) hd e'; omega)]; exact h.is (j + 1) (by omega)
  · rw [hp.look]
    by_cases e : k' = nm L d
    · rw [if_pos e]
    · rw [if_neg e]
      refine h.no k' fun j hj e2 => ?_
      have hjd : j ≠ d := fun e3 => e (by rw [← e2, e3])
      by_cases h1 : j < d
      · have := hk' j (by rw [List.length_eraseIdx, if_pos hd]; omega)
        rw [nm_era, if_pos h1] at this
        exact this e2
      · have := hk' (j - 1) (by rw [List.length_eraseIdx, if_pos hd]; omega)
        rw [nm_era, if_neg (by omega), show j - 1 + 1 = j by omega] at this
        exact this e2
  · rw [hp.n, hl, h.n, List.length_eraseIdx, if_pos hd]; simp; omega
theorem Tells.none {m : M ByteArray} {L : Prs} (h : Tells m L) {k : ByteArray} (hk : ∀ j, j < L.length → nm L j ≠ k) {r : M ByteArray × Bool} (hp : DelAs m k r) : Tells r.1 L ∧ r.2 = false := by
  have hl := h.no k hk
  refine ⟨⟨fun j hj => ?_, fun k' hk' => ?_, by rw [hp.n, hl, h.n]; simp⟩, by rw [hp.is, hl]; rfl⟩
  · rw [hp.look, if_neg (hk j hj)]; exact h.is j hj
  · rw [hp.look]; split
    · rfl
    · exact h.no k' hk'
end Go.Proofs.YtiopkkjcgdcgmaaDoor.s
end
section
namespace Go.Rg
open Go.RowKit
theorem row_form {w : World} {base : Nat} {e : TypeId} {sz : Nat} {v : Value} {n : Nat} {xs : List Value} (h : w.ownsRow base e sz v n xs) : ∃ p cap, v = .slice p n cap := by
  rcases h.2 with ⟨rfl, rfl⟩ | ⟨g, cap, cur, rfl, _⟩
  · exact ⟨none, 0, rfl⟩
  · exact ⟨_, cap, rfl⟩
section
variable {P : Program} {w : World} {ops : Array Oper} {rest : List Oper} {o : Oper} {a : Act} {Q : Exit → Act → World → Prop}
theorem appX (hgd : o.guard = none) (s x : Operand) (t : TypeId) (ho : o.op = .call { callee := .builtin .append, args := #[s, x], argTypes := #[t, t] })
    (base : Nat) (e : TypeId) {z : Value} {sz bytes : Nat} (inf : (P.info? e).map (fun i => (i.zero, i.size, i.bytes)) = some (some z, sz, bytes)) (ht : P.underlying t = some (.slice e)) (hzs : z.cells.size = sz) (hsz : 0 < sz) (hbb : bytes ≤ 256)
    (p : Option Addr) (n cap : Nat) (xs : List Value) (hs : a.eval s = .slice p n cap) (hown : w.ownsRow base e sz (.slice p n cap) n xs) (pa : Addr) (m c : Nat) (news : List Value) (hx : a.eval x = .slice (some pa) m c)
    (hl : news.length = m * sz) (hnews : ∀ j u, news[j]? = some u → w.cell? (pa.add j) = some u) (h1 : ∀ u ∈ news, u.oneCell' = true) (hm : 0 < m ∨ p ≠ none) (hn : n + m ≤ 4294967296) (hbase : base ≤ w.heap.size)
    (h : ∀ p' cap' w', w'.ownsRow base e sz (.slice p' (n + m) cap') (n + m) (xs ++ news) → Kp (fun k => (Value.slice p n cap).ownBlock = some k) w w' →
      p' ≠ none → ((p' = p ∧ cap' = cap ∧ n + m ≤ cap) ∨ ((∀ k, (Value.slice p' (n + m) cap').ownBlock = some k → w.heap.size ≤ k) ∧ Ext w w' ∧ cap < n + m)) → wpList P ops Q rest (a.put o.dst (.slice p' (n + m) cap')) w') :
    wpList P ops Q (o :: rest) a w := by
  obtain ⟨i, hi, hz, h2, h3⟩ := info_parts inf
  by_cases hf : p ≠ none ∧ n + m ≤ cap
  · obtain ⟨hp, hf⟩ := hf
    rcases hown.2 with ⟨hv, _⟩ | ⟨g, cap', cur, hv, hrest⟩
    · cases hv; exact absurd rfl hp
    · cases hv
      refine wpList_append_fits w hgd s x t ho base e i sz ht hi h2 g n cap xs hs hown pa m c news hx hl hnews h1 hf ?_
      intro w' ho' hg
      exact h _ _ w' ho' (kp_grown hg) (by simp) (.inl ⟨rfl, rfl, hf⟩)
  · have hlt : cap < n + m := by
      rcases hown.2 with ⟨hv, h0⟩ | ⟨g, cap', cur, hv, hrest⟩
      · cases hv
        rcases hm with hm | hm
        · omega
        · exact absurd rfl hm
      · cases hv
        have : ¬ (n + m ≤ cap) := fun h => hf ⟨by simp, h⟩
        omega
    refine wpList_append_grows w hgd s x t ho e i z sz bytes ht hi hz h2 h3 hzs hsz p n cap xs hs ?_ hown.1 ?_ pa m c news hx hl hnews h1 hlt (small_ok' hn hbb).1 (small_ok' hn hbb).2 ?_
    · intro hp
      rcases hown.2 with ⟨hv, h0⟩ | ⟨g, cap', cur, hv, hrest⟩
      · cases hv; exact ⟨rfl, rfl⟩
      · cases hv; cases hp
    · intro b hb j u hj
      rcases hown.2 with ⟨hv, h0⟩ | ⟨g, cap', cur, hv, hrest⟩
      · cases hv; cases hb
      · cases hv; cases hb; exact hown.cells (g := g) rfl j u hj
    · intro v' w' ho' hg
      obtain ⟨p', cap', rfl⟩ := row_form ho'
      have hE : Ext w w' := (Kp.refl _ w).grown hg fun _ e => by cases e
      have hp' : p' ≠ none := by
        rcases ho'.2 with ⟨hv, h0⟩ | ⟨g, cap2, cur, hv, hrest⟩
        · exfalso
          rcases hown.2 with ⟨hv2, h02⟩ | ⟨g, cap3, cur, hv2, _, _, h5, _⟩
          · cases hv2
            rcases hm with hm | hm
            · omega
            · exact hm rfl
          · cases hv2; omega
        · cases hv; simp
      exact h p' cap' w' (row_base ho' hbase) hE.kp hp' (.inr ⟨fun k hk => (ho'.lt k hk).1, hE, hlt⟩)
end
end Go.Rg
namespace Go.Proofs.YtiopkkjcgdcgmaaDoor.s
open Go.RowKit Go.Rg Go.Nm Go.Gp Go.Mp
def Dj (f g : Ft) : Prop := ∀ k, f.fp k → ¬ g.fp k
theorem row_fp {w0 w : World} {f : Ft} {m : M ByteArray} (h : Ow w0 w f m) {base sz n : Nat} {v : Value} {xs : List Value} (hr : w.ownsRow base 9 sz v n xs) {k : Nat} (hk : v.ownBlock = some k) : ¬ f.fp k := by
  rcases hr.2 with ⟨rfl, _⟩ | ⟨g, cap, cur, rfl, _, hg, _⟩
  · cases hk
  · have hgk : g = k := Option.some.inj hk
    subst hgk
    rintro (e | e | e)
    · have := h.is.st; unfold At at this; rw [← e, hg] at this; cases this
    · obtain ⟨c2, hA, _⟩ := h.is.wd; unfold At at hA; rw [← e, hg] at hA; cases hA
    · obtain ⟨c2, hA, _⟩ := h.is.sl; unfold At at hA; rw [← e, hg] at hA; cases hA
/-- But for a row's block, which keeps its first q texts, and u behind them once it is there. -/
def Rq (gk q : Nat) (u : Value) (W W' : World) : Prop :=
  Kp (fun k => k = gk) W W' ∧ ∀ cur, At W gk cur 9 → ∃ cur', At W' gk cur' 9 ∧ cur'.size = cur.size ∧ (∀ j, j < q → cur'[j]? = cur[j]?) ∧ (cur[q]? = some u → cur'[q]? = some u)
theorem Rq.refl (gk q : Nat) (u : Value) (W : World) : Rq gk q u W W := ⟨Kp.refl _ _, fun cur h => ⟨cur, h, rfl, fun _ _ => rfl, fun h => h⟩⟩
theorem Rq.trans {gk q : Nat} {u : Value} {A B C : World} (h : Rq gk q u A B) (g : Rq gk q u B C) : Rq gk q u A C :=
  ⟨h.1.trans g.1, fun cur hc => by
    obtain ⟨c1, a1, a2, a3, a4⟩ := h.2 cur hc
    obtain ⟨c2, b1, b2, b3, b4⟩ := g.2 c1 a1
    exact ⟨c2, b1, b2.trans a2, fun j hj => (b3 j hj).trans (a3 j hj), fun e => b4 (a4 e)⟩⟩
theorem Rq.ext {gk q : Nat} {u : Value} {A B : World} (h : Ext A B) : Rq gk q u A B := ⟨h.kp, fun cur hc => ⟨cur, At.ext h hc, rfl, fun _ _ => rfl, fun e => e⟩⟩
theorem Rq.row {gk q : Nat} {u : Value} {W W' : World} {base cap : Nat} {xs : List Value} (h : Rq gk q u W W') (hr : W.ownsRow base 9 1 (.slice (some ⟨gk, 0, none⟩) q cap) q xs) : W'.ownsRow base 9 1 (.slice (some ⟨gk, 0, none⟩) q cap) q xs := by
  refine ⟨hr.1, ?_⟩
  rcases hr.2 with ⟨hv, _⟩ | ⟨g, cap', cur, hv, hb, hg, h1, h2, h3, h4⟩
  · cases hv
  · cases hv
    obtain ⟨c1, a1, a2, a3, _⟩ := h.2 cur hg
    refine .inr ⟨gk, cap, c1, rfl, hb, a1, h1, h2, a2.trans h3, ?_⟩
    rw [← h4]
    apply List.ext_getElem?
    intro j
    rw [List.getElem?_take, List.getElem?_take]
    split
    · rw [Array.getElem?_toList, Array.getElem?_toList]; exact a3 j (by omega)
    · rfl
theorem Rq.row1 {gk q : Nat} {u : Value} {W W' : World} {base cap : Nat} {xs : List Value} (h : Rq gk q u W W') (hx : xs.length = q) (hr : W.ownsRow base 9 1 (.slice (some ⟨gk, 0, none⟩) (q + 1) cap) (q + 1) (xs ++ [u])) : W'.ownsRow base 9 1 (.slice (some ⟨gk, 0, none⟩) (q + 1) cap) (q + 1) (xs ++ [u]) := by
  refine ⟨hr.1, ?_⟩
  rcases hr.2 with ⟨hv, _⟩ | ⟨g, cap', cur, hv, hb, hg, h1, h2, h3, h4⟩
  · cases hv
  · cases hv
    obtain ⟨c1, a1, a2, a3, a4⟩ := h.2 cur hg
    refine .inr ⟨gk, cap, c1, rfl, hb, a1, h1, h2, a2.trans h3, ?_⟩
    have hq : cur[q]? = some u := by
      have : (cur.toList.take ((q + 1) * 1))[q]? = some u := by rw [h4, List.getElem?_append_right (by omega), hx]; simp
      rw [List.getElem?_take, if_pos (by omega), Array.getElem?_toList] at this
      exact this
    rw [← h4]
    apply List.ext_getElem?
    intro j
    rw [List.getElem?_take, List.getElem?_take]
    split
    · rw [Array.getElem?_toList, Array.getElem?_toList]
      by_cases e : j = q
      · rw [e, a4 hq, hq]
      · exact a3 j (by omega)
    · rfl
theorem Rq.of {gk q : Nat} {u : Value} {W W' : World} {base cap : Nat} {xs : List Value} (hr : W.ownsRow base 9 1 (.slice (some ⟨gk, 0, none⟩) q cap) q xs) (hr2 : W'.ownsRow base 9 1 (.slice (some ⟨gk, 0, none⟩) (q + 1) cap) (q + 1) (xs ++ [u])) (hK : Kp (fun k => k = gk) W W') : Rq gk q u W W' := by
  refine ⟨hK, fun cur hc => ?_⟩
  rcases hr.2 with ⟨hv, _⟩ | ⟨g, cap', c0, hv, hb, hg, h1, h2, h3, h4⟩
  · cases hv
  · cases hv
    rcases hr2.2 with ⟨hv, _⟩ | ⟨g, cap', c2, hv, hb2, hg2, k1, k2, k3, k4⟩
    · cases hv
    · cases hv
      have hcc : cur = c0 := by unfold At at hc; rw [hg] at hc; cases hc; rfl
      subst hcc
      have hxl : xs.length = q := by have := hr.1; omega
      refine ⟨c2, hg2, k3.trans h3.symm, fun j hj => ?_, fun _ => ?_⟩
      · have e1 : (cur.toList.take (q * 1))[j]? = cur[j]? := by rw [List.getElem?_take, if_pos (by omega), Array.getElem?_toList]
        have e2 : (c2.toList.take ((q + 1) * 1))[j]? = c2[j]? := by rw [List.getElem?_take, if_pos (by omega), Array.getElem?_toList]
        rw [← e1, ← e2, h4, k4, List.getElem?_append_left (by omega)]
      · have e2 : (c2.toList.take ((q + 1) * 1))[q]? = c2[q]? := by rw [List.getElem?_take, if_pos (by omega), Array.getElem?_toList]
        rw [← e2, k4, List.getElem?_append_right (by omega), hxl]; simp
theorem row_set {W : World} {base g n cap d : Nat} {xs : List Value} {u : Value} (h : W.ownsRow base 9 1 (.slice (some ⟨g, 0, none⟩) n cap) n xs) (_hd : d < n) : (W.setCell ⟨g, d, none⟩ u).ownsRow base 9 1 (.slice (some ⟨g, 0, none⟩) n cap) n (xs.set d u) := by
  refine ⟨by rw [List.length_set]; exact h.1, ?_⟩
  rcases h.2 with ⟨hv, _⟩ | ⟨g', cap', cur, hv, hb, hg, h1, h2, h3, h4⟩
  · cases hv
  · cases hv
    refine .inr ⟨g, cap, cur.setIfInBounds d u, rfl, hb, At.set hg d u, h1, h2, by rw [Array.size_setIfInBounds]; exact h3, ?_⟩
    rw [Array.toList_setIfInBounds, List.take_set, h4]
theorem act_fp {w0 w : World} {f : Ft} {m : M ByteArray} (h : Ow w0 w f m) {b : Nat} {cs : Array Value} (hA : At w b cs 32) : ¬ f.fp b := by
  unfold At at hA
  rintro (e | e | e)
  · have := h.is.st; unfold At at this; rw [← e, hA] at this; cases this
  · obtain ⟨c2, hB, _⟩ := h.is.wd; unfold At at hB; rw [← e, hA] at hB; cases hB
  · obtain ⟨c2, hB, _⟩ := h.is.sl; unfold At at hB; rw [← e, hA] at hB; cases hB
theorem act_row {w : World} {b base sz n : Nat} {v : Value} {xs : List Value} {cs : Array Value} (hr : w.ownsRow base 9 sz v n xs) (hA : At w b cs 32) : ¬ v.ownBlock = some b := by
  rcases hr.2 with ⟨rfl, _⟩ | ⟨g, cap, cur, rfl, _, hg, _⟩
  · intro h; cases h
  · intro h
    have hgb : g = b := Option.some.inj h
    unfold At at hA
    rw [← hgb, hg] at hA; cases hA
/-- Two maps, and two rows of texts. -/
structure Ms (w0 w : World) (f : Ft) (x : M ByteArray) (g : Ft) (y : M ByteArray) (kv vv : Value) (L : Prs) : Prop where
  xo : Ow w0 w f x
  yo : Ow w0 w g y
  dj : Dj f g
  kr : w.ownsRow w0.heap.size 9 1 kv L.length (L.map fun p => strV p.1)
  vr : w.ownsRow w0.heap.size 9 1 vv L.length (L.map fun p => strV p.2)
  kn : ∀ k, kv.ownBlock = some k → vv.ownBlock ≠ some k
section
variable {w0 w w' : World} {f : Ft} {x : M ByteArray} {g : Ft} {y : M ByteArray} {kv vv : Value} {L : Prs}
theorem Ms.next (h : Ms w0 w f x g y kv vv L) (hE : Ext w w') : Ms w0 w' f x g y kv vv L := ⟨h.xo.next hE, h.yo.next hE, h.dj, row_ext h.kr hE, row_ext h.vr hE, h.kn⟩
theorem Ms.mapx (h : Ms w0 w f x g y kv vv L) {f' : Ft} {x' : M ByteArray} (hF : From w f f') (hO : Ow w0 w' f' x') (hK : Kp f.fp w w') : Ms w0 w' f' x' g y kv vv L := by
  refine ⟨hO, h.yo.kp hK h.xo.own (fun k hk hb => h.dj k hb hk), fun k hk hb => ?_, row_kp h.kr hK (fun k hk => row_fp h.xo h.kr hk), row_kp h.vr hK (fun k hk => row_fp h.xo h.vr hk), h.kn⟩
  rcases hF.2 k hk with h1 | h1
  · exact h.dj k h1 hb
  · have := h.yo.is.lt hb; omega
theorem Ms.mapy (h : Ms w0 w f x g y kv vv L) {g' : Ft} {y' : M ByteArray} (hF : From w g g') (hO : Ow w0 w' g' y') (hK : Kp g.fp w w') : Ms w0 w' f x g' y' kv vv L := by
  refine ⟨h.xo.kp hK h.yo.own (fun k hk hb => h.dj k hk hb), hO, fun k hk hb => ?_, row_kp h.kr hK (fun k hk => row_fp h.yo h.kr hk), row_kp h.vr hK (fun k hk => row_fp h.yo h.vr hk), h.kn⟩
  rcases hF.2 k hb with h1 | h1
  · exact h.dj k hk h1
  · have := h.xo.is.lt hk; omega
/-- The rows are put anew. -/
theorem Ms.rows (h : Ms w0 w f x g y kv vv L) {kv' vv' : Value} {L' : Prs} (hr : w'.ownsRow w0.heap.size 9 1 kv' L'.length (L'.map fun p => strV p.1)) (hv : w'.ownsRow w0.heap.size 9 1 vv' L'.length (L'.map fun p => strV p.2))
    {S : Nat → Prop} (hK : Kp S w w') (hS : ∀ k, S k → kv.ownBlock = some k ∨ vv.ownBlock = some k ∨ w.heap.size ≤ k) (hn : ∀ k, kv'.ownBlock = some k → vv'.ownBlock ≠ some k) : Ms w0 w' f x g y kv' vv' L' := by
  have h0 : ∀ k, S k → w0.heap.size ≤ k := fun k hk => by
    rcases hS k hk with e | e | e
    · exact (h.kr.lt k e).1
    · exact (h.vr.lt k e).1
    · exact Nat.le_trans h.xo.ext.size e
  refine ⟨h.xo.kp hK h0 (fun k hk hs => ?_), h.yo.kp hK h0 (fun k hk hs => ?_), h.dj, hr, hv, hn⟩
  · rcases hS k hs with e | e | e
    · exact row_fp h.xo h.kr e hk
    · exact row_fp h.xo h.vr e hk
    · have := h.xo.is.lt hk; omega
  · rcases hS k hs with e | e | e
    · exact row_fp h.yo h.kr e hk
    · exact row_fp h.yo h.vr e hk
    · have := h.yo.is.lt hk; omega
end
theorem addr0 (b j : Nat) : (⟨b, 0, none⟩ : Addr).add j = ⟨b, j, none⟩ := by unfold Addr.add; split <;> simp_all
theorem own_any {p : Option Addr} {n c n' c' k : Nat} (h : (Value.slice p n c).ownBlock = some k) : (Value.slice p n' c').ownBlock = some k := by cases p <;> exact h
theorem own_empty {w : World} {b base : Nat} (h : At w b #[] 9) (hb : base ≤ b) : w.ownsRow base 9 1 (.slice (some ⟨b, 0, none⟩) 0 0) 0 [] := ⟨rfl, .inr ⟨b, 0, #[], rfl, hb, h, Nat.le_refl _, Nat.zero_le _, rfl, rfl⟩⟩
theorem ext_empty {w w' : World} {b base d : Nat} {p' : Option Addr} {cap' : Nat} {xs : List Value} (hA : At w b #[] 9) (ho : w'.ownsRow base 9 1 (.slice p' (0 + d) cap') (0 + d) xs) (hK : Kp (fun k => (Value.slice (some ⟨b, 0, none⟩) 0 0).ownBlock = some k) w w')
    (hd : (p' = some ⟨b, 0, none⟩ ∧ cap' = 0 ∧ 0 + d ≤ 0) ∨ ((∀ k, (Value.slice p' (0 + d) cap').ownBlock = some k → w.heap.size ≤ k) ∧ Ext w w' ∧ 0 < 0 + d)) : Ext w w' := by
  rcases hd with ⟨rfl, rfl, _⟩ | ⟨_, h, _⟩
  · rcases ho.2 with ⟨hv, _⟩ | ⟨g, cap, cur, hv, hb, hg, h1, h2, h3, h4⟩
    · cases hv
    · cases hv
      have hc : cur = #[] := Array.eq_empty_of_size_eq_zero (by omega)
      subst hc
      refine ⟨hK.os, hK.tape, hK.output, hK.size, fun k hk _ => ?_⟩
      by_cases e : k = b
      · subst e; rw [hg]; exact hA.symm
      · exact hK.block k hk (fun e2 => e (Option.some.inj e2).symm)
  · exact h
theorem row_news {w : World} {b : Nat} {xs : List Value} (h : Row w b 9 xs) (ys : List Value) (o : Nat) (hy : ∀ j u, ys[j]? = some u → xs[o + j]? = some u) : ∀ j u, ys[j]? = some u → w.cell? ((⟨b, o, none⟩ : Addr).add j) = some u := by
  intro j u hj
  have : (⟨b, o, none⟩ : Addr).add j = ⟨b, o + j, none⟩ := by unfold Addr.add; split <;> simp_all
  rw [this]; exact h.cell (hy j u hj)
theorem ones_str {l : List ByteArray} {xs : List Value} (h : ∀ u ∈ xs, u ∈ l.map strV) : ∀ u ∈ xs, u.oneCell' = true := by
  intro u hu
  obtain ⟨s, _, rfl⟩ := List.mem_map.1 (h u hu)
  rfl
theorem map_fst_era (L : Prs) (d : Nat) : (L.eraseIdx d).map (fun p => strV p.1) = (L.map fun p => strV p.1).take d ++ (L.map fun p => strV p.1).drop (d + 1) := by
  rw [List.eraseIdx_eq_take_drop_succ, List.map_append, List.map_take, List.map_drop]
theorem map_snd_era (L : Prs) (d : Nat) : (L.eraseIdx d).map (fun p => strV p.2) = (L.map fun p => strV p.2).take d ++ (L.map fun p => strV p.2).drop (d + 1) := by
  rw [List.eraseIdx_eq_take_drop_succ, List.map_append, List.map_take, List.map_drop]
end Go.Proofs.YtiopkkjcgdcgmaaDoor.s
end
section
namespace Go.Proofs.YtiopkkjcgdcgmaaDoor.s
open Go.RowKit Go.Rg Go.Nm Go.Gp Go.Mp
set_option maxHeartbeats 40000000
set_option maxRecDepth 20000
def Two (w wx : World) (m0 m1 : M ByteArray) (v7 v8 : Value) : Prop := ∃ f g : Ft, v7 = .pointer (some ⟨f.b, 0, none⟩) ∧ v8 = .pointer (some ⟨g.b, 0, none⟩) ∧ Ow w wx f m0 ∧ Ow w wx g m1 ∧ Dj f g
theorem SwissMaps_w (k0 k1 k2 k3 : Nat) (h0 : k0 < U) (h1 : k1 < U) (h2 : k2 < U) (h3 : k3 < U) (l : List Act) (hll : l.length ≤ maxLen) (v : Value) (w : World) (hv : Ac w v l) (hSh : Sh w) :
    Calls Tryd.prog 3 #[.agg #[.int .u64 k0, .int .u64 k1], .agg #[.int .u64 k2, .int .u64 k3], v] w fun e w' => e = .returned (.bool true) ∧ Ext w w' := by
  have hL := fun w' (h : Ext w w') => i.lives_w w' (hSh.kp h (fun f => f))
  have hfew := fun w1 (h : Ext w w1) => few5_w l v w1 (hv.ext h) hll
  obtain ⟨p, ca, rfl, hca⟩ := id hv
  unfold maxLen at hll
  obtain ⟨n, hn⟩ : ∃ n, Hid (l.length = n) := ⟨_, Lib.hid rfl⟩
  rw [hn.out] at hll hfew ⊢
  have hN := fun w => New_w k0 k1 0 w
  rw [show need 0 = 1 from rfl] at hN
  have hN2 := fun w => New_w k2 k3 100 w
  rw [show need 100 = 16 by decide] at hN2
  have hm0 := made_inv (α := ByteArray) h0 h1 i.pw1
  have hm1 := made_inv (α := ByteArray) (g := 16) h2 h3 ⟨4, by omega, rfl⟩
  have hT0 : Tells (made (α := ByteArray) k0 k1 1) [] := ⟨fun j hj => by simp at hj, fun k _ => made_look h0 h1 i.pw1 k, rfl⟩
  have hT1 : Tells (made (α := ByteArray) k2 k3 16) [] := ⟨fun j hj => by simp at hj, fun k _ => made_look h2 h3 ⟨4, by omega, rfl⟩ k, rfl⟩
  generalize (made k0 k1 1 : M ByteArray) = m0 at *
  generalize (made k2 k3 16 : M ByteArray) = m1 at *
  clear hv
  go_enter Tryd.func3, Tryd.ntmps3
  go_upto_region 1 with (fail)
  generalize hw1 : (w.alloc (.cells #[.int .u64 k0, .int .u64 k1] 24)).alloc (.cells #[.int .u64 k2, .int .u64 k3] 24) = w1
  have hc0 : w1.cell? ⟨w.heap.size, 0, none⟩ = some (.int .u64 k0) := by rw [← hw1]; exact ((At.new _ _ _).alloc _).cell rfl
  have hc1 : w1.cell? ⟨w.heap.size, 1, none⟩ = some (.int .u64 k1) := by rw [← hw1]; exact ((At.new _ _ _).alloc _).cell rfl
  have hc2 : w1.cell? ⟨w.heap.size + 1, 0, none⟩ = some (.int .u64 k2) := by
    have := (At.new (w.alloc (.cells #[.int .u64 k0, .int .u64 k1] 24)) #[.int .u64 k2, .int .u64 k3] 24).cell (i := 0) (v := .int .u64 k2) rfl
    rw [hw1] at this; simpa using this
  have hc3 : w1.cell? ⟨w.heap.size + 1, 1, none⟩ = some (.int .u64 k3) := by
    have := (At.new (w.alloc (.cells #[.int .u64 k0, .int .u64 k1] 24)) #[.int .u64 k2, .int .u64 k3] 24).cell (i := 1) (v := .int .u64 k3) rfl
    rw [hw1] at this; simpa using this
  have hE1 : Ext w w1 := by rw [← hw1]; exact Kp.alloc (Ext.alloc _ _) _
  clear hw1
  go_cut [7, 8] (fun v7 v8 wx => Two w wx m0 m1 v7 v8)
  case first =>
    go_region_with (first
      | (go_at_call 13; ((with_reducible refine (hN _).mono ?_)); rintro e w2 (⟨h, _⟩ | ⟨_, f, rfl, hI, hNw⟩); exact absurd h (by decide); have hc2' := hNw.1.cell hc2; have hc3' := hNw.1.cell hc3)
      | (go_at_call 13; ((with_reducible refine (hN2 _).mono ?_)); rintro e w3 (⟨h, _⟩ | ⟨_, g, rfl, hI3, hNw3⟩); exact absurd h (by decide)))
    all_goals
      go_wp2_with fail
      have hOf := new_o (Ext.trans _ _ _ hE1 (Ext.drew w1)) hI hm0 hNw
      have hOg := new_o hOf.ext hI3 hm1 hNw3
      go_meet
      exact ⟨f, g, rfl, rfl, hOf.next hNw3.1, hOg, fun k hk hb => by have := hI.lt hk; have := hNw3.2 k hb; omega⟩
  case rest =>
    obtain ⟨f0, g0, rfl, rfl, hO, hP, hD⟩ := hcut
    clear hN hN2 hc0 hc1 hc2 hc3 hE1 hm0 hm1
    go_wp2_with fail
    have hfw := hfew _ hO.ext
    refine hfw.mono ?_
    rintro e w2 ⟨bb, rfl, hE2, HF⟩
    clear hfw hfew
    have hO1 := hO.next hE2
    have hP1 := hP.next hE2
    clear hO hP hE2
    cases bb with
    | false =>
      go_wp2_with (go_at_call 15; refine (hL _ hO1.ext).mono ?_; rintro e w3 ⟨rfl, hE3⟩)
      go_ret
      exact ⟨rfl, Ext.trans _ _ _ hO1.ext hE3⟩
    | true =>
      obtain ⟨hl6, hsz⟩ := HF.out rfl
      rw [hn.out] at hl6
      clear HF hll hsz
      go_wp2_with fail
      obtain ⟨bf, hbf⟩ : ∃ b, f0.b = b := ⟨_, rfl⟩
      obtain ⟨bg, hbg⟩ : ∃ b, g0.b = b := ⟨_, rfl⟩
      rw [hbf, hbg]
      have HBF := Lib.hid hbf
      have HBG := Lib.hid hbg
      clear hbf hbg
      have hMs : Ms w w2 f0 m0 g0 m1 (.slice none 0 0) (.slice none 0 0) [] := ⟨hO1, hP1, hD, World.ownsRow_nil _ _ _ _, World.ownsRow_nil _ _ _ _, fun k hk => by cases hk⟩
      have hDi : Hid (Dist []) := Lib.hid (fun i j hi => by simp at hi)
      clear hO1 hP1 hD
      go_loopg [9, 10, 52] n (fun gh kv vv i wr => ∃ (k : Nat) (f : Ft) (x : M ByteArray) (g : Ft) (y : M ByteArray) (L : Prs), gh + k = n ∧ i = .int .i64 k ∧ Hid (f.b = bf) ∧ Hid (g.b = bg) ∧ Ms w wr f x g y kv vv L ∧ L.length ≤ k ∧ Hid (Dist L) ∧ Hid (Tells x L) ∧ Hid (Tells y L))
      case atStart => exact ⟨0, f0, m0, g0, m1, [], by omega, rfl, HBF, HBG, hMs, by simp, hDi, Lib.hid hT0, Lib.hid hT1⟩
      case round =>
        clear hMs hDi hT0 hT1 HBF HBG
        obtain ⟨k, f, x, g, y, L, hgk, rfl, HBF, HBG, hMs, hLk, HD, HX, HY⟩ := hrel
        obtain ⟨pk, ck, rfl⟩ := row_form hMs.kr
        obtain ⟨pv, cv, rfl⟩ := row_form hMs.vr
        obtain ⟨q, hq⟩ : ∃ q, Hid (L.length = q) := ⟨_, Lib.hid rfl⟩
        rw [hq.out] at hLk hMs ⊢
        by_cases hlt : k < n
        · obtain ⟨a, ha⟩ : ∃ a, l[k]? = some a := ⟨l[k]'(by rw [hn.out]; exact hlt), by simp [hn.out, hlt]⟩
          obtain ⟨hs1, hs2, b1, o1, rfl, c0, c1, c2⟩ := hca k a ha
          have d0 := hMs.xo.ext.cell c0
          have d1 := hMs.xo.ext.cell c1
          have d2 := hMs.xo.ext.cell c2
          clear ha c0 c1 c2 hca
          obtain ⟨kd, ky, vv⟩ := a
          simp only at hs1 hs2 d0 d1 d2
          have hky : ky.size ≤ maxLen := Nat.le_trans hs1 (by decide)
          have hMa := hMs.next (Ext.alloc wr (.cells #[.int .i64 kd, .string ky, .string vv] 32))
          have hAt := At.new wr #[.int .i64 kd, .string ky, .string vv] 32
          clear hMs
          have hkS := Sl.row hMa.kr
          go_wp2_with fail
          obtain ⟨wo, hwo⟩ : ∃ wo : World, wo = wr.alloc (.cells #[.int .i64 kd, .string ky, .string vv] 32) := ⟨_, rfl⟩
          obtain ⟨bA, hbA⟩ : ∃ bA, bA = wr.heap.size := ⟨_, rfl⟩
          rw [← hbA] at hAt ⊢
          rw [← hwo] at hMa hAt hkS ⊢
          clear hwo hbA
          go_loop [13, 58] (fun v13 i => ∃ (j : Nat) (a : Int), j ≤ q ∧ i = .int .i64 j ∧ v13 = .int .i64 a ∧ Hid ((a = -1 ∧ ∀ j', j' < j → nm L j' ≠ ky) ∨ ∃ d : Nat, d < j ∧ a = d ∧ nm L d = ky)) (fun _ i => q - (intOf i).toNat)
          case atStart => exact ⟨0, -1, by omega, rfl, rfl, Lib.hid (.inl ⟨rfl, fun j' h => by omega⟩)⟩
          case round =>
            obtain ⟨j, a, hj, rfl, rfl, HA⟩ := hrel
            by_cases hlj : j < q
            · have hjL : j < L.length := by rw [hq.out]; exact hlj
              obtain ⟨p', c', ee, hc⟩ := id hkS
              obtain rfl : pk = p' := by injection ee
              obtain ⟨b3, o3, rfl, hc3⟩ := hc j (strV (nm L j)) (by rw [List.getElem?_map, prs_at hjL]; rfl)
              unfold strV at hc3
              have hA1 : wo.cell? ⟨bA, 1, none⟩ = some (.string ky) := hAt.cell rfl
              clear hc ee
              by_cases he : nm L j = ky
              · rw [he] at hc3
                have HA2 : Hid (((j : Int) = -1 ∧ ∀ j', j' < j + 1 → nm L j' ≠ ky) ∨ ∃ d : Nat, d < j + 1 ∧ (j : Int) = d ∧ nm L d = ky) := Lib.hid (.inr ⟨j, by omega, rfl, he⟩)
                clear he
                go_wp2_with fail
                exact ⟨⟨j + 1, _, by omega, by go_num, rfl, HA2⟩, by simp [intOf]; omega⟩
              · have hne := ba_ne he
                have HA2 : Hid ((a = -1 ∧ ∀ j', j' < j + 1 → nm L j' ≠ ky) ∨ ∃ d : Nat, d < j + 1 ∧ a = d ∧ nm L d = ky) := Lib.hid (by
                  rcases HA.out with ⟨h1, h2⟩ | ⟨d, h1, h2, h3⟩
                  · refine .inl ⟨h1, fun j' h => ?_⟩
                    by_cases e : j' = j
                    · rw [e]; exact he
                    · exact h2 j' (by omega)
                  · exact .inr ⟨d, by omega, h2, h3⟩)
                clear he
                generalize nm L j = y at hc3 hne
                go_wp2_with fail
                exact ⟨⟨j + 1, a, by omega, by go_num, rfl, HA2⟩, by simp [intOf]; omega⟩
            · obtain rfl : q = j := by omega
              have hA0 : wo.cell? ⟨bA, 0, none⟩ = some (.int .i64 kd) := hAt.cell rfl
              have hA1 : wo.cell? ⟨bA, 1, none⟩ = some (.string ky) := hAt.cell rfl
              have hA2 : wo.cell? ⟨bA, 2, none⟩ = some (.string vv) := hAt.cell rfl
              have hn6 : x.n < 2000 ∧ y.n < 2000 := by rw [HX.out.n, HY.out.n, hq.out]; omega
              clear hkS d0 d1 d2
              rcases HA.out with hAb | hPr
              · clear HA
                by_cases hkd : kd = 1
                · subst hkd
                  obtain ⟨rfl, hno⟩ := hAb
                  have hno2 : ∀ j, j < L.length → nm L j ≠ ky := fun j hj => hno j (by rw [← hq.out]; exact hj)
                  have hdx := del_o hMa.xo hSh ky hky
                  have hdy := fun w1 (h : Ow w w1 g y) => del_o h hSh ky hky
                  rw [HX.out.no ky hno2, HBF.out] at hdx
                  rw [HY.out.no ky hno2, HBG.out] at hdy
                  simp only [Option.isSome_none] at hdx hdy
                  go_wp2_with fail
                  refine hdx.mono ?_
                  rintro e w4 ⟨rfl, hO4, hp4, hK4⟩
                  have hM4 := hMa.mapx (From.refl _ _) hO4 hK4
                  have hA4 := At.kp hK4 hAt (act_fp hMa.xo hAt)
                  have hB1 : w4.cell? ⟨bA, 1, none⟩ = some (.string ky) := hA4.cell rfl
                  have HX2 : Hid (Tells (del x ky).1 L) := Lib.hid (HX.out.none hno2 hp4).1
                  generalize (del x ky).1 = x2 at *
                  clear hdx hp4 hK4 hO4 hA0 hA1 hA2 hMa hAt hno
                  go_wp2_with fail
                  refine (hdy _ hM4.yo).mono ?_
                  rintro e w5 ⟨rfl, hO5, hp5, hK5⟩
                  have hMb := hM4.mapy (From.refl _ _) hO5 hK5
                  have HY2 : Hid (Tells (del y ky).1 L) := Lib.hid (HY.out.none hno2 hp5).1
                  generalize (del y ky).1 = y2 at *
                  clear hdy hp5 hK5 hO5 hM4 hA4 hB1 hno2
                  go_wp2_with fail
                  go_roundg (gk - 1)
                  case measure => omega
                  case rel => exact ⟨k + 1, f, x2, g, y2, L, by omega, by go_num, HBF, HBG, hMb, by rw [hq.out]; omega, HD, HX2, HY2⟩
                · have hkb : ((kd : Int) == 1) = false := by simpa using hkd
                  obtain ⟨rfl, hno⟩ := hAb
                  have hno2 : ∀ j, j < L.length → nm L j ≠ ky := fun j hj => hno j (by rw [← hq.out]; exact hj)
                  have hpx := put_o hMa.xo hSh ky hky vv hn6.1
                  have hpy := fun w1 (h : Ow w w1 g y) => put_o h hSh ky hky vv hn6.2
                  rw [HX.out.no ky hno2, HBF.out] at hpx
                  rw [HY.out.no ky hno2, HBG.out] at hpy
                  simp only [Option.isSome_none] at hpx hpy
                  unfold enc at hpx hpy
                  go_wp2_with fail
                  refine hpx.mono ?_
                  rintro e w4 ⟨rfl, f2, hF4, hO4, hp4, hK4⟩
                  have hM4 := hMa.mapx hF4 hO4 hK4
                  have hA4 := At.kp hK4 hAt (act_fp hMa.xo hAt)
                  have hB1 : w4.cell? ⟨bA, 1, none⟩ = some (.string ky) := hA4.cell rfl
                  have hB2 : w4.cell? ⟨bA, 2, none⟩ = some (.string vv) := hA4.cell rfl
                  have HBF2 : Hid (f2.b = bf) := Lib.hid (hF4.1.trans HBF.out)
                  have HX2 : Hid (Tells (put x ky vv).1 (L ++ [(ky, vv)])) := Lib.hid (HX.out.app hno2 hp4).1
                  generalize (put x ky vv).1 = x2 at *
                  clear hpx hp4 hK4 hO4 hA0 hA1 hA2 hMa hAt hF4
                  go_wp2_with fail
                  refine (hpy _ hM4.yo).mono ?_
                  rintro e w5 ⟨rfl, g2, hF5, hO5, hp5, hK5⟩
                  have hMb := hM4.mapy hF5 hO5 hK5
                  have hA5 := At.kp hK5 hA4 (act_fp hM4.yo hA4)
                  have hC1 : w5.cell? ⟨bA, 1, none⟩ = some (.string ky) := hA5.cell rfl
                  have hC2 : w5.cell? ⟨bA, 2, none⟩ = some (.string vv) := hA5.cell rfl
                  have HBG2 : Hid (g2.b = bg) := Lib.hid (hF5.1.trans HBG.out)
                  have HY2 : Hid (Tells (put y ky vv).1 (L ++ [(ky, vv)])) := Lib.hid (HY.out.app hno2 hp5).1
                  generalize (put y ky vv).1 = y2 at *
                  clear hpy hp5 hK5 hO5 hM4 hA4 hB1 hB2 hF5
                  have hw5 : w.heap.size ≤ w5.heap.size := hMb.xo.ext.size
                  have hkr5 := hMb.kr
                  have hvr5 := hMb.vr
                  rw [hq.out] at hkr5 hvr5
                  have hkl := fun k (hk : (Value.slice pk q ck).ownBlock = some k) => (hkr5.lt k hk).2
                  have hvl := fun k (hk : (Value.slice pv q cv).ownBlock = some k) => (hvr5.lt k hk).2
                  have hkn := hMb.kn
                  have hq6 : q ≤ 600 := by omega
                  have hbk := act_row hMb.kr hA5
                  have hbv := act_row hMb.vr hA5
                  clear hno
                  by_cases hroom : q + 1 ≤ ck
                  · obtain ⟨gkb, e1, hgk0⟩ : ∃ gkb, pk = some ⟨gkb, 0, none⟩ ∧ gkb < w5.heap.size := by
                      rcases hkr5.2 with ⟨hv, _⟩ | ⟨g', cap', cur, hv, _, hg, _⟩
                      · cases hv; omega
                      · cases hv; exact ⟨g', rfl, At.lt hg⟩
                    subst e1
                    have hbk2 : bA ≠ gkb := fun e => hbk (by rw [e]; rfl)
                    go_wp2_with fail
                    apply Rg.regionL ((Rq gkb q (.string ky))) [.c _ _, .c _ _, .c _ _, ⟨fun v W => ∃ b, v = .slice (some ⟨b, 0, none⟩) 1 1 ∧ W.cell? ⟨b, 0, none⟩ = some (.string ky) ∧ w5.heap.size ≤ b, fun v W W2 h hr => let ⟨b, e, hc, hl⟩ := h; ⟨b, e, hr.1.cell hc (by omega), hl⟩⟩, ⟨fun v W => v = .slice (some ⟨gkb, 0, none⟩) (q + 1) ck ∧ W.ownsRow w.heap.size 9 1 (.slice (some ⟨gkb, 0, none⟩) (q + 1) ck) (q + 1) ((L.map fun p => strV p.1) ++ [.string ky]), fun v W W2 h hr => ⟨h.1, hr.row1 (by rw [List.length_map, hq.out]) h.2⟩⟩, .c _ _, .c _ _, .c _ _, ⟨fun v W => ∃ b, v = .slice (some ⟨b, 0, none⟩) 1 1 ∧ W.cell? ⟨b, 0, none⟩ = some (.string vv) ∧ w5.heap.size ≤ b, fun v W W2 h hr => let ⟨b, e, hc, hl⟩ := h; ⟨b, e, hr.1.cell hc (by omega), hl⟩⟩]
                      [(some 153, 0), (some 154, 1), (some 155, 2), (some 156, 3), (some 157, 4), (some 158, 5), (some 159, 6), (some 160, 7), (some 161, 8)]
                      [[], [], [(some 154, 1)], [(some 155, 2)], [(some 153, 0), (some 156, 3)], [], [], [(some 159, 6)], [(some 160, 7)]]
                      (by kernel_rfl) (by kernel_rfl) (fun x => Rq.refl gkb q (.string ky) x) (fun _ _ _ h k => Rq.trans h k)
                    case hops =>
                      refine ⟨?_, ?_, ?_, ?_, ?_, ?_, ?_, ?_, ?_, trivial⟩
                      · intro vs W hR 
                        simp only [Rg.Deps, Rg.frameE, List.foldl]
                        go_wp2
                        exact ⟨_, rfl, (fun x => Rq.refl gkb q (.string ky) x) _, rfl⟩
                      · intro vs W hR 
                        simp only [Rg.Deps, Rg.frameE, List.foldl]
                        go_wp2
                        exact ⟨_, rfl, (fun x => Rq.refl gkb q (.string ky) x) _, rfl⟩
                      · intro vs W hR h1
                        replace h1 : vs 1 = _ := h1
                        have fx0 := hR.1.cell hC1 hbk2
                        have fx1 := hR.1.cell hC2 hbk2
                        simp only [Rg.Deps, Rg.frameE, List.foldl, h1]
                        go_wp2
                        exact ⟨_, rfl, (fun x => Rq.refl gkb q (.string ky) x) _, rfl⟩
                      · intro vs W hR h2
                        replace h2 : vs 2 = _ := h2
                        have fx0 := hR.1.cell hC1 hbk2
                        have fx1 := hR.1.cell hC2 hbk2
                        simp only [Rg.Deps, Rg.frameE, List.foldl, h2]
                        go_wp2
                        exact ⟨_, rfl, Rq.ext (Ext.alloc _ _), _, rfl, (At.new W _ _).cell rfl, by have := hR.1.size; simpa using this⟩
                      · intro vs W hR h0 h3
                        replace h0 : vs 0 = _ := h0
                        obtain ⟨b3, h3, hc3, hl3⟩ := h3
                        have fx0 := hR.1.cell hC1 hbk2
                        have fx1 := hR.1.cell hC2 hbk2
                        simp only [Rg.Deps, Rg.frameE, List.foldl, h0, h3]
                        have hkW := hR.row (row_ext hkr5 (Ext.drew w5))
                        have hszz := hR.1.size
                        simp only [World.size_drew] at hszz
                        refine appX (z := .string ByteArray.empty) (sz := 1) (bytes := 16) rfl _ _ 30 rfl w.heap.size 9 info9 Tryd.underlying30 (by rfl) (by decide) (by decide) (some ⟨gkb, 0, none⟩) q ck (L.map fun p => strV p.1) rfl hkW ⟨b3, 0, none⟩ 1 1 [.string ky] rfl rfl (fun j u hj => by have := news1 hc3 j u hj; rw [addr0]; exact this) (one1 rfl) (.inl (by omega)) (by omega) (by omega) ?_
                        intro p6 c6 w6 hown6 hK6 hp6 hdi
                        obtain ⟨rfl, rfl, _⟩ : p6 = some ⟨gkb, 0, none⟩ ∧ c6 = ck ∧ q + 1 ≤ ck := hdi.elim (fun h => h) (fun h => absurd h.2.2 (by omega))
                        exact ⟨_, rfl, Rq.of hkW hown6 (Kp.mono hK6 (fun k _ hk => (Option.some.inj hk).symm)), rfl, hown6⟩
                      · intro vs W hR 
                        simp only [Rg.Deps, Rg.frameE, List.foldl]
                        go_wp2
                        exact ⟨_, rfl, (fun x => Rq.refl gkb q (.string ky) x) _, rfl⟩
                      · intro vs W hR 
                        simp only [Rg.Deps, Rg.frameE, List.foldl]
                        go_wp2
                        exact ⟨_, rfl, (fun x => Rq.refl gkb q (.string ky) x) _, rfl⟩
                      · intro vs W hR h6
                        replace h6 : vs 6 = _ := h6
                        have fx0 := hR.1.cell hC1 hbk2
                        have fx1 := hR.1.cell hC2 hbk2
                        simp only [Rg.Deps, Rg.frameE, List.foldl, h6]
                        go_wp2
                        exact ⟨_, rfl, (fun x => Rq.refl gkb q (.string ky) x) _, rfl⟩
                      · intro vs W hR h7
                        replace h7 : vs 7 = _ := h7
                        have fx0 := hR.1.cell hC1 hbk2
                        have fx1 := hR.1.cell hC2 hbk2
                        simp only [Rg.Deps, Rg.frameE, List.foldl, h7]
                        go_wp2
                        exact ⟨_, rfl, Rq.ext (Ext.alloc _ _), _, rfl, (At.new W _ _).cell rfl, by have := hR.1.size; simpa using this⟩
                    case htail =>
                      intro vs W hR h0 h1 h2 h3 h4 h5 h6 h7 h8
                      replace h0 : vs 0 = _ := h0
                      replace h1 : vs 1 = _ := h1
                      replace h2 : vs 2 = _ := h2
                      obtain ⟨b3, h3, hc3, hl3⟩ := h3
                      obtain ⟨h4, ho4⟩ := h4
                      replace h5 : vs 5 = _ := h5
                      replace h6 : vs 6 = _ := h6
                      replace h7 : vs 7 = _ := h7
                      obtain ⟨b8, h8, hc8, hl8⟩ := h8
                      simp only [Rg.Facts, Rg.frameE, List.foldl, List.drop, List.length, h0, h1, h2, h3, h4, h5, h6, h7, h8]
                      clear h0 h1 h2 h3 h4 h5 h6 h7 h8
                      simp only [Act.put, List.setIfInBounds_toArray, List.set_cons_zero, List.set_cons_succ]
                      have hKW : Kp (fun k => (Value.slice (some ⟨gkb, 0, none⟩) q ck).ownBlock = some k) w5 W := Kp.mono (Kp.drewL hR.1) (fun k _ hk => by subst hk; rfl)
                      have hvr := row_kp hvr5 (Kp.drewL hR.1) (fun k hk e => hkn gkb rfl (e ▸ hk))
                      have hszW : w5.heap.size ≤ W.heap.size := by have := hR.1.size; simpa using this
                      refine appX (z := .string ByteArray.empty) (sz := 1) (bytes := 16) rfl _ _ 30 rfl w.heap.size 9 info9 Tryd.underlying30 (by rfl) (by decide) (by decide) pv q cv (L.map fun p => strV p.2) rfl hvr ⟨b8, 0, none⟩ 1 1 [.string vv] rfl rfl (fun j u hj => by have := news1 hc8 j u hj; rw [addr0]; exact this) (one1 rfl) (.inl (by omega)) (by omega) (by omega) ?_
                      intro vep vec vew ver veK ven ved
                      have hMr : Ms w vew f2 x2 g2 y2 (.slice (some ⟨gkb, 0, none⟩) (q + 1) ck) (.slice vep (q + 1) vec) (L ++ [(ky, vv)]) := by
                        have hlen : (L ++ [(ky, vv)]).length = q + 1 := by rw [List.length_append, hq.out]; rfl
                        have hdis : ∀ k, (Value.slice (some ⟨gkb, 0, none⟩) (q + 1) ck).ownBlock = some k → (Value.slice pv q cv).ownBlock ≠ some k := fun k hk => hkn k hk
                        refine Ms.rows (S := fun k => (Value.slice (some ⟨gkb, 0, none⟩) q ck).ownBlock = some k ∨ (Value.slice pv q cv).ownBlock = some k) hMb ?_ ?_ (Kp.trans (Kp.mono hKW (fun k _ hk => .inl hk)) (Kp.mono veK (fun k _ hk => .inr hk))) (fun k hk => hk.elim .inl fun h => .inr (.inl h)) (fun k hk hk2 => ?_)
                        · rw [hlen, List.map_append]
                          exact row_kp ho4 veK (fun k hk e => hdis k hk e)
                        · rw [hlen, List.map_append]; exact ver
                        · rcases ved with ⟨e1, _⟩ | ⟨h1, _⟩
                          · subst e1
                            exact hdis k hk (own_any hk2)
                          · have h5 := (ho4.lt k hk).2
                            have h6 := h1 k hk2
                            omega
                      clear hMb ho4 hvr ver veK ved hA5 hR
                      go_wp2_with fail
                      go_roundg (gk - 1)
                      case measure => omega
                      case rel => exact ⟨k + 1, f2, x2, g2, y2, _, by omega, by go_num, HBF2, HBG2, hMr, by rw [List.length_append, hq.out]; simp; omega, Lib.hid (HD.out.app hno2), HX2, HY2⟩
                  · go_wp2_with fail
                    apply Rg.regionL (Ext) [.c _ _, .c _ _, .c _ _, ⟨fun v W => ∃ b, v = .slice (some ⟨b, 0, none⟩) 1 1 ∧ W.cell? ⟨b, 0, none⟩ = some (.string ky), fun v W W2 h hr => let ⟨b, e, hc⟩ := h; ⟨b, e, Ext.cell hr hc⟩⟩, ⟨fun v W => ∃ p c, v = .slice p (q + 1) c ∧ (∀ k, (Value.slice p (q + 1) c).ownBlock = some k → w5.heap.size ≤ k) ∧ W.ownsRow w.heap.size 9 1 (.slice p (q + 1) c) (q + 1) ((L.map fun p => strV p.1) ++ [.string ky]), fun v W W2 h hr => let ⟨p, c, e, hf, ho⟩ := h; ⟨p, c, e, hf, row_ext ho hr⟩⟩, .c _ _, .c _ _, .c _ _, ⟨fun v W => ∃ b, v = .slice (some ⟨b, 0, none⟩) 1 1 ∧ W.cell? ⟨b, 0, none⟩ = some (.string vv), fun v W W2 h hr => let ⟨b, e, hc⟩ := h; ⟨b, e, Ext.cell hr hc⟩⟩]
                      [(some 153, 0), (some 154, 1), (some 155, 2), (some 156, 3), (some 157, 4), (some 158, 5), (some 159, 6), (some 160, 7), (some 161, 8)]
                      [[], [], [(some 154, 1)], [(some 155, 2)], [(some 153, 0), (some 156, 3)], [], [], [(some 159, 6)], [(some 160, 7)]]
                      (by kernel_rfl) (by kernel_rfl) Ext.refl Ext.trans
                    case hops =>
                      refine ⟨?_, ?_, ?_, ?_, ?_, ?_, ?_, ?_, ?_, trivial⟩
                      · intro vs W hR 
                        simp only [Rg.Deps, Rg.frameE, List.foldl]
                        go_wp2
                        exact ⟨_, rfl, Ext.refl _, rfl⟩
                      · intro vs W hR 
                        simp only [Rg.Deps, Rg.frameE, List.foldl]
                        go_wp2
                        exact ⟨_, rfl, Ext.refl _, rfl⟩
                      · intro vs W hR h1
                        replace h1 : vs 1 = _ := h1
                        have fx0 := hR.cell hC1
                        have fx1 := hR.cell hC2
                        simp only [Rg.Deps, Rg.frameE, List.foldl, h1]
                        go_wp2
                        exact ⟨_, rfl, Ext.refl _, rfl⟩
                      · intro vs W hR h2
                        replace h2 : vs 2 = _ := h2
                        have fx0 := hR.cell hC1
                        have fx1 := hR.cell hC2
                        simp only [Rg.Deps, Rg.frameE, List.foldl, h2]
                        go_wp2
                        exact ⟨_, rfl, Ext.alloc _ _, _, rfl, (At.new W _ _).cell rfl⟩
                      · intro vs W hR h0 h3
                        replace h0 : vs 0 = _ := h0
                        obtain ⟨b3, h3, hc3⟩ := h3
                        have fx0 := hR.cell hC1
                        have fx1 := hR.cell hC2
                        simp only [Rg.Deps, Rg.frameE, List.foldl, h0, h3]
                        have hkW := row_ext hkr5 (Ext.trans _ _ _ (Ext.drew _) hR)
                        have hszz := hR.size
                        simp only [World.size_drew] at hszz
                        refine appX (z := .string ByteArray.empty) (sz := 1) (bytes := 16) rfl _ _ 30 rfl w.heap.size 9 info9 Tryd.underlying30 (by rfl) (by decide) (by decide) pk q ck (L.map fun p => strV p.1) rfl hkW ⟨b3, 0, none⟩ 1 1 [.string ky] rfl rfl (fun j u hj => by have := news1 hc3 j u hj; rw [addr0]; exact this) (one1 rfl) (.inl (by omega)) (by omega) (by omega) ?_
                        intro p6 c6 w6 hown6 hK6 hp6 hdi
                        obtain ⟨hf6, hE6, _⟩ := hdi.elim (fun h => absurd h.2.2 (by omega)) (fun h => h)
                        exact ⟨_, rfl, hE6, p6, c6, rfl, fun k hk => Nat.le_trans hszz (hf6 k hk), hown6⟩
                      · intro vs W hR 
                        simp only [Rg.Deps, Rg.frameE, List.foldl]
                        go_wp2
                        exact ⟨_, rfl, Ext.refl _, rfl⟩
                      · intro vs W hR 
                        simp only [Rg.Deps, Rg.frameE, List.foldl]
                        go_wp2
                        exact ⟨_, rfl, Ext.refl _, rfl⟩
                      · intro vs W hR h6
                        replace h6 : vs 6 = _ := h6
                        have fx0 := hR.cell hC1
                        have fx1 := hR.cell hC2
                        simp only [Rg.Deps, Rg.frameE, List.foldl, h6]
                        go_wp2
                        exact ⟨_, rfl, Ext.refl _, rfl⟩
                      · intro vs W hR h7
                        replace h7 : vs 7 = _ := h7
                        have fx0 := hR.cell hC1
                        have fx1 := hR.cell hC2
                        simp only [Rg.Deps, Rg.frameE, List.foldl, h7]
                        go_wp2
                        exact ⟨_, rfl, Ext.alloc _ _, _, rfl, (At.new W _ _).cell rfl⟩
                    case htail =>
                      intro vs W hR h0 h1 h2 h3 h4 h5 h6 h7 h8
                      replace h0 : vs 0 = _ := h0
                      replace h1 : vs 1 = _ := h1
                      replace h2 : vs 2 = _ := h2
                      obtain ⟨b3, h3, hc3⟩ := h3
                      obtain ⟨p4, c4, h4, hf4, ho4⟩ := h4
                      replace h5 : vs 5 = _ := h5
                      replace h6 : vs 6 = _ := h6
                      replace h7 : vs 7 = _ := h7
                      obtain ⟨b8, h8, hc8⟩ := h8
                      simp only [Rg.Facts, Rg.frameE, List.foldl, List.drop, List.length, h0, h1, h2, h3, h4, h5, h6, h7, h8]
                      clear h0 h1 h2 h3 h4 h5 h6 h7 h8
                      simp only [Act.put, List.setIfInBounds_toArray, List.set_cons_zero, List.set_cons_succ]
                      have hEW : Ext w5 W := Ext.trans _ _ _ (Ext.drew _) hR
                      have hKW : Kp (fun k => (Value.slice pk q ck).ownBlock = some k) w5 W := hEW.kp
                      have hvr := row_ext hvr5 hEW
                      have hszW : w5.heap.size ≤ W.heap.size := by have := hR.size; simpa using this
                      refine appX (z := .string ByteArray.empty) (sz := 1) (bytes := 16) rfl _ _ 30 rfl w.heap.size 9 info9 Tryd.underlying30 (by rfl) (by decide) (by decide) pv q cv (L.map fun p => strV p.2) rfl hvr ⟨b8, 0, none⟩ 1 1 [.string vv] rfl rfl (fun j u hj => by have := news1 hc8 j u hj; rw [addr0]; exact this) (one1 rfl) (.inl (by omega)) (by omega) (by omega) ?_
                      intro vep vec vew ver veK ven ved
                      have hMr : Ms w vew f2 x2 g2 y2 (.slice p4 (q + 1) c4) (.slice vep (q + 1) vec) (L ++ [(ky, vv)]) := by
                        have hlen : (L ++ [(ky, vv)]).length = q + 1 := by rw [List.length_append, hq.out]; rfl
                        have hdis : ∀ k, (Value.slice p4 (q + 1) c4).ownBlock = some k → (Value.slice pv q cv).ownBlock ≠ some k := fun k hk hk2 => by have := hf4 k hk; have := hvl k hk2; omega
                        refine Ms.rows (S := fun k => (Value.slice pk q ck).ownBlock = some k ∨ (Value.slice pv q cv).ownBlock = some k) hMb ?_ ?_ (Kp.trans (Kp.mono hKW (fun k _ hk => .inl hk)) (Kp.mono veK (fun k _ hk => .inr hk))) (fun k hk => hk.elim .inl fun h => .inr (.inl h)) (fun k hk hk2 => ?_)
                        · rw [hlen, List.map_append]
                          exact row_kp ho4 veK (fun k hk e => hdis k hk e)
                        · rw [hlen, List.map_append]; exact ver
                        · rcases ved with ⟨e1, _⟩ | ⟨h1, _⟩
                          · subst e1
                            exact hdis k hk (own_any hk2)
                          · have h5 := (ho4.lt k hk).2
                            have h6 := h1 k hk2
                            omega
                      clear hMb ho4 hvr ver veK ved hA5 hR
                      go_wp2_with fail
                      go_roundg (gk - 1)
                      case measure => omega
                      case rel => exact ⟨k + 1, f2, x2, g2, y2, _, by omega, by go_num, HBF2, HBG2, hMr, by rw [List.length_append, hq.out]; simp; omega, Lib.hid (HD.out.app hno2), HX2, HY2⟩
              · clear HA
                by_cases hkd : kd = 1
                · subst hkd
                  obtain ⟨d, hdq, rfl, hnd⟩ := hPr
                  have hdL : d < L.length := by rw [hq.out]; exact hdq
                  have hdx := del_o hMa.xo hSh ky hky
                  have hdy := fun w1 (h : Ow w w1 g y) => del_o h hSh ky hky
                  rw [HX.out.at_some hdL hnd, HBF.out] at hdx
                  rw [HY.out.at_some hdL hnd, HBG.out] at hdy
                  simp only [Option.isSome_some] at hdx hdy
                  go_wp2_with fail
                  refine hdx.mono ?_
                  rintro e w4 ⟨rfl, hO4, hp4, hK4⟩
                  have hM4 := hMa.mapx (From.refl _ _) hO4 hK4
                  have hA4 := At.kp hK4 hAt (act_fp hMa.xo hAt)
                  have hB1 : w4.cell? ⟨bA, 1, none⟩ = some (.string ky) := hA4.cell rfl
                  have HX2 : Hid (Tells (del x ky).1 (L.eraseIdx d)) := Lib.hid (HX.out.era HD.out hdL (by rw [hnd]; exact hp4)).1
                  generalize (del x ky).1 = x2 at *
                  clear hdx hp4 hK4 hO4 hA0 hA1 hA2 hMa hAt
                  go_wp2_with fail
                  refine (hdy _ hM4.yo).mono ?_
                  rintro e w5 ⟨rfl, hO5, hp5, hK5⟩
                  have hMb := hM4.mapy (From.refl _ _) hO5 hK5
                  have HY2 : Hid (Tells (del y ky).1 (L.eraseIdx d)) := Lib.hid (HY.out.era HD.out hdL (by rw [hnd]; exact hp5)).1
                  generalize (del y ky).1 = y2 at *
                  clear hdy hp5 hK5 hO5 hM4 hA4 hB1
                  have hkr5 := hMb.kr
                  have hvr5 := hMb.vr
                  rw [hq.out] at hkr5 hvr5
                  obtain ⟨gkb, e1, hgk, hRk0⟩ := row_at hkr5 (by omega)
                  obtain ⟨gv, e2, hgv, hRv⟩ := row_at hvr5 (by omega)
                  subst e1
                  subst e2
                  have hKL : Hid ((L.map fun p => strV p.1).length = q) := Lib.hid (by rw [List.length_map, hq.out])
                  have hVL : Hid ((L.map fun p => strV p.2).length = q) := Lib.hid (by rw [List.length_map, hq.out])
                  have hKO : Hid (∀ u ∈ L.map fun p => strV p.1, u.oneCell' = true) := Lib.hid (fun u hu => by obtain ⟨s, _, rfl⟩ := List.mem_map.1 hu; rfl)
                  have hVO : Hid (∀ u ∈ L.map fun p => strV p.2, u.oneCell' = true) := Lib.hid (fun u hu => by obtain ⟨s, _, rfl⟩ := List.mem_map.1 hu; rfl)
                  have hw5 : w.heap.size ≤ w5.heap.size := hMb.xo.ext.size
                  have hq6 : q ≤ 600 := by omega
                  obtain ⟨q1, hq1⟩ : ∃ q1, Hid (0 + d + (q - (d + 1)) = q1) := ⟨_, Lib.hid rfl⟩
                  go_wp2_with fail
                  have hRk := hRk0
                  have hXL := hKL
                  have hON := hKO
                  obtain ⟨hcap1, hcap2⟩ := own_cap hkr5
                  by_cases hcz : ck = d + 1
                  · have hqd : q ≤ d + 1 := by omega
                    subst hcz
                    go_wp2_with fail

                    apply Rg.regionL (Ext) [⟨fun v W => ∃ b, v = .slice (some ⟨b, 0, none⟩) 0 0 ∧ At W b #[] 9 ∧ w5.heap.size ≤ b, fun v W W2 h hr => let ⟨b, e, hc, hl⟩ := h; ⟨b, e, At.ext hr hc, hl⟩⟩, .c _ _, .c _ _, .c _ _, ⟨fun v W => ∃ p c, v = .slice p (0 + d) c ∧ p ≠ none ∧ W.ownsRow w5.heap.size 9 1 (.slice p (0 + d) c) (0 + d) ([] ++ (L.map fun p => strV p.1).take d), fun v W W2 h hr => let ⟨p, c, e, hp, ho⟩ := h; ⟨p, c, e, hp, row_ext ho hr⟩⟩, .c _ _, .c _ _, .c _ _, .c _ _]
                      [(some 90, 0), (some 91, 1), (some 92, 2), (some 93, 3), (some 94, 4), (some 95, 5), (some 96, 6), (some 97, 7), (some 98, 8)]
                      [[], [], [], [(some 91, 1), (some 92, 2)], [(some 90, 0), (some 93, 3)], [], [], [(some 96, 6)], [(some 95, 5), (some 97, 7)]]
                      (by kernel_rfl) (by kernel_rfl) Ext.refl Ext.trans
                    case hops =>
                      refine ⟨?_, ?_, ?_, ?_, ?_, ?_, ?_, ?_, ?_, trivial⟩
                      · intro vs W hR 
                        simp only [Rg.Deps, Rg.frameE, List.foldl]
                        go_wp2
                        exact ⟨_, rfl, Ext.alloc _ _, _, rfl, At.new W _ _, by have := hR.size; simpa using this⟩
                      · intro vs W hR 
                        simp only [Rg.Deps, Rg.frameE, List.foldl]
                        go_wp2
                        exact ⟨_, rfl, Ext.refl _, rfl⟩
                      · intro vs W hR 
                        simp only [Rg.Deps, Rg.frameE, List.foldl]
                        go_wp2
                        exact ⟨_, rfl, Ext.refl _, rfl⟩
                      · intro vs W hR h1 h2
                        replace h1 : vs 1 = _ := h1
                        replace h2 : vs 2 = _ := h2
                        simp only [Rg.Deps, Rg.frameE, List.foldl, h1, h2]
                        go_wp2
                        exact ⟨_, rfl, Ext.refl _, rfl⟩
                      · intro vs W hR h0 h3
                        obtain ⟨bz, h0, hAz, hlz⟩ := h0
                        replace h3 : vs 3 = _ := h3
                        simp only [Rg.Deps, Rg.frameE, List.foldl, h0, h3]
                        have hRw := Row.kp hRk (Ext.trans _ _ _ (Ext.drew _) hR) (fun f => f)
                        have hszz := hR.size
                        simp only [World.size_drew] at hszz
                        have hown0 := own_empty (base := w5.heap.size) hAz hlz
                        refine appX (z := .string ByteArray.empty) (sz := 1) (bytes := 16) rfl _ _ 30 rfl w5.heap.size 9 info9 Tryd.underlying30 (by rfl) (by decide) (by decide) (some ⟨bz, 0, none⟩) 0 0 [] rfl hown0 ⟨gkb, 0, none⟩ d (d + 1) ((L.map fun p => strV p.1).take d) rfl (by rw [List.length_take, hXL.out]; omega) (row_news hRw _ 0 (fun j u hj => by rw [Nat.zero_add]; rw [List.getElem?_take] at hj; split at hj; exact hj; cases hj)) (fun u hu => hON.out u (List.mem_of_mem_take hu)) (.inr (by simp)) (by omega) hszz ?_
                        intro p4 c4 w6 hown6 hK6 hp6 hdi
                        have hE6 := ext_empty hAz hown6 hK6 hdi
                        exact ⟨_, rfl, hE6, p4, c4, rfl, hp6, hown6⟩
                      · intro vs W hR 
                        simp only [Rg.Deps, Rg.frameE, List.foldl]
                        go_wp2
                        exact ⟨_, rfl, Ext.refl _, rfl⟩
                      · intro vs W hR 
                        simp only [Rg.Deps, Rg.frameE, List.foldl]
                        go_wp2
                        exact ⟨_, rfl, Ext.refl _, rfl⟩
                      · intro vs W hR h6
                        replace h6 : vs 6 = _ := h6
                        simp only [Rg.Deps, Rg.frameE, List.foldl, h6]
                        go_wp2
                        exact ⟨_, rfl, Ext.refl _, rfl⟩
                      · intro vs W hR h5 h7
                        replace h5 : vs 5 = _ := h5
                        replace h7 : vs 7 = _ := h7
                        simp only [Rg.Deps, Rg.frameE, List.foldl, h5, h7]
                        go_wp2
                        exact ⟨_, rfl, Ext.refl _, rfl⟩
                    case htail =>
                      intro vs W hR h0 h1 h2 h3 h4 h5 h6 h7 h8
                      obtain ⟨bz, h0, hAz, hlz⟩ := h0
                      replace h1 : vs 1 = _ := h1
                      replace h2 : vs 2 = _ := h2
                      replace h3 : vs 3 = _ := h3
                      obtain ⟨p4, c4, h4, hp4, ho4⟩ := h4
                      replace h5 : vs 5 = _ := h5
                      replace h6 : vs 6 = _ := h6
                      replace h7 : vs 7 = _ := h7
                      replace h8 : vs 8 = _ := h8
                      simp only [Rg.Facts, Rg.frameE, List.foldl, List.drop, List.length, h0, h1, h2, h3, h4, h5, h6, h7, h8]
                      clear h0 h1 h2 h3 h4 h5 h6 h7 h8
                      simp only [Act.put, List.setIfInBounds_toArray, List.set_cons_zero, List.set_cons_succ]
                      have hEW := Ext.trans _ _ _ (Ext.drew _) hR
                      have hRw := Row.kp hRk hEW (fun f => f)
                      have hszW := hEW.size
                      clear hR hAz hlz
                      refine appX (z := .string ByteArray.empty) (sz := 1) (bytes := 16) rfl _ _ 30 rfl w5.heap.size 9 info9 Tryd.underlying30 (by rfl) (by decide) (by decide) p4 (0 + d) c4 ([] ++ (L.map fun p => strV p.1).take d) rfl ho4 ⟨gkb, 0, none⟩ 0 _ ((L.map fun p => strV p.1).drop (d + 1)) rfl (by rw [List.length_drop, hXL.out]; omega) (row_news hRw _ 0 (fun j u hj => by have := (List.getElem?_eq_some_iff.1 hj).1; rw [List.length_drop, hXL.out] at this; omega)) (fun u hu => hON.out u (List.mem_of_mem_drop hu)) (.inr hp4) (by omega) hszW ?_
                      intro kep kec kew keo keK ken _
                      rw [show 0 + d + 0 = q1 by have := hq1.out; omega] at keo ⊢
                      have keE : Ext w5 kew := Kp.own hEW ho4 keK (Nat.le_refl _)
                      have ker := keo
                      rw [List.nil_append, ← map_fst_era] at ker
                      clear keo hEW hRw ho4 keK hp4 hcap1 hcap2
                      try clear hqd
                      have hRk := Row.kp hRv keE (fun f => f)
                      have hXL := hVL
                      have hON := hVO
                      obtain ⟨hcap1, hcap2⟩ := own_cap hvr5
                      by_cases hcz : cv = d + 1
                      · have hqd : q ≤ d + 1 := by omega
                        subst hcz
                        go_wp2_with fail

                        apply Rg.regionL (Ext) [⟨fun v W => ∃ b, v = .slice (some ⟨b, 0, none⟩) 0 0 ∧ At W b #[] 9 ∧ kew.heap.size ≤ b, fun v W W2 h hr => let ⟨b, e, hc, hl⟩ := h; ⟨b, e, At.ext hr hc, hl⟩⟩, .c _ _, .c _ _, .c _ _, ⟨fun v W => ∃ p c, v = .slice p (0 + d) c ∧ p ≠ none ∧ W.ownsRow kew.heap.size 9 1 (.slice p (0 + d) c) (0 + d) ([] ++ (L.map fun p => strV p.2).take d), fun v W W2 h hr => let ⟨p, c, e, hp, ho⟩ := h; ⟨p, c, e, hp, row_ext ho hr⟩⟩, .c _ _, .c _ _, .c _ _, .c _ _]
                          [(some 100, 0), (some 101, 1), (some 102, 2), (some 103, 3), (some 104, 4), (some 105, 5), (some 106, 6), (some 107, 7), (some 108, 8)]
                          [[], [], [], [(some 101, 1), (some 102, 2)], [(some 100, 0), (some 103, 3)], [], [], [(some 106, 6)], [(some 105, 5), (some 107, 7)]]
                          (by kernel_rfl) (by kernel_rfl) Ext.refl Ext.trans
                        case hops =>
                          refine ⟨?_, ?_, ?_, ?_, ?_, ?_, ?_, ?_, ?_, trivial⟩
                          · intro vs W hR 
                            simp only [Rg.Deps, Rg.frameE, List.foldl]
                            go_wp2
                            exact ⟨_, rfl, Ext.alloc _ _, _, rfl, At.new W _ _, by have := hR.size; simpa using this⟩
                          · intro vs W hR 
                            simp only [Rg.Deps, Rg.frameE, List.foldl]
                            go_wp2
                            exact ⟨_, rfl, Ext.refl _, rfl⟩
                          · intro vs W hR 
                            simp only [Rg.Deps, Rg.frameE, List.foldl]
                            go_wp2
                            exact ⟨_, rfl, Ext.refl _, rfl⟩
                          · intro vs W hR h1 h2
                            replace h1 : vs 1 = _ := h1
                            replace h2 : vs 2 = _ := h2
                            simp only [Rg.Deps, Rg.frameE, List.foldl, h1, h2]
                            go_wp2
                            exact ⟨_, rfl, Ext.refl _, rfl⟩
                          · intro vs W hR h0 h3
                            obtain ⟨bz, h0, hAz, hlz⟩ := h0
                            replace h3 : vs 3 = _ := h3
                            simp only [Rg.Deps, Rg.frameE, List.foldl, h0, h3]
                            have hRw := Row.kp hRk (Ext.trans _ _ _ (Ext.drew _) hR) (fun f => f)
                            have hszz := hR.size
                            simp only [World.size_drew] at hszz
                            have hown0 := own_empty (base := kew.heap.size) hAz hlz
                            refine appX (z := .string ByteArray.empty) (sz := 1) (bytes := 16) rfl _ _ 30 rfl kew.heap.size 9 info9 Tryd.underlying30 (by rfl) (by decide) (by decide) (some ⟨bz, 0, none⟩) 0 0 [] rfl hown0 ⟨gv, 0, none⟩ d (d + 1) ((L.map fun p => strV p.2).take d) rfl (by rw [List.length_take, hXL.out]; omega) (row_news hRw _ 0 (fun j u hj => by rw [Nat.zero_add]; rw [List.getElem?_take] at hj; split at hj; exact hj; cases hj)) (fun u hu => hON.out u (List.mem_of_mem_take hu)) (.inr (by simp)) (by omega) hszz ?_
                            intro p4 c4 w6 hown6 hK6 hp6 hdi
                            have hE6 := ext_empty hAz hown6 hK6 hdi
                            exact ⟨_, rfl, hE6, p4, c4, rfl, hp6, hown6⟩
                          · intro vs W hR 
                            simp only [Rg.Deps, Rg.frameE, List.foldl]
                            go_wp2
                            exact ⟨_, rfl, Ext.refl _, rfl⟩
                          · intro vs W hR 
                            simp only [Rg.Deps, Rg.frameE, List.foldl]
                            go_wp2
                            exact ⟨_, rfl, Ext.refl _, rfl⟩
                          · intro vs W hR h6
                            replace h6 : vs 6 = _ := h6
                            simp only [Rg.Deps, Rg.frameE, List.foldl, h6]
                            go_wp2
                            exact ⟨_, rfl, Ext.refl _, rfl⟩
                          · intro vs W hR h5 h7
                            replace h5 : vs 5 = _ := h5
                            replace h7 : vs 7 = _ := h7
                            simp only [Rg.Deps, Rg.frameE, List.foldl, h5, h7]
                            go_wp2
                            exact ⟨_, rfl, Ext.refl _, rfl⟩
                        case htail =>
                          intro vs W hR h0 h1 h2 h3 h4 h5 h6 h7 h8
                          obtain ⟨bz, h0, hAz, hlz⟩ := h0
                          replace h1 : vs 1 = _ := h1
                          replace h2 : vs 2 = _ := h2
                          replace h3 : vs 3 = _ := h3
                          obtain ⟨p4, c4, h4, hp4, ho4⟩ := h4
                          replace h5 : vs 5 = _ := h5
                          replace h6 : vs 6 = _ := h6
                          replace h7 : vs 7 = _ := h7
                          replace h8 : vs 8 = _ := h8
                          simp only [Rg.Facts, Rg.frameE, List.foldl, List.drop, List.length, h0, h1, h2, h3, h4, h5, h6, h7, h8]
                          clear h0 h1 h2 h3 h4 h5 h6 h7 h8
                          simp only [Act.put, List.setIfInBounds_toArray, List.set_cons_zero, List.set_cons_succ]
                          have hEW := Ext.trans _ _ _ (Ext.drew _) hR
                          have hRw := Row.kp hRk hEW (fun f => f)
                          have hszW := hEW.size
                          clear hR hAz hlz
                          refine appX (z := .string ByteArray.empty) (sz := 1) (bytes := 16) rfl _ _ 30 rfl kew.heap.size 9 info9 Tryd.underlying30 (by rfl) (by decide) (by decide) p4 (0 + d) c4 ([] ++ (L.map fun p => strV p.2).take d) rfl ho4 ⟨gv, 0, none⟩ 0 _ ((L.map fun p => strV p.2).drop (d + 1)) rfl (by rw [List.length_drop, hXL.out]; omega) (row_news hRw _ 0 (fun j u hj => by have := (List.getElem?_eq_some_iff.1 hj).1; rw [List.length_drop, hXL.out] at this; omega)) (fun u hu => hON.out u (List.mem_of_mem_drop hu)) (.inr hp4) (by omega) hszW ?_
                          intro vep vec vew veo veK ven _
                          rw [show 0 + d + 0 = q1 by have := hq1.out; omega] at veo ⊢
                          have veE : Ext kew vew := Kp.own hEW ho4 veK (Nat.le_refl _)
                          have ver := veo
                          rw [List.nil_append, ← map_snd_era] at ver
                          clear veo hEW hRw ho4 veK hp4 hcap1 hcap2
                          try clear hqd
                          have hMr : Ms w vew f x2 g y2 (.slice kep q1 kec) (.slice vep q1 vec) (L.eraseIdx d) := by
                            have hlen : (L.eraseIdx d).length = q1 := by have := hq1.out; rw [List.length_eraseIdx, if_pos hdL, hq.out]; omega
                            refine Ms.rows (S := none') hMb ?_ ?_ (Ext.trans _ _ _ keE veE) (fun k hk => hk.elim) (fun k hk hk2 => ?_)
                            · rw [hlen]; exact row_ext (row_base ker (Nat.le_trans hw5 (Nat.le_refl _))) veE
                            · rw [hlen]; exact row_base ver (Nat.le_trans hw5 keE.size)
                            · have h1 := (ker.lt k hk).2
                              have h2 := (ver.lt k hk2).1
                              omega
                          go_wp2_with fail
                          go_roundg (gk - 1)
                          case measure => omega
                          case rel => exact ⟨k + 1, f, x2, g, y2, _, by omega, by go_num, HBF, HBG, hMr, by rw [List.length_eraseIdx, if_pos hdL, hq.out]; omega, Lib.hid (HD.out.era hdL), HX2, HY2⟩
                      · have hcz2 : d + 1 < cv := by omega
                        clear hcz
                        go_wp2_with fail

                        apply Rg.regionL (Ext) [⟨fun v W => ∃ b, v = .slice (some ⟨b, 0, none⟩) 0 0 ∧ At W b #[] 9 ∧ kew.heap.size ≤ b, fun v W W2 h hr => let ⟨b, e, hc, hl⟩ := h; ⟨b, e, At.ext hr hc, hl⟩⟩, .c _ _, .c _ _, .c _ _, ⟨fun v W => ∃ p c, v = .slice p (0 + d) c ∧ p ≠ none ∧ W.ownsRow kew.heap.size 9 1 (.slice p (0 + d) c) (0 + d) ([] ++ (L.map fun p => strV p.2).take d), fun v W W2 h hr => let ⟨p, c, e, hp, ho⟩ := h; ⟨p, c, e, hp, row_ext ho hr⟩⟩, .c _ _, .c _ _, .c _ _, .c _ _]
                          [(some 100, 0), (some 101, 1), (some 102, 2), (some 103, 3), (some 104, 4), (some 105, 5), (some 106, 6), (some 107, 7), (some 108, 8)]
                          [[], [], [], [(some 101, 1), (some 102, 2)], [(some 100, 0), (some 103, 3)], [], [], [(some 106, 6)], [(some 105, 5), (some 107, 7)]]
                          (by kernel_rfl) (by kernel_rfl) Ext.refl Ext.trans
                        case hops =>
                          refine ⟨?_, ?_, ?_, ?_, ?_, ?_, ?_, ?_, ?_, trivial⟩
                          · intro vs W hR 
                            simp only [Rg.Deps, Rg.frameE, List.foldl]
                            go_wp2
                            exact ⟨_, rfl, Ext.alloc _ _, _, rfl, At.new W _ _, by have := hR.size; simpa using this⟩
                          · intro vs W hR 
                            simp only [Rg.Deps, Rg.frameE, List.foldl]
                            go_wp2
                            exact ⟨_, rfl, Ext.refl _, rfl⟩
                          · intro vs W hR 
                            simp only [Rg.Deps, Rg.frameE, List.foldl]
                            go_wp2
                            exact ⟨_, rfl, Ext.refl _, rfl⟩
                          · intro vs W hR h1 h2
                            replace h1 : vs 1 = _ := h1
                            replace h2 : vs 2 = _ := h2
                            simp only [Rg.Deps, Rg.frameE, List.foldl, h1, h2]
                            go_wp2
                            exact ⟨_, rfl, Ext.refl _, rfl⟩
                          · intro vs W hR h0 h3
                            obtain ⟨bz, h0, hAz, hlz⟩ := h0
                            replace h3 : vs 3 = _ := h3
                            simp only [Rg.Deps, Rg.frameE, List.foldl, h0, h3]
                            have hRw := Row.kp hRk (Ext.trans _ _ _ (Ext.drew _) hR) (fun f => f)
                            have hszz := hR.size
                            simp only [World.size_drew] at hszz
                            have hown0 := own_empty (base := kew.heap.size) hAz hlz
                            refine appX (z := .string ByteArray.empty) (sz := 1) (bytes := 16) rfl _ _ 30 rfl kew.heap.size 9 info9 Tryd.underlying30 (by rfl) (by decide) (by decide) (some ⟨bz, 0, none⟩) 0 0 [] rfl hown0 ⟨gv, 0, none⟩ d cv ((L.map fun p => strV p.2).take d) rfl (by rw [List.length_take, hXL.out]; omega) (row_news hRw _ 0 (fun j u hj => by rw [Nat.zero_add]; rw [List.getElem?_take] at hj; split at hj; exact hj; cases hj)) (fun u hu => hON.out u (List.mem_of_mem_take hu)) (.inr (by simp)) (by omega) hszz ?_
                            intro p4 c4 w6 hown6 hK6 hp6 hdi
                            have hE6 := ext_empty hAz hown6 hK6 hdi
                            exact ⟨_, rfl, hE6, p4, c4, rfl, hp6, hown6⟩
                          · intro vs W hR 
                            simp only [Rg.Deps, Rg.frameE, List.foldl]
                            go_wp2
                            exact ⟨_, rfl, Ext.refl _, rfl⟩
                          · intro vs W hR 
                            simp only [Rg.Deps, Rg.frameE, List.foldl]
                            go_wp2
                            exact ⟨_, rfl, Ext.refl _, rfl⟩
                          · intro vs W hR h6
                            replace h6 : vs 6 = _ := h6
                            simp only [Rg.Deps, Rg.frameE, List.foldl, h6]
                            go_wp2
                            exact ⟨_, rfl, Ext.refl _, rfl⟩
                          · intro vs W hR h5 h7
                            replace h5 : vs 5 = _ := h5
                            replace h7 : vs 7 = _ := h7
                            simp only [Rg.Deps, Rg.frameE, List.foldl, h5, h7]
                            go_wp2
                            exact ⟨_, rfl, Ext.refl _, rfl⟩
                        case htail =>
                          intro vs W hR h0 h1 h2 h3 h4 h5 h6 h7 h8
                          obtain ⟨bz, h0, hAz, hlz⟩ := h0
                          replace h1 : vs 1 = _ := h1
                          replace h2 : vs 2 = _ := h2
                          replace h3 : vs 3 = _ := h3
                          obtain ⟨p4, c4, h4, hp4, ho4⟩ := h4
                          replace h5 : vs 5 = _ := h5
                          replace h6 : vs 6 = _ := h6
                          replace h7 : vs 7 = _ := h7
                          replace h8 : vs 8 = _ := h8
                          simp only [Rg.Facts, Rg.frameE, List.foldl, List.drop, List.length, h0, h1, h2, h3, h4, h5, h6, h7, h8]
                          clear h0 h1 h2 h3 h4 h5 h6 h7 h8
                          simp only [Act.put, List.setIfInBounds_toArray, List.set_cons_zero, List.set_cons_succ]
                          have hEW := Ext.trans _ _ _ (Ext.drew _) hR
                          have hRw := Row.kp hRk hEW (fun f => f)
                          have hszW := hEW.size
                          clear hR hAz hlz
                          refine appX (z := .string ByteArray.empty) (sz := 1) (bytes := 16) rfl _ _ 30 rfl kew.heap.size 9 info9 Tryd.underlying30 (by rfl) (by decide) (by decide) p4 (0 + d) c4 ([] ++ (L.map fun p => strV p.2).take d) rfl ho4 ⟨gv, (d + 1), none⟩ (q - (d + 1)) _ ((L.map fun p => strV p.2).drop (d + 1)) rfl (by rw [List.length_drop, hXL.out]; omega) (row_news hRw _ (d + 1) (fun j u hj => by rw [List.getElem?_drop] at hj; exact hj)) (fun u hu => hON.out u (List.mem_of_mem_drop hu)) (.inr hp4) (by omega) hszW ?_
                          intro vep vec vew veo veK ven _
                          rw [show 0 + d + (q - (d + 1)) = q1 by have := hq1.out; omega] at veo ⊢
                          have veE : Ext kew vew := Kp.own hEW ho4 veK (Nat.le_refl _)
                          have ver := veo
                          rw [List.nil_append, ← map_snd_era] at ver
                          clear veo hEW hRw ho4 veK hp4 hcap1 hcap2
                          try clear hqd
                          have hMr : Ms w vew f x2 g y2 (.slice kep q1 kec) (.slice vep q1 vec) (L.eraseIdx d) := by
                            have hlen : (L.eraseIdx d).length = q1 := by have := hq1.out; rw [List.length_eraseIdx, if_pos hdL, hq.out]; omega
                            refine Ms.rows (S := none') hMb ?_ ?_ (Ext.trans _ _ _ keE veE) (fun k hk => hk.elim) (fun k hk hk2 => ?_)
                            · rw [hlen]; exact row_ext (row_base ker (Nat.le_trans hw5 (Nat.le_refl _))) veE
                            · rw [hlen]; exact row_base ver (Nat.le_trans hw5 keE.size)
                            · have h1 := (ker.lt k hk).2
                              have h2 := (ver.lt k hk2).1
                              omega
                          go_wp2_with fail
                          go_roundg (gk - 1)
                          case measure => omega
                          case rel => exact ⟨k + 1, f, x2, g, y2, _, by omega, by go_num, HBF, HBG, hMr, by rw [List.length_eraseIdx, if_pos hdL, hq.out]; omega, Lib.hid (HD.out.era hdL), HX2, HY2⟩
                  · have hcz2 : d + 1 < ck := by omega
                    clear hcz
                    go_wp2_with fail

                    apply Rg.regionL (Ext) [⟨fun v W => ∃ b, v = .slice (some ⟨b, 0, none⟩) 0 0 ∧ At W b #[] 9 ∧ w5.heap.size ≤ b, fun v W W2 h hr => let ⟨b, e, hc, hl⟩ := h; ⟨b, e, At.ext hr hc, hl⟩⟩, .c _ _, .c _ _, .c _ _, ⟨fun v W => ∃ p c, v = .slice p (0 + d) c ∧ p ≠ none ∧ W.ownsRow w5.heap.size 9 1 (.slice p (0 + d) c) (0 + d) ([] ++ (L.map fun p => strV p.1).take d), fun v W W2 h hr => let ⟨p, c, e, hp, ho⟩ := h; ⟨p, c, e, hp, row_ext ho hr⟩⟩, .c _ _, .c _ _, .c _ _, .c _ _]
                      [(some 90, 0), (some 91, 1), (some 92, 2), (some 93, 3), (some 94, 4), (some 95, 5), (some 96, 6), (some 97, 7), (some 98, 8)]
                      [[], [], [], [(some 91, 1), (some 92, 2)], [(some 90, 0), (some 93, 3)], [], [], [(some 96, 6)], [(some 95, 5), (some 97, 7)]]
                      (by kernel_rfl) (by kernel_rfl) Ext.refl Ext.trans
                    case hops =>
                      refine ⟨?_, ?_, ?_, ?_, ?_, ?_, ?_, ?_, ?_, trivial⟩
                      · intro vs W hR 
                        simp only [Rg.Deps, Rg.frameE, List.foldl]
                        go_wp2
                        exact ⟨_, rfl, Ext.alloc _ _, _, rfl, At.new W _ _, by have := hR.size; simpa using this⟩
                      · intro vs W hR 
                        simp only [Rg.Deps, Rg.frameE, List.foldl]
                        go_wp2
                        exact ⟨_, rfl, Ext.refl _, rfl⟩
                      · intro vs W hR 
                        simp only [Rg.Deps, Rg.frameE, List.foldl]
                        go_wp2
                        exact ⟨_, rfl, Ext.refl _, rfl⟩
                      · intro vs W hR h1 h2
                        replace h1 : vs 1 = _ := h1
                        replace h2 : vs 2 = _ := h2
                        simp only [Rg.Deps, Rg.frameE, List.foldl, h1, h2]
                        go_wp2
                        exact ⟨_, rfl, Ext.refl _, rfl⟩
                      · intro vs W hR h0 h3
                        obtain ⟨bz, h0, hAz, hlz⟩ := h0
                        replace h3 : vs 3 = _ := h3
                        simp only [Rg.Deps, Rg.frameE, List.foldl, h0, h3]
                        have hRw := Row.kp hRk (Ext.trans _ _ _ (Ext.drew _) hR) (fun f => f)
                        have hszz := hR.size
                        simp only [World.size_drew] at hszz
                        have hown0 := own_empty (base := w5.heap.size) hAz hlz
                        refine appX (z := .string ByteArray.empty) (sz := 1) (bytes := 16) rfl _ _ 30 rfl w5.heap.size 9 info9 Tryd.underlying30 (by rfl) (by decide) (by decide) (some ⟨bz, 0, none⟩) 0 0 [] rfl hown0 ⟨gkb, 0, none⟩ d ck ((L.map fun p => strV p.1).take d) rfl (by rw [List.length_take, hXL.out]; omega) (row_news hRw _ 0 (fun j u hj => by rw [Nat.zero_add]; rw [List.getElem?_take] at hj; split at hj; exact hj; cases hj)) (fun u hu => hON.out u (List.mem_of_mem_take hu)) (.inr (by simp)) (by omega) hszz ?_
                        intro p4 c4 w6 hown6 hK6 hp6 hdi
                        have hE6 := ext_empty hAz hown6 hK6 hdi
                        exact ⟨_, rfl, hE6, p4, c4, rfl, hp6, hown6⟩
                      · intro vs W hR 
                        simp only [Rg.Deps, Rg.frameE, List.foldl]
                        go_wp2
                        exact ⟨_, rfl, Ext.refl _, rfl⟩
                      · intro vs W hR 
                        simp only [Rg.Deps, Rg.frameE, List.foldl]
                        go_wp2
                        exact ⟨_, rfl, Ext.refl _, rfl⟩
                      · intro vs W hR h6
                        replace h6 : vs 6 = _ := h6
                        simp only [Rg.Deps, Rg.frameE, List.foldl, h6]
                        go_wp2
                        exact ⟨_, rfl, Ext.refl _, rfl⟩
                      · intro vs W hR h5 h7
                        replace h5 : vs 5 = _ := h5
                        replace h7 : vs 7 = _ := h7
                        simp only [Rg.Deps, Rg.frameE, List.foldl, h5, h7]
                        go_wp2
                        exact ⟨_, rfl, Ext.refl _, rfl⟩
                    case htail =>
                      intro vs W hR h0 h1 h2 h3 h4 h5 h6 h7 h8
                      obtain ⟨bz, h0, hAz, hlz⟩ := h0
                      replace h1 : vs 1 = _ := h1
                      replace h2 : vs 2 = _ := h2
                      replace h3 : vs 3 = _ := h3
                      obtain ⟨p4, c4, h4, hp4, ho4⟩ := h4
                      replace h5 : vs 5 = _ := h5
                      replace h6 : vs 6 = _ := h6
                      replace h7 : vs 7 = _ := h7
                      replace h8 : vs 8 = _ := h8
                      simp only [Rg.Facts, Rg.frameE, List.foldl, List.drop, List.length, h0, h1, h2, h3, h4, h5, h6, h7, h8]
                      clear h0 h1 h2 h3 h4 h5 h6 h7 h8
                      simp only [Act.put, List.setIfInBounds_toArray, List.set_cons_zero, List.set_cons_succ]
                      have hEW := Ext.trans _ _ _ (Ext.drew _) hR
                      have hRw := Row.kp hRk hEW (fun f => f)
                      have hszW := hEW.size
                      clear hR hAz hlz
                      refine appX (z := .string ByteArray.empty) (sz := 1) (bytes := 16) rfl _ _ 30 rfl w5.heap.size 9 info9 Tryd.underlying30 (by rfl) (by decide) (by decide) p4 (0 + d) c4 ([] ++ (L.map fun p => strV p.1).take d) rfl ho4 ⟨gkb, (d + 1), none⟩ (q - (d + 1)) _ ((L.map fun p => strV p.1).drop (d + 1)) rfl (by rw [List.length_drop, hXL.out]; omega) (row_news hRw _ (d + 1) (fun j u hj => by rw [List.getElem?_drop] at hj; exact hj)) (fun u hu => hON.out u (List.mem_of_mem_drop hu)) (.inr hp4) (by omega) hszW ?_
                      intro kep kec kew keo keK ken _
                      rw [show 0 + d + (q - (d + 1)) = q1 by have := hq1.out; omega] at keo ⊢
                      have keE : Ext w5 kew := Kp.own hEW ho4 keK (Nat.le_refl _)
                      have ker := keo
                      rw [List.nil_append, ← map_fst_era] at ker
                      clear keo hEW hRw ho4 keK hp4 hcap1 hcap2
                      try clear hqd
                      have hRk := Row.kp hRv keE (fun f => f)
                      have hXL := hVL
                      have hON := hVO
                      obtain ⟨hcap1, hcap2⟩ := own_cap hvr5
                      by_cases hcz : cv = d + 1
                      · have hqd : q ≤ d + 1 := by omega
                        subst hcz
                        go_wp2_with fail

                        apply Rg.regionL (Ext) [⟨fun v W => ∃ b, v = .slice (some ⟨b, 0, none⟩) 0 0 ∧ At W b #[] 9 ∧ kew.heap.size ≤ b, fun v W W2 h hr => let ⟨b, e, hc, hl⟩ := h; ⟨b, e, At.ext hr hc, hl⟩⟩, .c _ _, .c _ _, .c _ _, ⟨fun v W => ∃ p c, v = .slice p (0 + d) c ∧ p ≠ none ∧ W.ownsRow kew.heap.size 9 1 (.slice p (0 + d) c) (0 + d) ([] ++ (L.map fun p => strV p.2).take d), fun v W W2 h hr => let ⟨p, c, e, hp, ho⟩ := h; ⟨p, c, e, hp, row_ext ho hr⟩⟩, .c _ _, .c _ _, .c _ _, .c _ _]
                          [(some 100, 0), (some 101, 1), (some 102, 2), (some 103, 3), (some 104, 4), (some 105, 5), (some 106, 6), (some 107, 7), (some 108, 8)]
                          [[], [], [], [(some 101, 1), (some 102, 2)], [(some 100, 0), (some 103, 3)], [], [], [(some 106, 6)], [(some 105, 5), (some 107, 7)]]
                          (by kernel_rfl) (by kernel_rfl) Ext.refl Ext.trans
                        case hops =>
                          refine ⟨?_, ?_, ?_, ?_, ?_, ?_, ?_, ?_, ?_, trivial⟩
                          · intro vs W hR 
                            simp only [Rg.Deps, Rg.frameE, List.foldl]
                            go_wp2
                            exact ⟨_, rfl, Ext.alloc _ _, _, rfl, At.new W _ _, by have := hR.size; simpa using this⟩
                          · intro vs W hR 
                            simp only [Rg.Deps, Rg.frameE, List.foldl]
                            go_wp2
                            exact ⟨_, rfl, Ext.refl _, rfl⟩
                          · intro vs W hR 
                            simp only [Rg.Deps, Rg.frameE, List.foldl]
                            go_wp2
                            exact ⟨_, rfl, Ext.refl _, rfl⟩
                          · intro vs W hR h1 h2
                            replace h1 : vs 1 = _ := h1
                            replace h2 : vs 2 = _ := h2
                            simp only [Rg.Deps, Rg.frameE, List.foldl, h1, h2]
                            go_wp2
                            exact ⟨_, rfl, Ext.refl _, rfl⟩
                          · intro vs W hR h0 h3
                            obtain ⟨bz, h0, hAz, hlz⟩ := h0
                            replace h3 : vs 3 = _ := h3
                            simp only [Rg.Deps, Rg.frameE, List.foldl, h0, h3]
                            have hRw := Row.kp hRk (Ext.trans _ _ _ (Ext.drew _) hR) (fun f => f)
                            have hszz := hR.size
                            simp only [World.size_drew] at hszz
                            have hown0 := own_empty (base := kew.heap.size) hAz hlz
                            refine appX (z := .string ByteArray.empty) (sz := 1) (bytes := 16) rfl _ _ 30 rfl kew.heap.size 9 info9 Tryd.underlying30 (by rfl) (by decide) (by decide) (some ⟨bz, 0, none⟩) 0 0 [] rfl hown0 ⟨gv, 0, none⟩ d (d + 1) ((L.map fun p => strV p.2).take d) rfl (by rw [List.length_take, hXL.out]; omega) (row_news hRw _ 0 (fun j u hj => by rw [Nat.zero_add]; rw [List.getElem?_take] at hj; split at hj; exact hj; cases hj)) (fun u hu => hON.out u (List.mem_of_mem_take hu)) (.inr (by simp)) (by omega) hszz ?_
                            intro p4 c4 w6 hown6 hK6 hp6 hdi
                            have hE6 := ext_empty hAz hown6 hK6 hdi
                            exact ⟨_, rfl, hE6, p4, c4, rfl, hp6, hown6⟩
                          · intro vs W hR 
                            simp only [Rg.Deps, Rg.frameE, List.foldl]
                            go_wp2
                            exact ⟨_, rfl, Ext.refl _, rfl⟩
                          · intro vs W hR 
                            simp only [Rg.Deps, Rg.frameE, List.foldl]
                            go_wp2
                            exact ⟨_, rfl, Ext.refl _, rfl⟩
                          · intro vs W hR h6
                            replace h6 : vs 6 = _ := h6
                            simp only [Rg.Deps, Rg.frameE, List.foldl, h6]
                            go_wp2
                            exact ⟨_, rfl, Ext.refl _, rfl⟩
                          · intro vs W hR h5 h7
                            replace h5 : vs 5 = _ := h5
                            replace h7 : vs 7 = _ := h7
                            simp only [Rg.Deps, Rg.frameE, List.foldl, h5, h7]
                            go_wp2
                            exact ⟨_, rfl, Ext.refl _, rfl⟩
                        case htail =>
                          intro vs W hR h0 h1 h2 h3 h4 h5 h6 h7 h8
                          obtain ⟨bz, h0, hAz, hlz⟩ := h0
                          replace h1 : vs 1 = _ := h1
                          replace h2 : vs 2 = _ := h2
                          replace h3 : vs 3 = _ := h3
                          obtain ⟨p4, c4, h4, hp4, ho4⟩ := h4
                          replace h5 : vs 5 = _ := h5
                          replace h6 : vs 6 = _ := h6
                          replace h7 : vs 7 = _ := h7
                          replace h8 : vs 8 = _ := h8
                          simp only [Rg.Facts, Rg.frameE, List.foldl, List.drop, List.length, h0, h1, h2, h3, h4, h5, h6, h7, h8]
                          clear h0 h1 h2 h3 h4 h5 h6 h7 h8
                          simp only [Act.put, List.setIfInBounds_toArray, List.set_cons_zero, List.set_cons_succ]
                          have hEW := Ext.trans _ _ _ (Ext.drew _) hR
                          have hRw := Row.kp hRk hEW (fun f => f)
                          have hszW := hEW.size
                          clear hR hAz hlz
                          refine appX (z := .string ByteArray.empty) (sz := 1) (bytes := 16) rfl _ _ 30 rfl kew.heap.size 9 info9 Tryd.underlying30 (by rfl) (by decide) (by decide) p4 (0 + d) c4 ([] ++ (L.map fun p => strV p.2).take d) rfl ho4 ⟨gv, 0, none⟩ 0 _ ((L.map fun p => strV p.2).drop (d + 1)) rfl (by rw [List.length_drop, hXL.out]; omega) (row_news hRw _ 0 (fun j u hj => by have := (List.getElem?_eq_some_iff.1 hj).1; rw [List.length_drop, hXL.out] at this; omega)) (fun u hu => hON.out u (List.mem_of_mem_drop hu)) (.inr hp4) (by omega) hszW ?_
                          intro vep vec vew veo veK ven _
                          rw [show 0 + d + 0 = q1 by have := hq1.out; omega] at veo ⊢
                          have veE : Ext kew vew := Kp.own hEW ho4 veK (Nat.le_refl _)
                          have ver := veo
                          rw [List.nil_append, ← map_snd_era] at ver
                          clear veo hEW hRw ho4 veK hp4 hcap1 hcap2
                          try clear hqd
                          have hMr : Ms w vew f x2 g y2 (.slice kep q1 kec) (.slice vep q1 vec) (L.eraseIdx d) := by
                            have hlen : (L.eraseIdx d).length = q1 := by have := hq1.out; rw [List.length_eraseIdx, if_pos hdL, hq.out]; omega
                            refine Ms.rows (S := none') hMb ?_ ?_ (Ext.trans _ _ _ keE veE) (fun k hk => hk.elim) (fun k hk hk2 => ?_)
                            · rw [hlen]; exact row_ext (row_base ker (Nat.le_trans hw5 (Nat.le_refl _))) veE
                            · rw [hlen]; exact row_base ver (Nat.le_trans hw5 keE.size)
                            · have h1 := (ker.lt k hk).2
                              have h2 := (ver.lt k hk2).1
                              omega
                          go_wp2_with fail
                          go_roundg (gk - 1)
                          case measure => omega
                          case rel => exact ⟨k + 1, f, x2, g, y2, _, by omega, by go_num, HBF, HBG, hMr, by rw [List.length_eraseIdx, if_pos hdL, hq.out]; omega, Lib.hid (HD.out.era hdL), HX2, HY2⟩
                      · have hcz2 : d + 1 < cv := by omega
                        clear hcz
                        go_wp2_with fail

                        apply Rg.regionL (Ext) [⟨fun v W => ∃ b, v = .slice (some ⟨b, 0, none⟩) 0 0 ∧ At W b #[] 9 ∧ kew.heap.size ≤ b, fun v W W2 h hr => let ⟨b, e, hc, hl⟩ := h; ⟨b, e, At.ext hr hc, hl⟩⟩, .c _ _, .c _ _, .c _ _, ⟨fun v W => ∃ p c, v = .slice p (0 + d) c ∧ p ≠ none ∧ W.ownsRow kew.heap.size 9 1 (.slice p (0 + d) c) (0 + d) ([] ++ (L.map fun p => strV p.2).take d), fun v W W2 h hr => let ⟨p, c, e, hp, ho⟩ := h; ⟨p, c, e, hp, row_ext ho hr⟩⟩, .c _ _, .c _ _, .c _ _, .c _ _]
                          [(some 100, 0), (some 101, 1), (some 102, 2), (some 103, 3), (some 104, 4), (some 105, 5), (some 106, 6), (some 107, 7), (some 108, 8)]
                          [[], [], [], [(some 101, 1), (some 102, 2)], [(some 100, 0), (some 103, 3)], [], [], [(some 106, 6)], [(some 105, 5), (some 107, 7)]]
                          (by kernel_rfl) (by kernel_rfl) Ext.refl Ext.trans
                        case hops =>
                          refine ⟨?_, ?_, ?_, ?_, ?_, ?_, ?_, ?_, ?_, trivial⟩
                          · intro vs W hR 
                            simp only [Rg.Deps, Rg.frameE, List.foldl]
                            go_wp2
                            exact ⟨_, rfl, Ext.alloc _ _, _, rfl, At.new W _ _, by have := hR.size; simpa using this⟩
                          · intro vs W hR 
                            simp only [Rg.Deps, Rg.frameE, List.foldl]
                            go_wp2
                            exact ⟨_, rfl, Ext.refl _, rfl⟩
                          · intro vs W hR 
                            simp only [Rg.Deps, Rg.frameE, List.foldl]
                            go_wp2
                            exact ⟨_, rfl, Ext.refl _, rfl⟩
                          · intro vs W hR h1 h2
                            replace h1 : vs 1 = _ := h1
                            replace h2 : vs 2 = _ := h2
                            simp only [Rg.Deps, Rg.frameE, List.foldl, h1, h2]
                            go_wp2
                            exact ⟨_, rfl, Ext.refl _, rfl⟩
                          · intro vs W hR h0 h3
                            obtain ⟨bz, h0, hAz, hlz⟩ := h0
                            replace h3 : vs 3 = _ := h3
                            simp only [Rg.Deps, Rg.frameE, List.foldl, h0, h3]
                            have hRw := Row.kp hRk (Ext.trans _ _ _ (Ext.drew _) hR) (fun f => f)
                            have hszz := hR.size
                            simp only [World.size_drew] at hszz
                            have hown0 := own_empty (base := kew.heap.size) hAz hlz
                            refine appX (z := .string ByteArray.empty) (sz := 1) (bytes := 16) rfl _ _ 30 rfl kew.heap.size 9 info9 Tryd.underlying30 (by rfl) (by decide) (by decide) (some ⟨bz, 0, none⟩) 0 0 [] rfl hown0 ⟨gv, 0, none⟩ d cv ((L.map fun p => strV p.2).take d) rfl (by rw [List.length_take, hXL.out]; omega) (row_news hRw _ 0 (fun j u hj => by rw [Nat.zero_add]; rw [List.getElem?_take] at hj; split at hj; exact hj; cases hj)) (fun u hu => hON.out u (List.mem_of_mem_take hu)) (.inr (by simp)) (by omega) hszz ?_
                            intro p4 c4 w6 hown6 hK6 hp6 hdi
                            have hE6 := ext_empty hAz hown6 hK6 hdi
                            exact ⟨_, rfl, hE6, p4, c4, rfl, hp6, hown6⟩
                          · intro vs W hR 
                            simp only [Rg.Deps, Rg.frameE, List.foldl]
                            go_wp2
                            exact ⟨_, rfl, Ext.refl _, rfl⟩
                          · intro vs W hR 
                            simp only [Rg.Deps, Rg.frameE, List.foldl]
                            go_wp2
                            exact ⟨_, rfl, Ext.refl _, rfl⟩
                          · intro vs W hR h6
                            replace h6 : vs 6 = _ := h6
                            simp only [Rg.Deps, Rg.frameE, List.foldl, h6]
                            go_wp2
                            exact ⟨_, rfl, Ext.refl _, rfl⟩
                          · intro vs W hR h5 h7
                            replace h5 : vs 5 = _ := h5
                            replace h7 : vs 7 = _ := h7
                            simp only [Rg.Deps, Rg.frameE, List.foldl, h5, h7]
                            go_wp2
                            exact ⟨_, rfl, Ext.refl _, rfl⟩
                        case htail =>
                          intro vs W hR h0 h1 h2 h3 h4 h5 h6 h7 h8
                          obtain ⟨bz, h0, hAz, hlz⟩ := h0
                          replace h1 : vs 1 = _ := h1
                          replace h2 : vs 2 = _ := h2
                          replace h3 : vs 3 = _ := h3
                          obtain ⟨p4, c4, h4, hp4, ho4⟩ := h4
                          replace h5 : vs 5 = _ := h5
                          replace h6 : vs 6 = _ := h6
                          replace h7 : vs 7 = _ := h7
                          replace h8 : vs 8 = _ := h8
                          simp only [Rg.Facts, Rg.frameE, List.foldl, List.drop, List.length, h0, h1, h2, h3, h4, h5, h6, h7, h8]
                          clear h0 h1 h2 h3 h4 h5 h6 h7 h8
                          simp only [Act.put, List.setIfInBounds_toArray, List.set_cons_zero, List.set_cons_succ]
                          have hEW := Ext.trans _ _ _ (Ext.drew _) hR
                          have hRw := Row.kp hRk hEW (fun f => f)
                          have hszW := hEW.size
                          clear hR hAz hlz
                          refine appX (z := .string ByteArray.empty) (sz := 1) (bytes := 16) rfl _ _ 30 rfl kew.heap.size 9 info9 Tryd.underlying30 (by rfl) (by decide) (by decide) p4 (0 + d) c4 ([] ++ (L.map fun p => strV p.2).take d) rfl ho4 ⟨gv, (d + 1), none⟩ (q - (d + 1)) _ ((L.map fun p => strV p.2).drop (d + 1)) rfl (by rw [List.length_drop, hXL.out]; omega) (row_news hRw _ (d + 1) (fun j u hj => by rw [List.getElem?_drop] at hj; exact hj)) (fun u hu => hON.out u (List.mem_of_mem_drop hu)) (.inr hp4) (by omega) hszW ?_
                          intro vep vec vew veo veK ven _
                          rw [show 0 + d + (q - (d + 1)) = q1 by have := hq1.out; omega] at veo ⊢
                          have veE : Ext kew vew := Kp.own hEW ho4 veK (Nat.le_refl _)
                          have ver := veo
                          rw [List.nil_append, ← map_snd_era] at ver
                          clear veo hEW hRw ho4 veK hp4 hcap1 hcap2
                          try clear hqd
                          have hMr : Ms w vew f x2 g y2 (.slice kep q1 kec) (.slice vep q1 vec) (L.eraseIdx d) := by
                            have hlen : (L.eraseIdx d).length = q1 := by have := hq1.out; rw [List.length_eraseIdx, if_pos hdL, hq.out]; omega
                            refine Ms.rows (S := none') hMb ?_ ?_ (Ext.trans _ _ _ keE veE) (fun k hk => hk.elim) (fun k hk hk2 => ?_)
                            · rw [hlen]; exact row_ext (row_base ker (Nat.le_trans hw5 (Nat.le_refl _))) veE
                            · rw [hlen]; exact row_base ver (Nat.le_trans hw5 keE.size)
                            · have h1 := (ker.lt k hk).2
                              have h2 := (ver.lt k hk2).1
                              omega
                          go_wp2_with fail
                          go_roundg (gk - 1)
                          case measure => omega
                          case rel => exact ⟨k + 1, f, x2, g, y2, _, by omega, by go_num, HBF, HBG, hMr, by rw [List.length_eraseIdx, if_pos hdL, hq.out]; omega, Lib.hid (HD.out.era hdL), HX2, HY2⟩
                · have hkb : ((kd : Int) == 1) = false := by simpa using hkd
                  obtain ⟨d, hdq, rfl, hnd⟩ := hPr
                  have hdL : d < L.length := by rw [hq.out]; exact hdq
                  have hpx := put_o hMa.xo hSh ky hky vv hn6.1
                  have hpy := fun w1 (h : Ow w w1 g y) => put_o h hSh ky hky vv hn6.2
                  rw [HX.out.at_some hdL hnd, HBF.out] at hpx
                  rw [HY.out.at_some hdL hnd, HBG.out] at hpy
                  simp only [Option.isSome_some] at hpx hpy
                  unfold enc at hpx hpy
                  go_wp2_with fail
                  refine hpx.mono ?_
                  rintro e w4 ⟨rfl, f2, hF4, hO4, hp4, hK4⟩
                  have hM4 := hMa.mapx hF4 hO4 hK4
                  have hA4 := At.kp hK4 hAt (act_fp hMa.xo hAt)
                  have hB1 : w4.cell? ⟨bA, 1, none⟩ = some (.string ky) := hA4.cell rfl
                  have hB2 : w4.cell? ⟨bA, 2, none⟩ = some (.string vv) := hA4.cell rfl
                  have HBF2 : Hid (f2.b = bf) := Lib.hid (hF4.1.trans HBF.out)
                  have HX2 : Hid (Tells (put x ky vv).1 (L.set d (nm L d, vv))) := Lib.hid (HX.out.set HD.out hdL (by rw [hnd]; exact hp4)).1
                  generalize (put x ky vv).1 = x2 at *
                  clear hpx hp4 hK4 hO4 hA0 hA1 hA2 hMa hAt hF4
                  go_wp2_with fail
                  refine (hpy _ hM4.yo).mono ?_
                  rintro e w5 ⟨rfl, g2, hF5, hO5, hp5, hK5⟩
                  have hMb := hM4.mapy hF5 hO5 hK5
                  have hA5 := At.kp hK5 hA4 (act_fp hM4.yo hA4)
                  have hC1 : w5.cell? ⟨bA, 1, none⟩ = some (.string ky) := hA5.cell rfl
                  have hC2 : w5.cell? ⟨bA, 2, none⟩ = some (.string vv) := hA5.cell rfl
                  have HBG2 : Hid (g2.b = bg) := Lib.hid (hF5.1.trans HBG.out)
                  have HY2 : Hid (Tells (put y ky vv).1 (L.set d (nm L d, vv))) := Lib.hid (HY.out.set HD.out hdL (by rw [hnd]; exact hp5)).1
                  generalize (put y ky vv).1 = y2 at *
                  clear hpy hp5 hK5 hO5 hM4 hA4 hB1 hB2 hF5
                  have hw5 : w.heap.size ≤ w5.heap.size := hMb.xo.ext.size
                  have hvr5 := hMb.vr
                  rw [hq.out] at hvr5
                  obtain ⟨gv, e2, hgv, hRv⟩ := row_at hvr5 (by omega)
                  subst e2
                  have hcd : w5.cell? ⟨gv, d, none⟩ = some (strV (vl L d)) := hRv.cell (by rw [List.getElem?_map, prs_at hdL]; rfl)
                  have hfd := hRv.frozen d
                  have hMr : Ms w (w5.setCell ⟨gv, d, none⟩ (.string vv)) f2 x2 g2 y2 (.slice pk q ck) (.slice (some ⟨gv, 0, none⟩) q cv) (L.set d (nm L d, vv)) := by
                    have hK : Kp (fun k => k = gv) w5 (w5.setCell ⟨gv, d, none⟩ (.string vv)) := Kp.setCell (S := fun k => k = gv) (a := ⟨gv, d, none⟩) (Kp.refl _ w5) (.inl rfl) _
                    have hlen : (L.set d (nm L d, vv)).length = q := by rw [List.length_set, hq.out]
                    have hkr := hMb.kr
                    have hvr := hMb.vr
                    rw [hq.out] at hkr hvr
                    refine Ms.rows hMb ?_ ?_ hK (fun k hk => .inr (.inl (by rw [hk]; rfl))) (fun k hk => hMb.kn k hk)
                    · rw [hlen, show (L.set d (nm L d, vv)).map (fun p => strV p.1) = L.map fun p => strV p.1 by
                        rw [List.map_set]; apply set_same; rw [List.getElem?_map, prs_at hdL]; rfl]
                      exact row_kp hkr hK (fun k hk e => hMb.kn k hk (by rw [e]; rfl))
                    · rw [hlen, List.map_set]; exact row_set hvr hdq
                  unfold strV at hcd
                  clear hMb hRv hA5 hC1
                  go_wp2_with fail
                  go_roundg (gk - 1)
                  case measure => omega
                  case rel => exact ⟨k + 1, f2, x2, g2, y2, _, by omega, by go_num, HBF2, HBG2, hMr, by rw [List.length_set, hq.out]; omega, Lib.hid (HD.out.set hdL vv), HX2, HY2⟩
        · obtain rfl : k = n := by omega
          have hlx := len_o hMs.xo
          have hly := fun w1 (h : Ow w w1 g y) => len_o h
          rw [HX.out.n, hq.out, HBF.out] at hlx
          rw [HY.out.n, hq.out, HBG.out] at hly
          have hkS := Sl.row hMs.kr
          have hvS := Sl.row hMs.vr
          clear hca
          go_wp2_with fail
          refine hlx.mono ?_
          rintro e w3 ⟨rfl, rfl⟩
          go_wp2_with fail
          refine (hly _ hMs.yo).mono ?_
          rintro e w4 ⟨rfl, rfl⟩
          go_wp2_with fail
          obtain ⟨wE, rfl⟩ : ∃ wE : World, wE = wr := ⟨_, rfl⟩
          clear hlx hly
          go_loopw [178] (fun i wr => ∃ j : Nat, j ≤ q ∧ i = .int .i64 j ∧ Ext wE wr) (fun i _ => q - (intOf i).toNat)
          case atStart => exact ⟨0, by omega, rfl, Ext.refl _⟩
          case round =>
            obtain ⟨j, hj, rfl, hE⟩ := hrel
            by_cases hlj : j < q
            · have hjL : j < L.length := by rw [hq.out]; exact hlj
              obtain ⟨p', c', ee, hc⟩ := id hkS
              obtain rfl : pk = p' := by injection ee
              obtain ⟨b3, o3, rfl, hc3⟩ := hc j (strV (nm L j)) (by rw [List.getElem?_map, prs_at hjL]; rfl)
              obtain ⟨p4, c4, e4, hc4⟩ := id hvS
              obtain rfl : pv = p4 := by injection e4
              obtain ⟨b5, o5, rfl, hc5⟩ := hc4 j (strV (vl L j)) (by rw [List.getElem?_map, prs_at hjL]; rfl)
              unfold strV at hc3 hc5
              have hc6 := hE.cell hc3
              have hc7 := hE.cell hc5
              have hmx : (nm L j).size ≤ maxLen := keys_size hMs.xo.inv _ ((mem_keys hMs.xo.inv).2 (by rw [HX.out.is j hjL]; rfl))
              have hgx := get_o (hMs.xo.next hE) (nm L j) hmx
              have hgy := fun w1 (h : Ow w w1 g y) => get_o h (nm L j) hmx
              rw [HX.out.is j hjL, HBF.out] at hgx
              rw [HY.out.is j hjL, HBG.out] at hgy
              unfold enc at hgx hgy
              have hyo := hMs.yo
              clear hc ee e4 hc3 hc4 hc5 hkS hvS hMs
              generalize nm L j = ky at *
              generalize vl L j = vv at *
              go_wp2_with fail
              refine hgx.mono ?_
              rintro e w5 ⟨rfl, _, hE5⟩
              have hE6 := Ext.trans _ _ _ hE hE5
              have hc8 := hE5.cell hc7
              clear hgx hc6 hc7 hE
              go_wp2_with fail
              refine (hgy _ (hyo.next hE6)).mono ?_
              rintro e w6 ⟨rfl, _, hE7⟩
              have hE8 := Ext.trans _ _ _ hE6 hE7
              have hc9 := hE7.cell hc8
              clear hgy hc8 hE6 hE5 hE7
              go_wp2_with fail
              exact ⟨⟨j + 1, by omega, by go_num, hE8⟩, by simp [intOf]; omega⟩
            · obtain rfl : j = q := by omega
              have hO5 := hMs.xo.next hE
              go_wp2_with fail
              refine (hL _ hO5.ext).mono ?_
              rintro e w9 ⟨rfl, hE9⟩
              go_wp2_with fail
              go_ret
              exact ⟨rfl, Ext.trans _ _ _ hO5.ext hE9⟩
end Go.Proofs.YtiopkkjcgdcgmaaDoor.s
end
