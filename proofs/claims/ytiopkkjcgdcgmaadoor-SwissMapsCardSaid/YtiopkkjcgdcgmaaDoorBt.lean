/- Slices that the call itself makes: rows that are owned. -/
import Derived.Test.YtiopkkjcgdcgmaaDoorBs
import Derived.WalkKit
import Derived.OwnWalk
import Derived.OwnWalkIn
namespace Go.Rg
open Go.RowKit
theorem row_kp {S : Nat → Prop} {w w' : World} {base : Nat} {e : TypeId} {sz : Nat} {v : Value} {n : Nat} {xs : List Value} (h : w.ownsRow base e sz v n xs) (hk : Kp S w w') (hne : ∀ k, v.ownBlock = some k → ¬ S k) : w'.ownsRow base e sz v n xs := by
  refine ⟨h.1, ?_⟩
  rcases h.2 with h | ⟨g, cap, cur, rfl, hb, hg, h1⟩
  · exact .inl h
  · exact .inr ⟨g, cap, cur, rfl, hb, hk.blk hg (hne g rfl), h1⟩
theorem row_ext {w w' : World} {base : Nat} {e : TypeId} {sz : Nat} {v : Value} {n : Nat} {xs : List Value} (h : w.ownsRow base e sz v n xs) (hk : Ext w w') : w'.ownsRow base e sz v n xs := row_kp h hk (fun _ _ f => f)
theorem row_base {w : World} {base base' : Nat} {e : TypeId} {sz : Nat} {v : Value} {n : Nat} {xs : List Value} (h : w.ownsRow base e sz v n xs) (hb : base' ≤ base) : w.ownsRow base' e sz v n xs := by
  refine ⟨h.1, ?_⟩
  rcases h.2 with h | ⟨g, cap, cur, rfl, hb', h1⟩
  · exact .inl h
  · exact .inr ⟨g, cap, cur, rfl, Nat.le_trans hb hb', h1⟩
theorem Kp.own {S : Nat → Prop} {x y z : World} {base : Nat} {e : TypeId} {sz : Nat} {v : Value} {n : Nat} {xs : List Value} (h : Kp S x y) (hr : y.ownsRow base e sz v n xs) (k : Kp (fun k => v.ownBlock = some k) y z) (hb : x.heap.size ≤ base) : Kp S x z :=
  h.join k fun b hb' e => by have := (hr.lt b e).1; omega

section
variable {P : Program} {w : World} {ops : Array Oper} {rest : List Oper} {o : Oper} {a : Act} {Q : Exit → Act → World → Prop}
theorem small_ok {n bytes : Nat} (hn : n < 4294967296) (hb : bytes ≤ 256) : n + 1 ≤ maxLen ∧ (n + 1) * bytes ≤ 140737488355328 := by
  refine ⟨by simp only [maxLen]; omega, ?_⟩
  have := Nat.mul_le_mul (show n + 1 ≤ 4294967296 by omega) hb
  omega
theorem small_ok' {n bytes : Nat} (hn : n ≤ 4294967296) (hb : bytes ≤ 256) : n ≤ maxLen ∧ n * bytes ≤ 140737488355328 := by
  refine ⟨by simp only [maxLen]; omega, ?_⟩
  have := Nat.mul_le_mul hn hb
  omega
theorem kp_grown {w w' : World} {v : Value} (h : w.grownBy w' v.ownBlock) : Kp (fun k => v.ownBlock = some k) w w' :=
  (Kp.refl _ w).grown h fun _ e => .inl e
theorem appL (hgd : o.guard = none) (s x : Operand) (t : TypeId) (ho : o.op = .call { callee := .builtin .append, args := #[s, x], argTypes := #[t, t] })
    (base : Nat) (e : TypeId) {z : Value} {sz bytes : Nat} (inf : (P.info? e).map (fun i => (i.zero, i.size, i.bytes)) = some (some z, sz, bytes)) (ht : P.underlying t = some (.slice e)) (hzs : z.cells.size = sz) (hsz : 0 < sz) (hbb : bytes ≤ 256)
    (v : Value) (n : Nat) (xs : List Value) (hs : a.eval s = v) (hown : w.ownsRow base e sz v n xs) (b c : Nat) (news : List Value) (hx : a.eval x = .slice (some ⟨b, 0, none⟩) 1 c)
    (hl : news.length = sz) (hnews : ∀ j u, news[j]? = some u → w.cell? ⟨b, j, none⟩ = some u) (h1 : ∀ u ∈ news, u.oneCell' = true) (hn : n < 4294967296) (hbase : base ≤ w.heap.size)
    (h : ∀ g cap w', w'.ownsRow base e sz (.slice (some ⟨g, 0, none⟩) (n + 1) cap) (n + 1) (xs ++ news) → Kp (fun k => v.ownBlock = some k) w w' → wpList P ops Q rest (a.put o.dst (.slice (some ⟨g, 0, none⟩) (n + 1) cap)) w') :
    wpList P ops Q (o :: rest) a w := by
  obtain ⟨i, hi, hz, h2, h3⟩ := info_parts inf
  refine wpList_append_own w hgd s x t ho base e i z sz bytes ht hi hz h2 h3 hzs hsz v n xs hs hown ⟨b, 0, none⟩ 1 c news hx (by omega) (fun j u hj => by have := hnews j u hj; by_cases hj0 : j = 0 <;> simp_all [Addr.add]) h1 (small_ok hn hbb).1 (small_ok hn hbb).2 hbase ?_
  intro v' w' ho' hg _
  rcases ho'.2 with ⟨_, h0⟩ | ⟨g, cap, _, rfl, _⟩
  · omega
  · exact h g cap w' ho' (kp_grown hg)
theorem appN (hgd : o.guard = none) (s x : Operand) (t : TypeId) (ho : o.op = .call { callee := .builtin .append, args := #[s, x], argTypes := #[t, t] })
    (base : Nat) (e : TypeId) {z : Value} {sz bytes : Nat} (inf : (P.info? e).map (fun i => (i.zero, i.size, i.bytes)) = some (some z, sz, bytes)) (ht : P.underlying t = some (.slice e)) (hzs : z.cells.size = sz) (hsz : 0 < sz) (hbb : bytes ≤ 256)
    (v : Value) (n : Nat) (xs : List Value) (hs : a.eval s = v) (hown : w.ownsRow base e sz v n xs) (b m c : Nat) (news : List Value) (hx : a.eval x = .slice (some ⟨b, 0, none⟩) m c)
    (hl : news.length = m * sz) (hm : 0 < m) (hnews : ∀ j u, news[j]? = some u → w.cell? ⟨b, j, none⟩ = some u) (h1 : ∀ u ∈ news, u.oneCell' = true) (hn : n + m ≤ 4294967296) (hbase : base ≤ w.heap.size)
    (h : ∀ g cap w', w'.ownsRow base e sz (.slice (some ⟨g, 0, none⟩) (n + m) cap) (n + m) (xs ++ news) → Kp (fun k => v.ownBlock = some k) w w' → wpList P ops Q rest (a.put o.dst (.slice (some ⟨g, 0, none⟩) (n + m) cap)) w') :
    wpList P ops Q (o :: rest) a w := by
  obtain ⟨i, hi, hz, h2, h3⟩ := info_parts inf
  refine wpList_append_own w hgd s x t ho base e i z sz bytes ht hi hz h2 h3 hzs hsz v n xs hs hown ⟨b, 0, none⟩ m c news hx hl (fun j u hj => by have := hnews j u hj; by_cases hj0 : j = 0 <;> simp_all [Addr.add]) h1 (small_ok' hn hbb).1 (small_ok' hn hbb).2 hbase ?_
  intro v' w' ho' hg _
  rcases ho'.2 with ⟨_, h0⟩ | ⟨g, cap, _, rfl, _⟩
  · omega
  · exact h g cap w' ho' (kp_grown hg)
theorem appLIn {F : Fence} {nF : Nat} (hgd : o.guard = none) (s x : Operand) (t : TypeId) (ho : o.op = .call { callee := .builtin .append, args := #[s, x], argTypes := #[t, t] })
    (base : Nat) (e : TypeId) {z : Value} {sz bytes : Nat} (inf : (P.info? e).map (fun i => (i.zero, i.size, i.bytes)) = some (some z, sz, bytes)) (ht : P.underlying t = some (.slice e)) (hzs : z.cells.size = sz) (hsz : 0 < sz) (hbb : bytes ≤ 256)
    (v : Value) (n : Nat) (xs : List Value) (hs : a.eval s = v) (hown : w.ownsRow base e sz v n xs) (b c : Nat) (news : List Value) (hx : a.eval x = .slice (some ⟨b, 0, none⟩) 1 c)
    (hl : news.length = sz) (hnews : ∀ j u, news[j]? = some u → w.cell? ⟨b, j, none⟩ = some u) (h1 : ∀ u ∈ news, u.oneCell' = true) (hn : n < 4294967296) (hbase : base ≤ w.heap.size)
    (h : ∀ g cap w', w'.ownsRow base e sz (.slice (some ⟨g, 0, none⟩) (n + 1) cap) (n + 1) (xs ++ news) → Kp (fun k => v.ownBlock = some k) w w' → wpListIn F nF P ops Q rest (a.put o.dst (.slice (some ⟨g, 0, none⟩) (n + 1) cap)) w') :
    wpListIn F nF P ops Q (o :: rest) a w := by
  obtain ⟨i, hi, hz, h2, h3⟩ := info_parts inf
  refine wpListIn_append_own w hgd s x t ho base e i z sz bytes ht hi hz h2 h3 hzs hsz v n xs hs hown ⟨b, 0, none⟩ 1 c news hx (by omega) (fun j u hj => by have := hnews j u hj; by_cases hj0 : j = 0 <;> simp_all [Addr.add]) h1 (small_ok hn hbb).1 (small_ok hn hbb).2 hbase ?_
  intro v' w' ho' hg _
  rcases ho'.2 with ⟨_, h0⟩ | ⟨g, cap, _, rfl, _⟩
  · omega
  · exact h g cap w' ho' (kp_grown hg)
end
theorem makeL {P : Program} {w : World} {ops : Array Oper} {rest : List Oper} {o : Oper} {a : Act} {Q : Exit → Act → World → Prop} (hgd : o.guard = none) (l c : Operand) (t : TypeId) (hop : o.op = Op.makeSlice t l c)
    (e : TypeId) {z : Value} {sz bytes : Nat} (inf : (P.info? e).map (fun i => (i.zero, i.size, i.bytes)) = some (some z, sz, bytes)) (ht : P.underlying t = some (.slice e)) (hbb : bytes ≤ 256)
    (kl kc : IntKind) (L C : Int) (n : Nat) (hl : a.eval l = .int kl L) (hc : a.eval c = .int kc C) (hL : L = (n : Int)) (hC : C = (n : Int)) (hn : n < 4294967296)
    (hK : ∀ w', At w' w.heap.size (madeCells z.cells (n * sz)) e → Ext w w' → wpList P ops Q rest (a.put o.dst (.slice (some ⟨w.heap.size, 0, none⟩) n n)) w') :
    wpList P ops Q (o :: rest) a w := by
  obtain ⟨i, hi, hz, h2, h3⟩ := info_parts inf
  have hb : i.bytes * n ≤ 281474976710656 := by
    rw [h3]
    have := Nat.mul_le_mul hbb (show n ≤ 4294967296 by omega)
    omega
  refine wpList_make_full w hgd l c t hop w.heap.size e i z sz ht hi hz h2 kl kc L C n hl hc hL hC hb (by simp only [maxLen]; omega) (Nat.le_refl _) ?_
  intro w' ho hg
  rcases ho.2 with ⟨h, _⟩ | ⟨g, cap, cur, hv, _, hh, _, _, hs, ht⟩
  · cases h
  · cases hv
    have he : cur = madeCells z.cells (n * sz) := by
      apply Array.toList_inj.1
      rw [← ht, List.take_of_length_le (by simp [hs])]
    rw [he] at hh
    exact hK w' hh ((Kp.refl _ w).grown hg fun _ e => by cases e)
theorem news1 {w : World} {b : Nat} {u : Value} (h : w.cell? ⟨b, 0, none⟩ = some u) : ∀ (j : Nat) (x : Value), [u][j]? = some x → w.cell? ⟨b, j, none⟩ = some x := by
  intro j x hj
  match j, hj with
  | 0, hj => simp at hj; subst hj; exact h
theorem news2 {w : World} {b : Nat} {u v : Value} (h : w.cell? ⟨b, 0, none⟩ = some u) (h1 : w.cell? ⟨b, 1, none⟩ = some v) : ∀ (j : Nat) (x : Value), [u, v][j]? = some x → w.cell? ⟨b, j, none⟩ = some x := by
  intro j x hj
  match j, hj with
  | 0, hj => simp at hj; subst hj; exact h
  | 1, hj => simp at hj; subst hj; exact h1
theorem one2 {u v : Value} (h : u.oneCell' = true) (h1 : v.oneCell' = true) : ∀ x ∈ [u, v], x.oneCell' = true := by
  intro x hx
  simp at hx
  rcases hx with rfl | rfl
  · exact h
  · exact h1
theorem one1 {u : Value} (h : u.oneCell' = true) : ∀ x ∈ [u], x.oneCell' = true := by intro x hx; simp at hx; subst hx; exact h
end Go.Rg
