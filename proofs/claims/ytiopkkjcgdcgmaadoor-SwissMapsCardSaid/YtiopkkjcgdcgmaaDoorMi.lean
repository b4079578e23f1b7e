/- The map in memory. -/
import Derived.Test.YtiopkkjcgdcgmaaDoorMp
import Derived.Test.YtiopkkjcgdcgmaaDoorRh
namespace Go.Proofs.YtiopkkjcgdcgmaaDoor
open Go.RowKit Go.Nm Go.Gp Go.Rg Go.Mp
/-- A block whose first cells are these. -/
def Row (w : World) (b : Nat) (T : TypeId) (xs : List Value) : Prop := ∃ cur : Array Value, At w b cur T ∧ xs <+: cur.toList
theorem Row.lt {w : World} {b : Nat} {T : TypeId} {xs : List Value} (h : Row w b T xs) : b < w.heap.size := let ⟨_, h, _⟩ := h; h.lt
theorem Row.cell {w : World} {b : Nat} {T : TypeId} {xs : List Value} (h : Row w b T xs) {j : Nat} {u : Value} (hj : xs[j]? = some u) : w.cell? ⟨b, j, none⟩ = some u := by
  obtain ⟨cur, hA, hp⟩ := h
  refine hA.cell ?_
  obtain ⟨r, hr⟩ := hp
  rw [← Array.getElem?_toList, ← hr, List.getElem?_append_left (List.getElem?_eq_some_iff.1 hj).1]; exact hj
theorem Row.frozen {w : World} {b : Nat} {T : TypeId} {xs : List Value} (h : Row w b T xs) (j : Nat) : w.frozen? ⟨b, j, none⟩ = false := let ⟨_, h, _⟩ := h; h.frozen j
theorem Row.kp {S : Nat → Prop} {w w' : World} {b : Nat} {T : TypeId} {xs : List Value} (h : Row w b T xs) (hk : Kp S w w') (hn : ¬ S b) : Row w' b T xs := let ⟨cur, hA, hp⟩ := h; ⟨cur, At.kp hk hA hn, hp⟩
theorem Row.set {w : World} {b : Nat} {T : TypeId} {xs : List Value} (h : Row w b T xs) {j : Nat} (hj : j < xs.length) (u : Value) : Row (w.setCell ⟨b, j, none⟩ u) b T (xs.set j u) := by
  obtain ⟨cur, hA, r, hr⟩ := h
  refine ⟨_, hA.set j u, r, ?_⟩
  rw [Array.toList_setIfInBounds, ← hr, List.set_append_left _ _ hj]
theorem Row.setO {w : World} {b : Nat} {T : TypeId} {xs : List Value} (h : Row w b T xs) {a : Addr} (hne : b ≠ a.block) (u : Value) : Row (w.setCell a u) b T xs := let ⟨cur, hA, hp⟩ := h; ⟨cur, hA.setO hne u, hp⟩
theorem Row.alloc {w : World} {b : Nat} {T : TypeId} {xs : List Value} (h : Row w b T xs) (o : Obj) : Row (w.alloc o) b T xs := let ⟨cur, hA, hp⟩ := h; ⟨cur, hA.alloc o, hp⟩
theorem Row.own {w : World} {base : Nat} {e : TypeId} {sz : Nat} {n : Nat} {xs : List Value} {g cap : Nat} (h : w.ownsRow base e sz (.slice (some ⟨g, 0, none⟩) n cap) n xs) : Row w g e xs := by
  rcases h.2 with ⟨h, _⟩ | ⟨g', cap', cur, hv, _, hg, _, _, _, ht⟩
  · cases h
  · cases hv
    exact ⟨cur, hg, by rw [← ht]; exact List.take_prefix _ _⟩
theorem Row.sl {w : World} {b : Nat} {T : TypeId} {xs : List Value} (h : Row w b T xs) (cap : Nat) {n : Nat} (hn : n = xs.length) : Sl w (.slice (some ⟨b, 0, none⟩) n cap) xs := by
  subst hn
  exact ⟨_, cap, rfl, fun j u hj => ⟨b, 0, rfl, by rw [Nat.zero_add]; exact h.cell hj⟩⟩

/-- Where a map lies. -/
structure Ft where
  b : Nat
  bw : Nat
  cw : Nat
  bs : Nat
  cs : Nat
def Ft.fp (f : Ft) : Nat → Prop := fun k => k = f.b ∨ k = f.bw ∨ k = f.bs
section
variable {α : Type} {enc : α → Value} {TM TS : TypeId}
def Ft.cells (f : Ft) (m : M α) : Array Value :=
  #[.int .u64 m.k0, .int .u64 m.k1, .slice (some ⟨f.bw, 0, none⟩) m.ws.length f.cw, .slice (some ⟨f.bs, 0, none⟩) (8 * m.ws.length) f.cs, .int .i64 m.n, .int .i64 m.t]
structure IsM (enc : α → Value) (TM TS : TypeId) (w : World) (f : Ft) (m : M α) : Prop where
  st : At w f.b (f.cells m) TM
  wd : Row w f.bw 22 (m.ws.map u64V)
  sl : Row w f.bs TS (slotCells enc m.sl)
  nz : f.b ≠ 0 ∧ f.bw ≠ 0 ∧ f.bs ≠ 0
  ne : f.b ≠ f.bw ∧ f.b ≠ f.bs ∧ f.bw ≠ f.bs
theorem IsM.lt {w : World} {f : Ft} {m : M α} (h : IsM enc TM TS w f m) {k : Nat} (hk : f.fp k) : k < w.heap.size := by
  rcases hk with rfl | rfl | rfl
  · exact h.st.lt
  · exact h.wd.lt
  · exact h.sl.lt
theorem IsM.kp {S : Nat → Prop} {w w' : World} {f : Ft} {m : M α} (h : IsM enc TM TS w f m) (hk : Kp S w w') (hn : ∀ k, f.fp k → ¬ S k) : IsM enc TM TS w' f m :=
  ⟨At.kp hk h.st (hn _ (.inl rfl)), h.wd.kp hk (hn _ (.inr (.inl rfl))), h.sl.kp hk (hn _ (.inr (.inr rfl))), h.nz, h.ne⟩
theorem IsM.ext {w w' : World} {f : Ft} {m : M α} (h : IsM enc TM TS w f m) (hk : Ext w w') : IsM enc TM TS w' f m := h.kp hk fun _ _ f => f
theorem IsM.alloc {w : World} {f : Ft} {m : M α} (h : IsM enc TM TS w f m) (o : Obj) : IsM enc TM TS (w.alloc o) f m := ⟨h.st.alloc o, h.wd.alloc o, h.sl.alloc o, h.nz, h.ne⟩
/-- What holds of every map that the program makes, as far as a walk needs it. -/
structure Small (m : M α) : Prop where
  k0 : m.k0 < U
  k1 : m.k1 < U
  pw : Pw m.ws.length
  sl : m.sl.length = 8 * m.ws.length
  w : ∀ x ∈ m.ws, x < U
  n : 0 ≤ m.n ∧ m.n ≤ 8192
  t : 0 ≤ m.t ∧ m.t ≤ 8192
  key : ∀ s ∈ m.sl, s.1.size ≤ maxLen
theorem Small.wlt [Inhabited α] {m : M α} (h : Small m) {g x : Nat} (hx : x < g) (hg : Hid (m.ws.length = g)) : m.w x < U := by
  have hx' : x < m.ws.length := by rw [hg.out]; exact hx
  unfold M.w
  rw [List.getD_eq_getElem?_getD, List.getElem?_eq_getElem hx']
  exact h.w _ (List.getElem_mem hx')
theorem Small.wAt [Inhabited α] {m : M α} (_ : Small m) {g x : Nat} (hx : x < g) (hg : Hid (m.ws.length = g)) : (m.ws.map u64V)[x]? = some (u64V (m.w x)) := by
  have hx' : x < m.ws.length := by rw [hg.out]; exact hx
  unfold M.w
  rw [List.getD_eq_getElem?_getD, List.getElem?_map, List.getElem?_eq_getElem hx']; rfl
theorem Small.sAt [Inhabited α] {m : M α} (h : Small m) {g i : Nat} (hi : i < 8 * g) (hg : Hid (m.ws.length = g)) : m.sl[i]? = some (m.s i) := by
  have hx' : i < m.sl.length := by rw [h.sl, hg.out]; exact hi
  unfold M.s
  rw [List.getD_eq_getElem?_getD, List.getElem?_eq_getElem hx']; rfl
end
end Go.Proofs.YtiopkkjcgdcgmaaDoor
