/- Worlds: what is kept, but for some blocks; what a block holds. -/
import Derived.Test.YtiopkkjcgdcgmaaDoorRg
import Derived.Below
import Derived.Maps.AppendAt
namespace Go.Rg
open Go.RowKit

structure Kp (S : Nat → Prop) (x y : World) : Prop where
  os : y.os = x.os
  tape : y.tape = x.tape
  output : y.output = x.output
  size : x.heap.size ≤ y.heap.size
  block : ∀ k, k < x.heap.size → ¬ S k → y.heap[k]? = x.heap[k]?

def none' : Nat → Prop := fun _ => False
abbrev Ext (x y : World) : Prop := Kp none' x y

theorem Kp.refl (S : Nat → Prop) (x : World) : Kp S x x := ⟨rfl, rfl, rfl, Nat.le_refl _, fun _ _ _ => rfl⟩
theorem Kp.trans {S : Nat → Prop} {x y z : World} (h : Kp S x y) (k : Kp S y z) : Kp S x z :=
  ⟨k.os.trans h.os, k.tape.trans h.tape, k.output.trans h.output, Nat.le_trans h.size k.size, fun i hi hn => (k.block i (Nat.lt_of_lt_of_le hi h.size) hn).trans (h.block i hi hn)⟩
theorem Kp.mono {S T : Nat → Prop} {x y : World} (h : Kp S x y) (hs : ∀ k, k < x.heap.size → S k → T k) : Kp T x y :=
  ⟨h.os, h.tape, h.output, h.size, fun k hk hn => h.block k hk fun hS => hn (hs k hk hS)⟩
theorem Kp.drew {S : Nat → Prop} {x y : World} (h : Kp S x y) : Kp S x y.drew := ⟨h.os, h.tape, h.output, h.size, h.block⟩
theorem Kp.drewL {S : Nat → Prop} {x y : World} (h : Kp S x.drew y) : Kp S x y := ⟨h.os, h.tape, h.output, h.size, h.block⟩
theorem heap_alloc_lt (x : World) (o : Obj) (k : Nat) (h : k < x.heap.size) : (x.alloc o).heap[k]? = x.heap[k]? := Below.heap_alloc x o k h
theorem Kp.alloc {S : Nat → Prop} {x y : World} (h : Kp S x y) (o : Obj) : Kp S x (y.alloc o) :=
  h.trans ⟨rfl, rfl, rfl, by simp, fun k hk _ => heap_alloc_lt y o k hk⟩
theorem Kp.setCell {S : Nat → Prop} {x y : World} (h : Kp S x y) {a : Addr} (ha : S a.block ∨ x.heap.size ≤ a.block) (v : Value) : Kp S x (y.setCell a v) :=
  ⟨h.os, h.tape, h.output, by simpa [World.setCell] using h.size, fun k hk hn => by
    rw [Below.heap_setCell _ _ _ _ (fun e => by subst e; rcases ha with ha | ha; exact hn ha; omega)]; exact h.block k hk hn⟩
theorem Kp.grown {S : Nat → Prop} {x y z : World} {row : Option Nat} (h : Kp S x y) (hg : y.grownBy z row) (hr : ∀ k, row = some k → S k ∨ x.heap.size ≤ k) : Kp S x z :=
  ⟨hg.os.trans h.os, hg.tape.trans h.tape, hg.output.trans h.output, Nat.le_trans h.size hg.size, fun k hk hn =>
    (hg.block k (Nat.lt_of_lt_of_le hk h.size) (fun e => by rcases hr k e.symm with h | h; exact hn h; omega)).trans (h.block k hk hn)⟩
theorem Kp.blk {S : Nat → Prop} {x y : World} (h : Kp S x y) {b : Nat} {o : Obj} (hb : x.heap[b]? = some o) (hn : ¬ S b) : y.heap[b]? = some o :=
  (h.block b (Array.getElem?_eq_some_iff.1 hb).1 hn).trans hb
theorem cell_lt {x : World} {b i : Nat} {v : Value} (h : x.cell? ⟨b, i, none⟩ = some v) : b < x.heap.size := by
  unfold World.cell? at h
  cases ho : x.heap[b]? with
  | none => simp [ho] at h
  | some o => exact (Array.getElem?_eq_some_iff.1 ho).1
theorem Kp.cell {S : Nat → Prop} {x y : World} (h : Kp S x y) {b i : Nat} {v : Value} (hc : x.cell? ⟨b, i, none⟩ = some v) (hn : ¬ S b) : y.cell? ⟨b, i, none⟩ = some v := by
  have := h.block b (cell_lt hc) hn
  unfold World.cell? at *
  simp only [this]; exact hc
theorem Kp.frozen {S : Nat → Prop} {x y : World} (h : Kp S x y) {b i : Nat} (hb : b < x.heap.size) (hn : ¬ S b) : y.frozen? ⟨b, i, none⟩ = x.frozen? ⟨b, i, none⟩ := by
  have := h.block b hb hn
  unfold World.frozen?
  simp only [this]
/-- Seen from the start of a call: what lay below is as it was. -/
theorem Kp.below {S : Nat → Prop} {x y : World} (h : Kp S x y) {B : Nat} (hB : B ≤ x.heap.size) (hS : ∀ k, S k → B ≤ k) : Below B x y :=
  ⟨h.os, h.tape, h.output, h.size, fun k hk => h.block k (by omega) (fun hs => by have := hS k hs; omega)⟩
theorem Kp.join {S T : Nat → Prop} {x y z : World} (h : Kp S x y) (k : Kp T y z) (hT : ∀ b, b < x.heap.size → T b → S b) : Kp S x z :=
  ⟨k.os.trans h.os, k.tape.trans h.tape, k.output.trans h.output, Nat.le_trans h.size k.size, fun i hi hn => (k.block i (Nat.lt_of_lt_of_le hi h.size) (fun ht => hn (hT i hi ht))).trans (h.block i hi hn)⟩

theorem Ext.refl (x : World) : Ext x x := Kp.refl _ _
theorem Ext.trans (x y z : World) (h : Ext x y) (k : Ext y z) : Ext x z := Kp.trans h k
theorem Ext.blk {x y : World} (h : Ext x y) {b : Nat} {o : Obj} (hb : x.heap[b]? = some o) : y.heap[b]? = some o := Kp.blk h hb id
theorem Ext.cell {x y : World} (h : Ext x y) {b i : Nat} {v : Value} (hc : x.cell? ⟨b, i, none⟩ = some v) : y.cell? ⟨b, i, none⟩ = some v := Kp.cell h hc id
theorem Ext.frozen {x y : World} (h : Ext x y) {b i : Nat} (hb : b < x.heap.size) : y.frozen? ⟨b, i, none⟩ = x.frozen? ⟨b, i, none⟩ := Kp.frozen h hb id
theorem Ext.kp {S : Nat → Prop} {x y : World} (h : Ext x y) : Kp S x y := Kp.mono h (fun _ _ f => f.elim)
theorem Ext.alloc (x : World) (o : Obj) : Ext x (x.alloc o) := (Kp.refl _ x).alloc o
theorem Ext.drew (x : World) : Ext x x.drew := (Kp.refl _ x).drew
theorem Ext.of_eq {x y : World} (h : x = y) : Ext x y := h ▸ Ext.refl x
theorem Ext.below {x y : World} (h : Ext x y) {B : Nat} (hB : B ≤ x.heap.size) : Below B x y := Kp.below h hB (fun _ f => f.elim)
theorem Ext.of_below {x y : World} {B : Nat} (h : Below B x y) (hB : x.heap.size ≤ B) : Ext x y := ⟨h.os, h.tape, h.output, h.size, fun k hk _ => h.block k (by omega)⟩

/-! ### a block of cells, whole -/
def At (w : World) (b : Nat) (cs : Array Value) (T : TypeId) : Prop := w.heap[b]? = some (.cells cs T (0, 0))
theorem At.lt {w : World} {b : Nat} {cs : Array Value} {T : TypeId} (h : At w b cs T) : b < w.heap.size := (Array.getElem?_eq_some_iff.1 h).1
theorem At.cell {w : World} {b : Nat} {cs : Array Value} {T : TypeId} (h : At w b cs T) {i : Nat} {v : Value} (hi : cs[i]? = some v) : w.cell? ⟨b, i, none⟩ = some v := by
  unfold At at h; simp [World.cell?, h, hi]
theorem At.frozen {w : World} {b : Nat} {cs : Array Value} {T : TypeId} (h : At w b cs T) (i : Nat) : w.frozen? ⟨b, i, none⟩ = false := by
  unfold At at h; simp [World.frozen?, h]
theorem At.set {w : World} {b : Nat} {cs : Array Value} {T : TypeId} (h : At w b cs T) (i : Nat) (v : Value) : At (w.setCell ⟨b, i, none⟩ v) b (cs.setIfInBounds i v) T := by
  unfold At at *
  simp only [World.setCell, Array.getElem?_modify, h]; simp
theorem At.setO {w : World} {b : Nat} {cs : Array Value} {T : TypeId} (h : At w b cs T) {a : Addr} (hne : b ≠ a.block) (v : Value) : At (w.setCell a v) b cs T := by
  unfold At at *
  rw [Below.heap_setCell _ _ _ _ hne]; exact h
theorem At.alloc {w : World} {b : Nat} {cs : Array Value} {T : TypeId} (h : At w b cs T) (o : Obj) : At (w.alloc o) b cs T := by
  unfold At at *
  rw [heap_alloc_lt _ _ _ (Array.getElem?_eq_some_iff.1 h).1]; exact h
theorem At.new (w : World) (cs : Array Value) (T : TypeId) : At (w.alloc (.cells cs T)) w.heap.size cs T := by show (w.heap.push _)[w.heap.size]? = _; simp
theorem At.drew {w : World} {b : Nat} {cs : Array Value} {T : TypeId} (h : At w b cs T) : At w.drew b cs T := h
theorem At.kp {S : Nat → Prop} {x y : World} (h : Kp S x y) {b : Nat} {cs : Array Value} {T : TypeId} (hb : At x b cs T) (hn : ¬ S b) : At y b cs T := h.blk hb hn
theorem At.ext {x y : World} (h : Ext x y) {b : Nat} {cs : Array Value} {T : TypeId} (hb : At x b cs T) : At y b cs T := Ext.blk h hb
end Go.Rg
