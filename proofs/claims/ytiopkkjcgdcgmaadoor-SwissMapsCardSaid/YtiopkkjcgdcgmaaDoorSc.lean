/- probe.Seq: the iterator that it hands back; what its rounds keep. -/
import Derived.Test.YtiopkkjcgdcgmaaDoorMi
namespace Go.Proofs.YtiopkkjcgdcgmaaDoor
open Go.RowKit Go.Rg Go.Nm Go.Gp Go.Mp
set_option maxHeartbeats 1000000
set_option maxRecDepth 20000
def seqF (b1 b2 : Nat) : Value := .func (.func 115) #[] #[.pointer (some ⟨b1, 0, none⟩), .pointer (some ⟨b2, 0, none⟩)]
theorem seqc_w (h g : Nat) (w : World) : Calls Tryd.prog 100 #[.int .u64 h, .int .i64 g] w fun e w' => ∃ b1 b2, e = .returned (.func (.func 115) #[] #[.pointer (some ⟨b1, 0, none⟩), .pointer (some ⟨b2, 0, none⟩)]) ∧
    At w' b1 #[.int .i64 g] 3 ∧ At w' b2 #[.int .u64 h] 22 ∧ Ext w w' ∧ w.heap.size ≤ b1 ∧ w.heap.size ≤ b2 := by
  go_enter Tryd.func100, Tryd.ntmps100
  go_wp2
  go_ret
  refine ⟨_, _, rfl, ?_, ?_, Kp.alloc (Ext.alloc _ _) _, ?_, Nat.le_refl _⟩
  · have := At.new (w.alloc (.cells #[.int .u64 h] 22)) #[.int .i64 g] 3
    simpa using this
  · exact (At.new w #[.int .u64 h] 22).alloc _
  · simp
theorem seq_stops (n : Nat) {g : Nat} (h b1 b2 : Nat) (hP : Pw g) (hh : h < U) (w : World) (h1 : At w b1 #[.int .i64 g] 3) (h2 : At w b2 #[.int .u64 h] 22) :
    SeqStopsK Fence.wide n Tryd.prog 115 #[.pointer (some ⟨b1, 0, none⟩), .pointer (some ⟨b2, 0, none⟩)] (fun x : Gr g => #[.int .i64 (x.1 : Nat)]) (KpB b1 b2)
      (fun xs => xs.map Subtype.val = seq h g) (fun xs => xs.map Subtype.val <+: seq h g) g w := by
  intro l J Jx W hW _ _ hY h0
  exact seq1_in n h b1 b2 hP hh l J Jx hY W ((hW.block b1 h1.lt).trans h1) ((hW.block b2 h2.lt).trans h2) h0
theorem kpB_t {b1 b2 : Nat} {A B C : World} (h : KpB b1 b2 A B) (k : KpB b1 b2 B C) : KpB b1 b2 A C := h.trans k
theorem kpB_b {b1 b2 : Nat} {w : World} (h1 : b1 < w.heap.size) (h2 : b2 < w.heap.size) (W : World) (l : Nat) (o o' : Obj) (hl : w.heap.size ≤ l) (_ : W.heap[l]? = some o) (_ : o.isCells = false) (_ : o.isWalk = false) : KpB b1 b2 W (W.putObj l o') :=
  ⟨World.putObj_heap_other (by omega), World.putObj_heap_other (by omega)⟩
theorem kpB_of {S : Nat → Prop} {b1 b2 : Nat} {A B : World} (h : Kp S A B) (h1 : b1 < A.heap.size) (h2 : b2 < A.heap.size) (n1 : ¬ S b1) (n2 : ¬ S b2) : KpB b1 b2 A B := ⟨h.block b1 h1 n1, h.block b2 h2 n2⟩
theorem keeps_of {S : Nat → Prop} {B : Nat} {A C : World} (h : Kp S A C) (hS : ∀ k, S k → k < B) : KeepsFrom B A C :=
  ⟨h.size, fun k o hB hk _ => (h.block k (Array.getElem?_eq_some_iff.1 hk).1 (fun hs => by have := hS k hs; omega)).trans hk⟩
theorem Kp.gr {S : Nat → Prop} {x y z : World} {row : Option Nat} (h : Kp S x y) (hg : y.grownBy z row) (hr : ∀ k, row = some k → x.heap.size ≤ k) : Kp S x z := h.grown hg fun k e => .inr (hr k e)
theorem At.gr {y z : World} {row : Option Nat} {B b : Nat} {cs : Array Value} {T : TypeId} (h : At y b cs T) (hg : y.grownBy z row) (hb : b < B) (hr : ∀ k, row = some k → B ≤ k) : At z b cs T :=
  (hg.block b h.lt (fun e => by have := hr b e.symm; omega)).trans h
end Go.Proofs.YtiopkkjcgdcgmaaDoor
