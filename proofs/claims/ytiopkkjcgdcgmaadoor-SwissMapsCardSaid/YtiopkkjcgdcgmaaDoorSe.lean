/- The order of groups: the program's iterator, the document's list. -/
import Derived.Test.YtiopkkjcgdcgmaaDoorRd
import Derived.Test.YtiopkkjcgdcgmaaDoorRgi
import Derived.RangeFuncNested
import Derived.RangeFuncBound
import Derived.RangeFuncCalls
import Derived.RangeFuncLeaves
import Derived.Shelf.Abstract
import Derived.Shelf.RegionOpen
import Derived.WalkKit
import Derived.OwnWalkIn
import Derived.TacticsInMore
import Derived.LoopNIn
import Derived.LoopIn
namespace Go.Proofs.YtiopkkjcgdcgmaaDoor
open Go.RowKit Go.Rg Go.Nm Go.Gp Go.Shelf
set_option maxHeartbeats 1000000
set_option maxRecDepth 20000
attribute [local go_sem] Oper.semAt_some

def acc (h g : Nat) : Nat → Nat
  | 0 => h % g
  | k + 1 => (acc h g k + k) % g
theorem acc_lt {h g : Nat} (hg : 0 < g) : ∀ k, acc h g k < g
  | 0 => Nat.mod_lt _ hg
  | _ + 1 => Nat.mod_lt _ hg
theorem acc_eq {h g : Nat} : ∀ k, acc h g (k + 1) = (h % g + k * (k + 1) / 2) % g
  | 0 => by simp [acc]
  | k + 1 => by
    show (acc h g (k + 1) + (k + 1)) % g = _
    rw [acc_eq k, Nat.mod_add_mod]
    have : (k + 1) * (k + 1 + 1) = k * (k + 1) + (k + 1) * 2 := by
      rw [Nat.mul_add (k + 1), Nat.add_mul k 1, Nat.add_mul k 1]; omega
    rw [this, Nat.add_mul_div_right _ _ (by decide), Nat.add_assoc]
def seq (h g : Nat) : List Nat := (List.range g).map fun i => acc h g (i + 1)
theorem seq_lt {h g x : Nat} (hx : x ∈ seq h g) : x < g := by
  obtain ⟨i, hi, rfl⟩ := List.mem_map.1 hx
  have := List.mem_range.1 hi
  exact acc_lt (by omega) _

def Pw (g : Nat) : Prop := ∃ k, k ≤ 10 ∧ g = 2 ^ k
theorem Pw.pos {g : Nat} (h : Pw g) : 1 ≤ g := by obtain ⟨k, _, rfl⟩ := h; exact Nat.one_le_two_pow
theorem Pw.le {g : Nat} (h : Pw g) : g ≤ 1024 := by obtain ⟨k, hk, rfl⟩ := h; exact Nat.pow_le_pow_right (n := 2) (j := 10) (by decide) hk
theorem Pw.and {g : Nat} (h : Pw g) (x : Nat) : x &&& (g - 1) = x % g := by obtain ⟨k, _, rfl⟩ := h; exact Nat.and_two_pow_sub_one_eq_mod _ _
theorem and_mask {g : Nat} (h : Pw g) (x : Nat) (hx : x < 9223372036854775808) : bits .and .i64 (x : Int) ((g : Int) - 1) = ((x % g : Nat) : Int) := by
  have h1 := h.pos; have h2 := h.le
  have e1 : (BitVec.ofInt 64 (x : Int)).toNat = x := by rw [BitVec.ofInt_natCast, BitVec.toNat_ofNat]; exact Nat.mod_eq_of_lt (by omega)
  have e2 : (BitVec.ofInt 64 ((g : Int) - 1)).toNat = g - 1 := by
    rw [show (g : Int) - 1 = ((g - 1 : Nat) : Int) by omega, BitVec.ofInt_natCast, BitVec.toNat_ofNat]; exact Nat.mod_eq_of_lt (by omega)
  show IntKind.i64.wrap ((BitVec.ofInt 64 (x : Int) &&& BitVec.ofInt 64 ((g : Int) - 1)).toNat : Int) = _
  rw [BitVec.toNat_and, e1, e2, h.and, IntKind.wrap_i64]
  have := Nat.mod_lt x h1
  omega
theorem and_maskU {g : Nat} (h : Pw g) (x : Nat) (hx : x < U) : bits .and .u64 (x : Int) ((g : Int) - 1) = ((x % g : Nat) : Int) := by
  have h1 := h.pos; have h2 := h.le
  rw [show (g : Int) - 1 = ((g - 1 : Nat) : Int) by omega, andU hx (by show _ < 18446744073709551616; omega), h.and]

theorem good_w {g : Nat} (h : Pw g) (w : World) : Calls Tryd.prog 116 #[.int .i64 g] w fun e w' => e = .returned (.bool true) ∧ w = w' := by
  have h1 := h.pos; have h2 := h.le
  have hb : bits .and .i64 (g : Int) ((g : Int) - 1) = 0 := by rw [and_mask h g (by omega), Nat.mod_self]; rfl
  go_enter Tryd.func116, Tryd.ntmps116
  go_wp2
  go_ret
  exact ⟨by simp, rfl⟩

def KpB (b1 b2 : Nat) (W W' : World) : Prop := W'.heap[b1]? = W.heap[b1]? ∧ W'.heap[b2]? = W.heap[b2]?
theorem KpB.trans {b1 b2 : Nat} {A B C : World} (h : KpB b1 b2 A B) (k : KpB b1 b2 B C) : KpB b1 b2 A C := ⟨k.1.trans h.1, k.2.trans h.2⟩
abbrev Gr (g : Nat) := { x : Nat // x < g }
def grAcc (h g : Nat) (hg : 0 < g) (k : Nat) : Gr g := ⟨acc h g (k + 1), acc_lt hg _⟩
def upto (h g : Nat) (hg : 0 < g) (k : Nat) : List (Gr g) := (List.range k).map (grAcc h g hg)
theorem upto_succ (h g : Nat) (hg : 0 < g) (k : Nat) : upto h g hg (k + 1) = upto h g hg k ++ [grAcc h g hg k] := by simp [upto, List.range_succ]
theorem upto_length (h g : Nat) (hg : 0 < g) (k : Nat) : (upto h g hg k).length = k := by simp [upto]
theorem upto_val (h g : Nat) (hg : 0 < g) (k : Nat) : (upto h g hg k).map Subtype.val = (List.range k).map fun i => acc h g (i + 1) := by simp [upto, Function.comp_def, grAcc]
theorem upto_prefix (h g : Nat) (hg : 0 < g) {k : Nat} (hk : k ≤ g) : (upto h g hg k).map Subtype.val <+: seq h g := by
  rw [upto_val]
  refine List.IsPrefix.map _ ?_
  refine ⟨List.range' k (g - k), ?_⟩
  rw [List.range_eq_range', List.range_eq_range']
  have := List.range'_append_1 (s := 0) (m := k) (n := g - k)
  rw [Nat.zero_add] at this
  rw [this]; congr 1; omega

theorem seq1_in (n : Nat) {g : Nat} (h b1 b2 : Nat) (hP : Pw g) (hh : h < U) (l : Nat) (J Jx : List (Gr g) → World → Prop)
    (hY : ∀ pre x W1, J pre W1 → pre.length < g → YieldAt Fence.wide (n - 1) Tryd.prog l #[.int .i64 (x.1 : Nat)] W1 fun e W' =>
      (e = .returned (.bool true) ∧ J (pre ++ [x]) W' ∧ KpB b1 b2 W1 W') ∨ (e = .returned (.bool false) ∧ Jx (pre ++ [x]) W'))
    (W : World) (h1 : At W b1 #[.int .i64 g] 3) (h2 : At W b2 #[.int .u64 h] 22) (h0 : J [] W) :
    CallsIn Fence.wide n Tryd.prog 115 #[.func (.yield l) #[] #[], .pointer (some ⟨b1, 0, none⟩), .pointer (some ⟨b2, 0, none⟩)] W fun e W' => (∃ v, e = .returned v) ∧
      ((∃ xs : List (Gr g), xs.map Subtype.val = seq h g ∧ J xs W') ∨ (∃ pre : List (Gr g), pre.map Subtype.val <+: seq h g ∧ Jx pre W')) := by
  have hp := hP.pos
  have hle := hP.le
  refine callsIn_of_wp Tryd.func115 rfl trivial ?_ rfl
  simp only [Tryd.ntmps115, List.size_toArray, List.length_cons, List.length_nil, Nat.reduceAdd, Nat.reduceSub, Array.replicate_succ, Array.replicate_zero, List.push_toArray, List.append_toArray, List.nil_append, List.cons_append]
  have c1 : W.cell? ⟨b1, 0, none⟩ = some (.int .i64 g) := h1.cell rfl
  have c2 : W.cell? ⟨b2, 0, none⟩ = some (.int .u64 h) := h2.cell rfl
  have hm := and_maskU hP h hh
  gi_wp2_with (refine ⟨trivial, fun hX => (by cases hX), ?_⟩; gi_at_call 116; refine (callsIn_wide.2 (good_w hP _)).mono ?_; rintro e w1 ⟨rfl, rfl⟩)
  gi_loopw [4, 16] (fun at' i wr => ∃ k : Nat, k ≤ g ∧ i = .int .i64 k ∧ at' = .int .i64 (acc h g k : Nat) ∧ J (upto h g hp k) wr ∧ At wr b1 #[.int .i64 g] 3)
    (fun _ i _ => g - (intOf i).toNat)
  case atStart => exact ⟨0, by omega, rfl, by have := Nat.mod_lt h (show 0 < g from hp); rw [show (h : Int) % (g : Int) = ((h % g : Nat) : Int) by simp]; show Value.int .i64 (wrap64 _) = Value.int .i64 ((h % g : Nat) : Int); congr 1; unfold wrap64; omega, h0, h1⟩
  case round =>
    clear c1 c2 hm h1 h2 h0
    obtain ⟨k, hk, rfl, rfl, hJs, h1⟩ := hrel
    have c1 : wr.cell? ⟨b1, 0, none⟩ = some (.int .i64 g) := h1.cell rfl
    have hl0 := acc_lt (h := h) hp k
    by_cases hlt : k < g
    · have hy0 := hY _ (grAcc h g hp k) wr hJs (by rw [upto_length]; exact hlt)
      have hb := and_mask hP (acc h g k + k) (by omega)
      have hb' : bits .and .i64 ((acc h g k : Int) + (k : Int)) ((g : Int) - 1) = ((acc h g (k + 1) : Nat) : Int) := by
        rw [show (acc h g k : Int) + (k : Int) = ((acc h g k + k : Nat) : Int) by omega, hb]; rfl
      have hl1 := acc_lt (h := h) hp (k + 1)
      clear hb
      obtain ⟨fn, tmps, assign, body, hy, hR⟩ := hy0
      dsimp only [grAcc] at hy
      gi_wp2
      refine ⟨fun hX => (by cases hX), hR.mono ?_⟩
      rintro e W3 (⟨rfl, hJ3, hk3⟩ | ⟨rfl, hJx3⟩)
      · have h3 : At W3 b1 #[.int .i64 g] 3 := hk3.1.trans h1
        gi_wp2
        go_roundw
        case rel => exact ⟨k + 1, by omega, by go_num, rfl, by rw [upto_succ]; exact hJ3, h3⟩
        case measure => simp [intOf]; omega
      · gi_wp2
        refine bodyPost_ret (results_none rfl _ _ _) rfl ?_
        refine ⟨⟨_, rfl⟩, .inr ⟨upto h g hp (k + 1), upto_prefix h g hp hlt, by rw [upto_succ]; exact hJx3⟩⟩
    · obtain rfl : k = g := by omega
      gi_wp2
      go_end0
      exact ⟨⟨_, rfl⟩, .inl ⟨_, by rw [upto_val]; rfl, hJs⟩⟩
end Go.Proofs.YtiopkkjcgdcgmaaDoor
