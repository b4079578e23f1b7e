/- The document's list of groups. -/
import Derived.Test.YtiopkkjcgdcgmaaDoorRe
namespace Go.Proofs.YtiopkkjcgdcgmaaDoor
open Go.RowKit Go.Rg Go.Nm Go.Gp
set_option maxHeartbeats 1000000
set_option maxRecDepth 20000
theorem info3 : (Tryd.prog.info? 3).map (fun i => (i.zero, i.size, i.bytes)) = some (some (.int .i64 0), 1, 8) := by kernel_rfl
def intV (n : Nat) : Value := .int .i64 (n : Int)
def seqTo (h g k : Nat) : List Nat := (List.range k).map fun i => acc h g (i + 1)
theorem seqTo_succ (h g k : Nat) : seqTo h g (k + 1) = seqTo h g k ++ [acc h g (k + 1)] := by simp [seqTo, List.range_succ]
theorem seqR_w {g : Nat} (hP : Pw g) (h : Nat) (w : World) : Calls Tryd.prog 108 #[.int .u64 h, .int .i64 g] w fun e w' => ∃ b cap, e = .returned (.slice (some ⟨b, 0, none⟩) g cap) ∧ w'.ownsRow w.heap.size 3 1 (.slice (some ⟨b, 0, none⟩) g cap) g ((seq h g).map intV) ∧ Ext w w' := by
  have hp := hP.pos
  have hle := hP.le
  go_enter Tryd.func108, Tryd.ntmps108
  go_wp2_with (go_at_call 122; refine (goodR_w hP _).mono ?_; rintro e w1 ⟨rfl, rfl⟩)
  go_loopw [5, 6] (fun v i wr => ∃ k : Nat, k ≤ g ∧ i = .int .i64 k ∧ wr.ownsRow w.heap.size 3 1 v k ((seqTo h g k).map intV) ∧ Ext w wr) (fun _ i _ => g - (intOf i).toNat)
  case atStart => exact ⟨0, by omega, rfl, World.ownsRow_nil _ _ _ _, Ext.refl _⟩
  case round =>
    obtain ⟨k, hk, rfl, hown, hE⟩ := hrel
    by_cases hlt : k < g
    · have hs := hE.size
      go_wp2_with (first
        | (go_at_call 123; refine (at_w hP h k hlt _).mono ?_; rintro e w1 ⟨rfl, rfl⟩)
        | (at_builtin; refine appL rfl _ _ 59 rfl w.heap.size 3 info3 Tryd.underlying59 rfl (by decide) (by decide) _ k _ rfl (hown.alloc _) wr.heap.size 1 [intV (acc h g (k + 1))] rfl rfl (news1 ((At.new wr _ 3).cell rfl)) (one1 rfl) (by omega) (by simp; omega) ?_; intro v' cap' w2 hown' hk2))
      have hk3 : Ext w w2 := Kp.own ((Kp.alloc hE _)) (hown.alloc _) hk2 (Nat.le_refl _)
      go_roundw
      case rel =>
        refine ⟨k + 1, by omega, by go_num, ?_, hk3⟩
        rw [seqTo_succ, List.map_append]; exact hown'
      case measure => simp [intOf]; omega
    · obtain rfl : k = g := by omega
      rcases hown.2 with ⟨_, h0⟩ | ⟨b, cap, _, rfl, _⟩
      · omega
      go_wp2
      go_ret
      exact ⟨b, cap, rfl, hown, hE⟩
end Go.Proofs.YtiopkkjcgdcgmaaDoor
