/- slices.Clone. -/
import Derived.Test.YtiopkkjcgdcgmaaDoorRp
import Derived.Lib.LazyBuf
namespace Go.Proofs.YtiopkkjcgdcgmaaDoor
open Go.RowKit Go.Rg Go.Nm Go.Gp Go.Mp
set_option maxHeartbeats 1000000
set_option maxRecDepth 20000
theorem info9 : (Tryd.prog.info? 9).map (fun i => (i.zero, i.size, i.bytes)) = some (some (.string ByteArray.empty), 1, 16) := by kernel_rfl
theorem cloneW_w (b0 n c : Nat) (xs : List Value) (hl : xs.length = n) (h1 : 1 ≤ n) (hn : n < 1000000) (hone : ∀ v ∈ xs, v.oneCell' = true) (w : World) (hr : Row w b0 22 xs) :
    Calls Tryd.prog 79 #[.slice (some ⟨b0, 0, none⟩) n c] w fun e w' => ∃ b cap, e = .returned (.slice (some ⟨b, 0, none⟩) n cap) ∧ w'.ownsRow w.heap.size 22 1 (.slice (some ⟨b, 0, none⟩) n cap) n xs ∧ Ext w w' := by
  have he : ∀ (b : Addr) (w : World), (binOp .eql 60 (.slice (some b) n c) (.slice none 0 0)).run Tryd.prog w = .ok (.bool false) w := fun b w => by
    simp only [binOp, Sem.run_bind, run_equal_slice_nil w 60 22 (some b) n c Tryd.underlying60]; rfl
  have hown0 : (w.alloc (.cells #[] 22)).ownsRow w.heap.size 22 1 (.slice (some ⟨w.heap.size, 0, none⟩) 0 0) 0 [] := World.ownsRow_made w #[] 0 (Nat.le_refl _) (by simp [maxLen]) rfl
  have hra := hr.alloc (.cells #[] 22)
  go_enter Tryd.func79, Tryd.ntmps79
  go_wp2_with (at_builtin; refine appN (z := .int .u64 0) (sz := 1) (bytes := 8) rfl _ _ 60 rfl w.heap.size 22 info22 Tryd.underlying60 (by rfl) (by decide) (by decide) _ 0 [] rfl hown0 b0 n c xs rfl (by omega) (by omega) (fun j u hj => hra.cell hj) hone (by omega) (by simp) ?_; intro g' cap' w4 hown' hk2)
  rw [Nat.zero_add, List.nil_append] at hown'
  go_ret
  exact ⟨g', cap', by simp, hown', Kp.own (Ext.alloc _ _) hown0 hk2 (Nat.le_refl _)⟩
end Go.Proofs.YtiopkkjcgdcgmaaDoor
