/- SwissNone: the walk. -/
import Derived.Test.YtiopkkjcgdcgmaaDoorLv
import Derived.Test.YtiopkkjcgdcgmaaDoorNa
namespace Go.Proofs.YtiopkkjcgdcgmaaDoor.i
open Go.RowKit Go.Rg Go.Nm Go.Gp Go.Mp
set_option maxHeartbeats 1000000
set_option maxRecDepth 20000
theorem SwissNone_w (w : World) (hSh : Sh w) (key : ByteArray) : Calls Tryd.prog 12 #[.string key] w fun e w' => e = .returned (.bool true) ∧ Ext w w' := by
  have hL := fun w' (h : Ext w w') => lives_w w' (hSh.kp h (fun f => f))
  go_enter Tryd.func12, Tryd.ntmps12
  go_wp2
  have hA := At.new w #[.int .u64 0, .int .u64 0, .slice none 0 0, .slice none 0 0, .int .i64 0, .int .i64 0] 94
  have hE := Ext.alloc w (.cells #[.int .u64 0, .int .u64 0, .slice none 0 0, .slice none 0 0, .int .i64 0, .int .i64 0] 94)
  generalize w.alloc (.cells #[.int .u64 0, .int .u64 0, .slice none 0 0, .slice none 0 0, .int .i64 0, .int .i64 0] 94) = w1 at *
  have U0 : Un w1 (.pointer none) := .inl rfl
  have U1 : Un w1 (.pointer (some ⟨w.heap.size, 0, none⟩)) := .inr ⟨_, rfl, hA⟩
  have i0 : ∀ w' v, (Instr.index 95 (.agg #[.pointer none, v]) (.int .i64 0)).run Tryd.prog w' = .ok (.pointer none) w' := fun _ _ => by kernel_rfl
  have i1 : ∀ w' v, (Instr.index 95 (.agg #[.pointer none, v]) (.int .i64 1)).run Tryd.prog w' = .ok v w' := fun _ _ => by kernel_rfl
  clear hA
  generalize (⟨w.heap.size, 0, none⟩ : Addr) = pz at *
  go_loop [11] (fun i => ∃ k : Nat, k ≤ 2 ∧ i = .int .i64 k) (fun i => 2 - (intOf i).toNat)
  case atStart => exact ⟨0, by omega, rfl⟩
  case round =>
    obtain ⟨k, hk, rfl⟩ := hrel
    have h3 : k = 0 ∨ k = 1 ∨ k = 2 := by omega
    rcases h3 with rfl | rfl | rfl
    · clear hL i1
      go_wp2_with (first
        | (go_at_call 54; refine (Put_un _ _ U0 _ _).mono ?_; rintro e w4 ⟨rfl, rfl⟩)
        | (go_at_call 55; refine (Get_un _ _ U0 _).mono ?_; rintro e w4 ⟨rfl, rfl⟩)
        | (go_at_call 56; refine (Del_un _ _ U0 _).mono ?_; rintro e w4 ⟨rfl, rfl⟩)
        | (go_at_call 57; refine (Len_un _ _ U0).mono ?_; rintro e w4 ⟨rfl, rfl⟩)
        | (go_at_call 58; refine (Tombs_un _ _ U0).mono ?_; rintro e w4 ⟨rfl, rfl⟩)
        | (go_at_call 59; refine (Ctl_un _ _ U0).mono ?_; rintro e w4 ⟨rfl, rfl⟩)
        | (go_at_call 60; refine (Keys_un _ _ U0).mono ?_; rintro e w4 ⟨rfl, rfl⟩)
        | (go_at_call 61; refine (Copy_un _ _ U0).mono ?_; rintro e w4 ⟨rfl, rfl⟩))
      exact ⟨⟨1, by omega, rfl⟩, by simp [intOf]⟩
    · clear hL i0
      go_wp2_with (first
        | (go_at_call 54; refine (Put_un _ _ U1 _ _).mono ?_; rintro e w4 ⟨rfl, rfl⟩)
        | (go_at_call 55; refine (Get_un _ _ U1 _).mono ?_; rintro e w4 ⟨rfl, rfl⟩)
        | (go_at_call 56; refine (Del_un _ _ U1 _).mono ?_; rintro e w4 ⟨rfl, rfl⟩)
        | (go_at_call 57; refine (Len_un _ _ U1).mono ?_; rintro e w4 ⟨rfl, rfl⟩)
        | (go_at_call 58; refine (Tombs_un _ _ U1).mono ?_; rintro e w4 ⟨rfl, rfl⟩)
        | (go_at_call 59; refine (Ctl_un _ _ U1).mono ?_; rintro e w4 ⟨rfl, rfl⟩)
        | (go_at_call 60; refine (Keys_un _ _ U1).mono ?_; rintro e w4 ⟨rfl, rfl⟩)
        | (go_at_call 61; refine (Copy_un _ _ U1).mono ?_; rintro e w4 ⟨rfl, rfl⟩))
      exact ⟨⟨2, by omega, rfl⟩, by simp [intOf]⟩
    · clear i0 i1
      go_wp2_with (go_at_call 15; refine (hL _ hE).mono ?_; rintro e w4 ⟨rfl, hE4⟩)
      go_ret
      exact ⟨rfl, Ext.trans _ _ _ hE hE4⟩
end Go.Proofs.YtiopkkjcgdcgmaaDoor.i
