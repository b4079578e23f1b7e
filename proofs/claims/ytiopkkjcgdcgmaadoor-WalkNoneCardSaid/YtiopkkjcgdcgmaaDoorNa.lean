/- Maps that no call made: nil, or the zero map. -/
import Derived.Test.YtiopkkjcgdcgmaaDoorMki
namespace Go.Proofs.YtiopkkjcgdcgmaaDoor.i
open Go.RowKit Go.Rg Go.Nm Go.Gp Go.Mp
set_option maxHeartbeats 1000000
set_option maxRecDepth 20000
/-- A pointer to no map, or to the zero map. -/
def Un (w : World) (v : Value) : Prop := v = .pointer none ∨ ∃ b, v = .pointer (some ⟨b, 0, none⟩) ∧ At w b #[.int .u64 0, .int .u64 0, .slice none 0 0, .slice none 0 0, .int .i64 0, .int .i64 0] 94
theorem md_un (w : World) (v : Value) (h : Un w v) : Calls Tryd.prog 90 #[v] w fun e w' => e = .returned (.bool false) ∧ w = w' := by
  rcases h with rfl | ⟨b, rfl, h⟩
  · exact md_nil w
  · have c2 : w.cell? ⟨b, 2, none⟩ = some (.slice none 0 0) := h.cell rfl
    go_enter Tryd.func90, Tryd.ntmps90
    go_wp2
    go_ret
    exact ⟨rfl, rfl⟩
theorem Put_un (w : World) (v : Value) (h : Un w v) (key : ByteArray) (x : Int) : Calls Tryd.prog 54 #[v, .string key, .int .i64 x] w fun e w' => e = .returned (.tuple #[.bool false, .int .i64 1]) ∧ w = w' := by
  have hm := md_un w v h
  go_enter Tryd.func54, Tryd.ntmps54
  go_wp2_with (go_at_call 90; refine hm.mono ?_; rintro e w1 ⟨rfl, rfl⟩)
  go_ret2
  exact ⟨rfl, rfl⟩
theorem Get_un (w : World) (v : Value) (h : Un w v) (key : ByteArray) : Calls Tryd.prog 55 #[v, .string key] w fun e w' => e = .returned (.tuple #[.int .i64 0, .bool false]) ∧ w = w' := by
  have hm := md_un w v h
  go_enter Tryd.func55, Tryd.ntmps55
  go_wp2_with (go_at_call 90; refine hm.mono ?_; rintro e w1 ⟨rfl, rfl⟩)
  go_ret2
  exact ⟨rfl, rfl⟩
theorem Del_un (w : World) (v : Value) (h : Un w v) (key : ByteArray) : Calls Tryd.prog 56 #[v, .string key] w fun e w' => e = .returned (.bool false) ∧ w = w' := by
  have hm := md_un w v h
  go_enter Tryd.func56, Tryd.ntmps56
  go_wp2_with (go_at_call 90; refine hm.mono ?_; rintro e w1 ⟨rfl, rfl⟩)
  go_ret
  exact ⟨rfl, rfl⟩
theorem Len_un (w : World) (v : Value) (h : Un w v) : Calls Tryd.prog 57 #[v] w fun e w' => e = .returned (.int .i64 0) ∧ w = w' := by
  have hm := md_un w v h
  go_enter Tryd.func57, Tryd.ntmps57
  go_wp2_with (go_at_call 90; refine hm.mono ?_; rintro e w1 ⟨rfl, rfl⟩)
  go_ret
  exact ⟨rfl, rfl⟩
theorem Tombs_un (w : World) (v : Value) (h : Un w v) : Calls Tryd.prog 58 #[v] w fun e w' => e = .returned (.int .i64 0) ∧ w = w' := by
  have hm := md_un w v h
  go_enter Tryd.func58, Tryd.ntmps58
  go_wp2_with (go_at_call 90; refine hm.mono ?_; rintro e w1 ⟨rfl, rfl⟩)
  go_ret
  exact ⟨rfl, rfl⟩
theorem Ctl_un (w : World) (v : Value) (h : Un w v) : Calls Tryd.prog 59 #[v] w fun e w' => e = .returned (.slice none 0 0) ∧ w = w' := by
  have hm := md_un w v h
  go_enter Tryd.func59, Tryd.ntmps59
  go_wp2_with (go_at_call 90; refine hm.mono ?_; rintro e w1 ⟨rfl, rfl⟩)
  go_ret
  exact ⟨rfl, rfl⟩
theorem Keys_un (w : World) (v : Value) (h : Un w v) : Calls Tryd.prog 60 #[v] w fun e w' => e = .returned (.slice none 0 0) ∧ w = w' := by
  have hm := md_un w v h
  go_enter Tryd.func60, Tryd.ntmps60
  go_wp2_with (go_at_call 90; refine hm.mono ?_; rintro e w1 ⟨rfl, rfl⟩)
  go_ret
  exact ⟨rfl, rfl⟩
theorem Copy_un (w : World) (v : Value) (h : Un w v) : Calls Tryd.prog 61 #[v] w fun e w' => e = .returned (.pointer none) ∧ w = w' := by
  have hm := md_un w v h
  go_enter Tryd.func61, Tryd.ntmps61
  go_wp2_with (go_at_call 90; refine hm.mono ?_; rintro e w1 ⟨rfl, rfl⟩)
  go_ret
  exact ⟨rfl, rfl⟩
end Go.Proofs.YtiopkkjcgdcgmaaDoor.i
