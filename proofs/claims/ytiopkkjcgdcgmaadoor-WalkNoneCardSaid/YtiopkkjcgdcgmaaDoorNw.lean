/- WalkNone: walks that no call made, or over no map; the walk. -/
import Derived.Test.YtiopkkjcgdcgmaaDoorNa
import Derived.Test.YtiopkkjcgdcgmaaDoorLw
import Derived.Test.YtiopkkjcgdcgmaaDoorSc
import Derived.Maps.AppendAt
import Derived.Deep.Cut
namespace Go.Proofs.YtiopkkjcgdcgmaaDoor.i
open Go.RowKit Go.Rg Go.Nm Go.Gp Go.Mp Go.Shelf
set_option maxHeartbeats 2000000
set_option maxRecDepth 20000
attribute [local go_sem] Oper.semAt_some
/-- A pointer to no walk, or to one over no map. -/
def Uw (w : World) (v : Value) : Prop := v = .pointer none ∨ ∃ b, v = .pointer (some ⟨b, 0, none⟩) ∧ At w b #[.pointer none, .slice none 0 0] 80
theorem wNew_un (w : World) : Calls Tryd.prog 48 #[.pointer none] w fun e w' => e = .returned (.pointer (some ⟨w.heap.size, 0, none⟩)) ∧ w' = w.alloc (.cells #[.pointer none, .slice none 0 0] 80) := by
  have hk := Keys_un w (.pointer none) (.inl rfl)
  go_enter Tryd.func48, Tryd.ntmps48
  go_wp2_with (go_at_call 60; refine hk.mono ?_; rintro e w1 ⟨rfl, rfl⟩)
  go_ret
  exact ⟨rfl, rfl⟩
theorem wNext_un (w : World) (v : Value) (h : Uw w v) : Calls Tryd.prog 49 #[v] w fun e w' => e = .returned (.tuple #[.string ⟨#[]⟩, .int .i64 0, .bool false]) ∧ w = w' := by
  rcases h with rfl | ⟨b, rfl, h⟩
  · go_enter Tryd.func49, Tryd.ntmps49
    go_wp2
    go_loopg [3] 0 (fun g v3 wr => v3 = .int .i64 0 ∧ wr = w)
    case atStart => exact ⟨rfl, rfl⟩
    case round =>
      obtain ⟨rfl, rfl⟩ := hrel
      go_wp2
      go_ret3
      exact ⟨rfl, rfl⟩
  · have c1 : w.cell? ⟨b, 1, none⟩ = some (.slice none 0 0) := h.cell rfl
    go_enter Tryd.func49, Tryd.ntmps49
    go_wp2
    go_loopg [3] 0 (fun g v3 wr => v3 = .int .i64 0 ∧ wr = w)
    case atStart => exact ⟨rfl, rfl⟩
    case round =>
      obtain ⟨rfl, rfl⟩ := hrel
      go_wp2
      go_ret3
      exact ⟨rfl, rfl⟩
theorem wLeft_un (w : World) (v : Value) (h : Uw w v) : Calls Tryd.prog 50 #[v] w fun e w' => e = .returned (.int .i64 0) ∧ w = w' := by
  rcases h with rfl | ⟨b, rfl, h⟩
  · go_enter Tryd.func50, Tryd.ntmps50
    go_wp2
    go_ret
    exact ⟨rfl, rfl⟩
  · have c1 : w.cell? ⟨b, 1, none⟩ = some (.slice none 0 0) := h.cell rfl
    go_enter Tryd.func50, Tryd.ntmps50
    go_wp2
    go_ret
    exact ⟨rfl, rfl⟩
theorem wAll_un (w : World) : Calls Tryd.prog 51 #[.pointer none] w fun e w' => e = .returned (.func (.func 89) #[] #[.pointer (some ⟨w.heap.size, 0, none⟩)]) ∧ w' = w.alloc (.cells #[.pointer none] 78) := by
  go_enter Tryd.func51, Tryd.ntmps51
  go_wp2
  go_ret
  exact ⟨rfl, rfl⟩
theorem all_stops (n : Nat) (b1 : Nat) (w : World) (h1 : At w b1 #[.pointer none] 78) :
    SeqStopsK Fence.wide n Tryd.prog 89 #[.pointer (some ⟨b1, 0, none⟩)] (fun _ : Unit => #[.string ByteArray.empty, .int .i64 0]) (fun _ _ => True) (fun xs => xs = []) (fun _ => True) 0 w := by
  intro l J Jx W hW hJ _ _ h0
  have hA : At W b1 #[.pointer none] 78 := (hW.block b1 h1.lt).trans h1
  have c0 : W.cell? ⟨b1, 0, none⟩ = some (.pointer none) := hA.cell rfl
  refine callsIn_of_wp Tryd.func89 rfl trivial ?_ rfl
  simp only [Tryd.ntmps89, List.size_toArray, List.length_cons, List.length_nil, Nat.reduceAdd, Nat.reduceSub, Array.replicate_succ, Array.replicate_zero, List.push_toArray, List.append_toArray, List.nil_append, List.cons_append]
  refine wpIn_wide.2 ?_
  go_wp2_with (first
    | (go_at_call 48; refine (wNew_un _).mono ?_; rintro e w1 ⟨rfl, rfl⟩)
    | (go_at_call 49; refine (wNext_un _ _ (.inr ⟨_, rfl, At.new _ _ _⟩)).mono ?_; rintro e w2 ⟨rfl, rfl⟩))
  obtain ⟨W1, hW1⟩ : ∃ W1, W1 = W.alloc (.cells #[.pointer none, .slice none 0 0] 80) := ⟨_, rfl⟩
  have hJ1 : J [] W1 := by rw [hW1]; exact hJ [] W _ none h0 (World.grownBy_alloc W _ none) (fun r e => by cases e)
  rw [← hW1]
  clear hW1 h0 hJ c0 hA
  go_loopg [6] 0 (fun g v6 wr => v6 = .bool false ∧ wr = W1)
  case atStart => exact ⟨rfl, rfl⟩
  case round =>
    obtain ⟨rfl, rfl⟩ := hrel
    go_wp2
    go_end0
    exact ⟨⟨_, rfl⟩, .inl ⟨[], rfl, hJ1⟩⟩

theorem WalkNone_w (w : World) (hSh : Sh w) (n : Int) : Calls Tryd.prog 10 #[.int .i64 n] w fun e w' => e = .returned (.bool true) ∧ Ext w w' := by
  have hL := fun w' (h : Ext w w') => s.lives_w w' (hSh.kp h (fun f => f))
  refine (callsIn_wide (n := 3)).1 ?_
  refine callsIn_of_wp_marks Tryd.func10 rfl trivial ?_ rfl
  simp only [Tryd.ntmps10, List.size_toArray, List.length_cons, List.length_nil, Nat.reduceAdd, Nat.reduceSub, Array.replicate_succ, Array.replicate_zero, List.push_toArray, List.append_toArray, List.nil_append, List.cons_append]
  refine wpIn_wide.2 ?_
  go_wp2_with (go_at_call 48; refine (wNew_un _).mono ?_; rintro e w1 ⟨rfl, rfl⟩)
  obtain ⟨q, hq⟩ : ∃ q, q = w.heap.size := ⟨_, rfl⟩
  obtain ⟨q2, hq2⟩ : ∃ q2, q2 = w.heap.size + 1 := ⟨_, rfl⟩
  have hE1 := Ext.trans _ _ _ (Ext.alloc w (.cells #[.pointer none, .slice none 0 0] 80)) (Ext.alloc _ (.cells #[.pointer none, .slice none 0 0] 80))
  have hA1 := At.ext (Ext.alloc _ (.cells #[.pointer none, .slice none 0 0] 80)) (At.new w #[.pointer none, .slice none 0 0] 80)
  have hA2 := At.new (w.alloc (.cells #[.pointer none, .slice none 0 0] 80)) #[.pointer none, .slice none 0 0] 80
  rw [← hq] at hA1
  rw [show (w.alloc (.cells #[.pointer none, .slice none 0 0] 80)).heap.size = w.heap.size + 1 by simp, ← hq2] at hA2
  rw [← hq2, ← hq]
  generalize (w.alloc (.cells #[.pointer none, .slice none 0 0] 80)).alloc (.cells #[.pointer none, .slice none 0 0] 80) = w1 at *
  have U0 : Uw w1 (.pointer none) := .inl rfl
  have U1 : Uw w1 (.pointer (some ⟨q, 0, none⟩)) := .inr ⟨_, rfl, hA1⟩
  have U2 : Uw w1 (.pointer (some ⟨q2, 0, none⟩)) := .inr ⟨_, rfl, hA2⟩
  have i0 : ∀ w' v u, (Instr.index 83 (.agg #[.pointer none, v, u]) (.int .i64 0)).run Tryd.prog w' = .ok (.pointer none) w' := fun _ _ _ => by kernel_rfl
  have i1 : ∀ w' v u, (Instr.index 83 (.agg #[.pointer none, v, u]) (.int .i64 1)).run Tryd.prog w' = .ok v w' := fun _ _ _ => by kernel_rfl
  have i2 : ∀ w' v u, (Instr.index 83 (.agg #[.pointer none, v, u]) (.int .i64 2)).run Tryd.prog w' = .ok u w' := fun _ _ _ => by kernel_rfl
  clear hA1 hA2 hq hq2
  generalize (⟨q, 0, none⟩ : Addr) = pz at *
  generalize (⟨q2, 0, none⟩ : Addr) = pn at *
  go_loopg [15] (3 : Nat) (fun (g : Nat) v15 wr => ∃ k : Nat, v15 = .int .i64 k ∧ wr = w1 ∧ g + k = 3)
  case atStart => exact ⟨0, rfl, rfl, by omega⟩
  case round =>
    obtain ⟨k, rfl, rfl, hk⟩ := hrel
    have h3 : k = 0 ∨ k = 1 ∨ k = 2 ∨ k = 3 := by omega
    rcases h3 with rfl | rfl | rfl | rfl
    · clear hL i1 i2
      go_wp2_with (first
        | (go_at_call 49; refine (wNext_un _ _ U0).mono ?_; rintro e w4 ⟨rfl, rfl⟩)
        | (go_at_call 50; refine (wLeft_un _ _ U0).mono ?_; rintro e w4 ⟨rfl, rfl⟩))
      go_roundg (gk - 1)
      case measure => omega
      case rel => exact ⟨1, rfl, rfl, by omega⟩
    · clear hL i0 i2
      go_wp2_with (first
        | (go_at_call 49; refine (wNext_un _ _ U1).mono ?_; rintro e w4 ⟨rfl, rfl⟩)
        | (go_at_call 50; refine (wLeft_un _ _ U1).mono ?_; rintro e w4 ⟨rfl, rfl⟩))
      go_roundg (gk - 1)
      case measure => omega
      case rel => exact ⟨2, rfl, rfl, by omega⟩
    · clear hL i0 i1
      go_wp2_with (first
        | (go_at_call 49; refine (wNext_un _ _ U2).mono ?_; rintro e w4 ⟨rfl, rfl⟩)
        | (go_at_call 50; refine (wLeft_un _ _ U2).mono ?_; rintro e w4 ⟨rfl, rfl⟩))
      go_roundg (gk - 1)
      case measure => omega
      case rel => exact ⟨3, rfl, rfl, by omega⟩
    · clear i0 i1 i2 U0 U1 U2
      go_upto_region 11 with (fail)
      have hEL : Ext w (wr.alloc (.cells #[.int .i64 0] 3)) := Kp.alloc hE1 _
      have hAL := At.new wr #[.int .i64 0] 3
      have hb7' : w.heap.size ≤ wr.heap.size := hE1.size
      clear hE1
      generalize hb7 : wr.heap.size = b7 at *
      generalize (wr.alloc (.cells #[.int .i64 0] 3)) = wL at *
      have hrun : ∀ c w', Sem.run Tryd.prog (binOp BinOp.neq 87 (.func (.func 89) #[] c) .nilFunc) w' = .ok (.bool true) w' := fun _ _ => by kernel_rfl
      go_wp2_with (go_at_call 51; refine (wAll_un _).mono ?_; rintro e w4 ⟨rfl, rfl⟩)
      have hE2 : Ext wL (wL.alloc (.cells #[.pointer none] 78)) := Ext.alloc wL _
      have hA7 := At.ext hE2 hAL
      have hS1 := At.new wL #[.pointer none] 78
      generalize hs1 : wL.heap.size = s1 at *
      generalize (wL.alloc (.cells #[.pointer none] 78)) = wS at *
      have hEL2 := Ext.trans _ _ _ hEL hE2
      refine (wpIn_wide (n := 3)).1 ?_
      apply wpIn_rangeFunc_ownG (n := 3) (gf := 89) (lb := #[.pointer (some ⟨s1, 0, none⟩)]) rfl (by omega) rfl trivial (enters_of Tryd.func89 (by kernel_rfl) rfl)
        (all_stops _ s1 _ hS1) (fun _ _ => trivial) (fun _ _ _ _ _ _ _ _ => trivial) (Below.refl _ _) (fun _ => rfl)
        (fun pre W => Kp (fun k => k = b7) wS W ∧ At W b7 #[.int .i64 0] 3)
        (fun c pre W => False)
        (fun s A B row hs hg hr => ⟨Kp.gr hs.1 hg (fun k e => (hr k e).1), At.gr hs.2 hg hA7.lt (fun k e => (hr k e).1)⟩)
        (fun c s A B row hs hg hr => hs.elim)
        ⟨Kp.refl _ _, hA7⟩ _ ?assign ?body ?done ?stop
      case assign =>
        intro l x W K hK
        gi_wp2
        exact hK
      case body => exact fun l pre x W _ h => absurd h (by omega)
      case done =>
        intro D ys W hD hS ⟨hK, hA⟩ hd
        have c7 : W.cell? ⟨b7, 0, none⟩ = some (.int .i64 0) := hA.cell rfl
        have hEW : Ext w W := Kp.join hEL2 hK (fun b hb e => by have := hEL2.size; omega)
        go_wp2_with (go_at_call 22; refine (hL _ hEW).mono ?_; rintro e w9 ⟨rfl, hE9⟩)
        have hEF : Ext w (w9.putObj D (.deferred none)) := Kp.grown (Ext.trans _ _ _ hEW hE9) (grownBy_putObj' w9 D _) (fun k e => .inr (by cases e; have := hEL2.size; omega))
        refine ⟨by simp, .inl ⟨_, _, rfl, run_takeDeferred (hE9.blk hd), ?_⟩⟩
        exact ⟨_, results_tmp rfl _ _ _, rfl, hEF⟩
      case stop => exact fun D c pre W _ _ h => h.elim
end Go.Proofs.YtiopkkjcgdcgmaaDoor.i
