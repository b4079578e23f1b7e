/- The map: Copy. -/
import Derived.Test.YtiopkkjcgdcgmaaDoorMks
namespace Go.Proofs.YtiopkkjcgdcgmaaDoor.s
open Go.RowKit Go.Rg Go.Nm Go.Gp Go.Mp
set_option maxHeartbeats 1000000
set_option maxRecDepth 20000
theorem cloneS_w (b0 n c : Nat) (xs : List Value) (hl : xs.length = n * 2) (h1 : 1 ≤ n) (hn : n < 1000000) (hone : ∀ v ∈ xs, v.oneCell' = true) (w : World) (hr : Row w b0 109 xs) :
    Calls Tryd.prog 87 #[.slice (some ⟨b0, 0, none⟩) n c] w fun e w' => ∃ b cap, e = .returned (.slice (some ⟨b, 0, none⟩) n cap) ∧ w'.ownsRow w.heap.size 109 2 (.slice (some ⟨b, 0, none⟩) n cap) n xs ∧ Ext w w' := by
  have he : ∀ (b : Addr) (w : World), (binOp .eql 104 (.slice (some b) n c) (.slice none 0 0)).run Tryd.prog w = .ok (.bool false) w := fun b w => by
    simp only [binOp, Sem.run_bind, run_equal_slice_nil w 104 109 (some b) n c Tryd.underlying104]; rfl
  have hown0 : (w.alloc (.cells #[] 109)).ownsRow w.heap.size 109 2 (.slice (some ⟨w.heap.size, 0, none⟩) 0 0) 0 [] := World.ownsRow_made w #[] 0 (Nat.le_refl _) (by simp [maxLen]) rfl
  have hra := hr.alloc (.cells #[] 109)
  go_enter Tryd.func87, Tryd.ntmps87
  go_wp2_with (at_builtin; refine appN (z := .agg #[.string ByteArray.empty, zero]) (sz := 2) (bytes := 32) rfl _ _ 104 rfl w.heap.size 109 infoS Tryd.underlying104 zsize (by decide) (by decide) _ 0 [] rfl hown0 b0 n c xs rfl hl (by omega) (fun j u hj => hra.cell hj) hone (by omega) (by simp) ?_; intro g' cap' w4 hown' hk2)
  rw [Nat.zero_add, List.nil_append] at hown'
  go_ret
  exact ⟨g', cap', by simp, hown', Kp.own (Ext.alloc _ _) hown0 hk2 (Nat.le_refl _)⟩
theorem one_slots (l : List (ByteArray × ByteArray)) : ∀ v ∈ slotCells enc l, v.oneCell' = true := by
  intro v hv
  obtain ⟨s, _, hs⟩ := List.mem_flatMap.1 hv
  simp at hs
  rcases hs with rfl | rfl
  · rfl
  · rfl

theorem Copy_w (w : World) (f : Ft) (m : M ByteArray) (hI : Is w f m) (hM : Small m) : Calls Tryd.prog 44 #[.pointer (some ⟨f.b, 0, none⟩)] w fun e w' =>
    ∃ f', e = .returned (.pointer (some ⟨f'.b, 0, none⟩)) ∧ Is w' f' m ∧ New w w' f' := by
  have h1 := hM.pw.pos
  have hle := hM.pw.le
  have hmd := fun w' (h : Is w' f m) => md_w w' f m h hM.pw
  have hsl := hM.sl
  have hone := one_slots m.sl
  have hcl2 := slotCells_length enc m.sl
  obtain ⟨g, hg⟩ : ∃ g, Hid (m.ws.length = g) := ⟨_, Lib.hid rfl⟩
  have hst := hI.st
  unfold Ft.cells at hst
  rw [hg.out] at h1 hle hsl hst
  have c0 : w.cell? ⟨f.b, 0, none⟩ = some (.int .u64 m.k0) := hst.cell rfl
  have c1 : w.cell? ⟨f.b, 1, none⟩ = some (.int .u64 m.k1) := hst.cell rfl
  have c2 : w.cell? ⟨f.b, 2, none⟩ = some (.slice (some ⟨f.bw, 0, none⟩) g f.cw) := hst.cell rfl
  have c3 : w.cell? ⟨f.b, 3, none⟩ = some (.slice (some ⟨f.bs, 0, none⟩) (8 * g) f.cs) := hst.cell rfl
  have c4 : w.cell? ⟨f.b, 4, none⟩ = some (.int .i64 m.n) := hst.cell rfl
  have c5 : w.cell? ⟨f.b, 5, none⟩ = some (.int .i64 m.t) := hst.cell rfl
  have hlb := hI.st.lt
  go_enter Tryd.func44, Tryd.ntmps44
  go_wp2_with (go_at_call 65; refine (hmd _ hI).mono ?_; rintro e w1 ⟨rfl, rfl⟩)
  have hB := At.new w #[.int .u64 m.k0, .int .u64 m.k1, .slice (some ⟨f.bw, 0, none⟩) g f.cw, .slice (some ⟨f.bs, 0, none⟩) (8 * g) f.cs, .int .i64 m.n, .int .i64 m.t] 106
  have hE0 := Ext.alloc w (.cells #[.int .u64 m.k0, .int .u64 m.k1, .slice (some ⟨f.bw, 0, none⟩) g f.cw, .slice (some ⟨f.bs, 0, none⟩) (8 * g) f.cs, .int .i64 m.n, .int .i64 m.t] 106)
  clear c0 c1 c4 c5
  generalize w.alloc (.cells #[.int .u64 m.k0, .int .u64 m.k1, .slice (some ⟨f.bw, 0, none⟩) g f.cw, .slice (some ⟨f.bs, 0, none⟩) (8 * g) f.cs, .int .i64 m.n, .int .i64 m.t] 106) = w0 at *
  have d2 := hE0.cell c2
  have d3 := hE0.cell c3
  have hs0 := hB.lt
  apply Rg.regionL (Ext) [.c _ _, .c _ _, .c _ _, .c _ _, ⟨fun v W => ∃ b cap, v = .slice (some ⟨b, 0, none⟩) g cap ∧ Row W b 22 (m.ws.map u64V) ∧ w0.heap.size ≤ b, fun v W W2 h hr => let ⟨b, cap, e, hc, hl⟩ := h; ⟨b, cap, e, hc.kp hr (fun f => f), hl⟩⟩, .c _ _, .c _ _, .c _ _, .c _ _, ⟨fun v W => ∃ b cap, v = .slice (some ⟨b, 0, none⟩) (8 * g) cap ∧ Row W b 109 (slotCells enc m.sl) ∧ w0.heap.size ≤ b, fun v W W2 h hr => let ⟨b, cap, e, hc, hl⟩ := h; ⟨b, cap, e, hc.kp hr (fun f => f), hl⟩⟩]
    [(some 10, 0), (some 11, 1), (some 12, 2), (some 13, 3), (some 14, 4), (some 15, 5), (some 16, 6), (some 17, 7), (some 18, 8), (some 19, 9)]
    [[], [(some 10, 0)], [(some 11, 1)], [(some 12, 2)], [(some 13, 3)], [], [(some 15, 5)], [(some 16, 6)], [(some 17, 7)], [(some 18, 8)]]
    (by kernel_rfl) (by kernel_rfl) Ext.refl Ext.trans
  case hops =>
    refine ⟨?_, ?_, ?_, ?_, ?_, ?_, ?_, ?_, ?_, ?_, trivial⟩
    · intro vs W hR 
      simp only [Rg.Deps, Rg.frameE, List.foldl]
      go_wp2
      exact ⟨_, rfl, Ext.refl _, rfl⟩
    · intro vs W hR h0
      replace h0 : vs 0 = _ := h0
      simp only [Rg.Deps, Rg.frameE, List.foldl, h0]
      go_wp2
      exact ⟨_, rfl, Ext.refl _, rfl⟩
    · intro vs W hR h1
      replace h1 : vs 1 = _ := h1
      simp only [Rg.Deps, Rg.frameE, List.foldl, h1]
      go_wp2
      exact ⟨_, rfl, Ext.refl _, rfl⟩
    · intro vs W hR h2
      replace h2 : vs 2 = _ := h2
      have fx0 := hR.cell d2
      have fx1 := hR.cell d3
      simp only [Rg.Deps, Rg.frameE, List.foldl, h2]
      go_wp2
      exact ⟨_, rfl, Ext.refl _, rfl⟩
    · intro vs W hR h3
      replace h3 : vs 3 = _ := h3
      have fx0 := hR.cell d2
      have fx1 := hR.cell d3
      simp only [Rg.Deps, Rg.frameE, List.foldl, h3]
      have hrw := hI.wd.kp (Ext.trans _ _ _ hE0 (Ext.trans _ _ _ (Ext.drew w0) hR)) (fun f => f)
      go_wp2_with (go_at_call 79; refine (cloneW_w f.bw g _ (m.ws.map u64V) (by simp [hg.out]) (by omega) (by omega) (fun v hv => by obtain ⟨x, _, rfl⟩ := List.mem_map.1 hv; rfl) W hrw).mono ?_; rintro e w3 ⟨b, cap, rfl, hr, hE⟩)
      exact ⟨_, rfl, hE, b, cap, rfl, Row.own hr, by have := hR.size; have := (hr.lt b rfl).1; simp at *; omega⟩
    · intro vs W hR 
      simp only [Rg.Deps, Rg.frameE, List.foldl]
      go_wp2
      exact ⟨_, rfl, Ext.refl _, rfl⟩
    · intro vs W hR h5
      replace h5 : vs 5 = _ := h5
      simp only [Rg.Deps, Rg.frameE, List.foldl, h5]
      go_wp2
      exact ⟨_, rfl, Ext.refl _, rfl⟩
    · intro vs W hR h6
      replace h6 : vs 6 = _ := h6
      simp only [Rg.Deps, Rg.frameE, List.foldl, h6]
      go_wp2
      exact ⟨_, rfl, Ext.refl _, rfl⟩
    · intro vs W hR h7
      replace h7 : vs 7 = _ := h7
      have fx0 := hR.cell d2
      have fx1 := hR.cell d3
      simp only [Rg.Deps, Rg.frameE, List.foldl, h7]
      go_wp2
      exact ⟨_, rfl, Ext.refl _, rfl⟩
    · intro vs W hR h8
      replace h8 : vs 8 = _ := h8
      have fx0 := hR.cell d2
      have fx1 := hR.cell d3
      simp only [Rg.Deps, Rg.frameE, List.foldl, h8]
      have hrw := hI.sl.kp (Ext.trans _ _ _ hE0 (Ext.trans _ _ _ (Ext.drew w0) hR)) (fun f => f)
      go_wp2_with (go_at_call 87; refine (cloneS_w f.bs (8 * g) _ (slotCells enc m.sl) (by rw [hcl2, hsl]; omega) (by omega) (by omega) hone W hrw).mono ?_; rintro e w3 ⟨b, cap, rfl, hr, hE⟩)
      exact ⟨_, rfl, hE, b, cap, rfl, Row.own hr, by have := hR.size; have := (hr.lt b rfl).1; simp at *; omega⟩
  case htail =>
    intro vs W hR h0 h1 h2 h3 h4 h5 h6 h7 h8 h9
    replace h0 : vs 0 = _ := h0
    replace h1 : vs 1 = _ := h1
    replace h2 : vs 2 = _ := h2
    replace h3 : vs 3 = _ := h3
    obtain ⟨b4, p4, h4, hr4, hl4⟩ := h4
    replace h5 : vs 5 = _ := h5
    replace h6 : vs 6 = _ := h6
    replace h7 : vs 7 = _ := h7
    replace h8 : vs 8 = _ := h8
    obtain ⟨b9, p9, h9, hr9, hl9⟩ := h9
    simp only [Rg.Facts, Rg.frameE, List.foldl, List.drop, List.length, h0, h1, h2, h3, h4, h5, h6, h7, h8, h9]
    clear h0 h1 h2 h3 h4 h5 h6 h7 h8 h9
    simp only [Act.put, List.setIfInBounds_toArray, List.set_cons_zero, List.set_cons_succ]
    have hBW := At.ext hR hB
    have e2 : W.cell? ⟨w.heap.size, 2, none⟩ = some (.slice (some ⟨f.bw, 0, none⟩) g f.cw) := hBW.cell rfl
    have e3 : W.cell? ⟨w.heap.size, 3, none⟩ = some (.slice (some ⟨f.bs, 0, none⟩) (8 * g) f.cs) := hBW.cell rfl
    have f2 := hBW.frozen 2
    have f3 := hBW.frozen 3
    have hEW : Ext w W := Ext.trans _ _ _ hE0 (Ext.trans _ _ _ (Ext.drew w0) hR)
    have hszw := hE0.size
    clear d2 d3 c2 c3
    go_wp2
    go_ret
    have hKW := ((Ext.kp hEW : Kp (fun k => k = w.heap.size) w W).setCell (a := ⟨w.heap.size, 2, none⟩) (.inl rfl) (.slice (some ⟨b4, 0, none⟩) g p4)).setCell (a := ⟨w.heap.size, 3, none⟩) (.inl rfl) (.slice (some ⟨b9, 0, none⟩) (8 * g) p9)
    have hst2 := (hBW.set 2 (.slice (some ⟨b4, 0, none⟩) g p4)).set 3 (.slice (some ⟨b9, 0, none⟩) (8 * g) p9)
    refine ⟨⟨w.heap.size, b4, p4, b9, p9⟩, rfl, ⟨?_, ?_, ?_, ?_, ?_⟩, Kp.mono hKW (fun k hk e => by omega), ?_⟩
    · unfold Ft.cells; rw [hg.out]; exact hst2
    · exact (hr4.setO (a := ⟨w.heap.size, 2, none⟩) (show b4 ≠ w.heap.size by omega) _).setO (a := ⟨w.heap.size, 3, none⟩) (show b4 ≠ w.heap.size by omega) _
    · exact (hr9.setO (a := ⟨w.heap.size, 2, none⟩) (show b9 ≠ w.heap.size by omega) _).setO (a := ⟨w.heap.size, 3, none⟩) (show b9 ≠ w.heap.size by omega) _
    · exact ⟨show w.heap.size ≠ 0 by omega, show b4 ≠ 0 by omega, show b9 ≠ 0 by omega⟩
    · refine ⟨show w.heap.size ≠ b4 by omega, show w.heap.size ≠ b9 by omega, ?_⟩
      show b4 ≠ b9
      rintro rfl
      obtain ⟨c1, hA1, _⟩ := hr4
      obtain ⟨c2, hA2, _⟩ := hr9
      unfold At at hA1 hA2
      rw [hA1] at hA2
      cases hA2
    · rintro k (e | e | e)
      · exact Nat.le_of_eq e.symm
      · have : k = b4 := e
        omega
      · have : k = b9 := e
        omega
end Go.Proofs.YtiopkkjcgdcgmaaDoor.s
