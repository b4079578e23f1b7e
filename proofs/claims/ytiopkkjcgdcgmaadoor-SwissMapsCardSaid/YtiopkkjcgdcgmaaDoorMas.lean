/- The map: made, New, and what only looks at its fields. -/
import Derived.Test.YtiopkkjcgdcgmaaDoorRp
namespace Go.Proofs.YtiopkkjcgdcgmaaDoor.s
open Go.RowKit Go.Rg Go.Nm Go.Gp Go.Mp
set_option maxHeartbeats 1000000
set_option maxRecDepth 20000
abbrev enc : ByteArray → Value := Value.string
abbrev Is (w : World) (f : Ft) (m : M ByteArray) : Prop := IsM enc 106 109 w f m
abbrev zero : Value := enc default
theorem infoS : (Tryd.prog.info? 109).map (fun i => (i.zero, i.size, i.bytes)) = some (some (.agg #[.string ByteArray.empty, zero]), 2, 32) := by kernel_rfl

theorem zsize : (Value.agg #[.string ByteArray.empty, zero]).cells.size = 2 := by first | rfl | simp [Value.cells, enc, zero]
theorem slots_made : ∀ n : Nat, (madeCells (Value.agg #[.string ByteArray.empty, zero]).cells (n * 2)).toList = slotCells enc (List.replicate n (noKey, default)) := by
  have hc : (Value.agg #[.string ByteArray.empty, zero]).cells = #[.string ByteArray.empty, zero] := by first | rfl | simp [Value.cells, enc, zero]
  rw [hc]
  intro n
  apply List.ext_getElem?
  intro j
  rcases Nat.lt_or_ge j (n * 2) with hj | hj
  · have h2 := slotCells_at enc (List.replicate n (noKey, (default : ByteArray))) (j / 2) (noKey, default) (by rw [List.getElem?_replicate, if_pos (by omega)])
    rcases Nat.mod_two_eq_zero_or_one j with hm | hm
    · have e : j = j / 2 * 2 := by omega
      have h3 := h2.1
      rw [← e] at h3
      rw [h3]
      simp [madeCells, hj, hm]; rfl
    · have e : j = j / 2 * 2 + 1 := by omega
      have h3 := h2.2
      rw [← e] at h3
      rw [h3]
      simp [madeCells, hj, hm]
  · rw [List.getElem?_eq_none (by simp [madeCells]; omega), List.getElem?_eq_none (by rw [slotCells_length]; simp; omega)]

def New (w w' : World) (f : Ft) : Prop := Ext w w' ∧ ∀ k, f.fp k → w.heap.size ≤ k
theorem made_w (k0 k1 g : Nat) (hP : Pw g) (w : World) (hw : 0 < w.heap.size) :
    Calls Tryd.prog 63 #[.agg #[.int .u64 k0, .int .u64 k1], .int .i64 g] w fun e w' => ∃ f, e = .returned (.pointer (some ⟨f.b, 0, none⟩)) ∧ Is w' f (made k0 k1 g) ∧ New w w' f := by
  have hg1 := hP.pos
  have hg2 := hP.le
  go_enter Tryd.func63, Tryd.ntmps63
  go_wp2
  have hA0 : At (w.alloc (.cells #[.int .u64 k0, .int .u64 k1] 24)) w.heap.size #[.int .u64 k0, .int .u64 k1] 24 := At.new _ _ _
  have hE0 : Ext w (w.alloc (.cells #[.int .u64 k0, .int .u64 k1] 24)) := Ext.alloc _ _
  generalize w.alloc (.cells #[.int .u64 k0, .int .u64 k1] 24) = w0 at *
  have c0 : w0.cell? ⟨w.heap.size, 0, none⟩ = some (.int .u64 k0) := hA0.cell rfl
  have c1 : w0.cell? ⟨w.heap.size, 1, none⟩ = some (.int .u64 k1) := hA0.cell rfl
  have hs0 := hE0.size
  apply Rg.regionL (Ext) [.c _ _, ⟨fun v W => ∃ b, v = .slice (some ⟨b, 0, none⟩) 1 1 ∧ W.cell? ⟨b, 0, none⟩ = some (.int .u64 noWord), fun v W W' h hr => let ⟨b, e, hc⟩ := h; ⟨b, e, Ext.cell hr hc⟩⟩, .c _ _, ⟨fun v W => ∃ b, v = .slice (some ⟨b, 0, none⟩) g g ∧ Row W b 22 (List.replicate g (u64V noWord)) ∧ w.heap.size ≤ b, fun v W W' h hr => let ⟨b, e, hc, hl⟩ := h; ⟨b, e, hc.kp hr (fun f => f), hl⟩⟩, .c _ _, .c _ _, ⟨fun v W => ∃ b, v = .slice (some ⟨b, 0, none⟩) (8 * g) (8 * g) ∧ At W b (madeCells (Value.agg #[.string ByteArray.empty, zero]).cells (8 * g * 2)) 109 ∧ w.heap.size ≤ b, fun v W W' h hr => let ⟨b, e, hc, hl⟩ := h; ⟨b, e, At.ext hr hc, hl⟩⟩]
    [(some 5, 0), (some 6, 1), (some 7, 2), (some 8, 3), (some 9, 4), (some 10, 5), (some 11, 6)]
    [[], [], [], [(some 6, 1), (some 7, 2)], [], [(some 9, 4)], [(some 10, 5)]]
    (by kernel_rfl) (by kernel_rfl) Ext.refl Ext.trans
  case hops =>
    refine ⟨?_, ?_, ?_, ?_, ?_, ?_, ?_, trivial⟩
    · intro vs W hR 
      have fx0 := hR.cell c0
      have fx1 := hR.cell c1
      simp only [Rg.Deps, Rg.frameE, List.foldl]
      go_wp2
      exact ⟨_, rfl, Ext.refl _, rfl⟩
    · intro vs W hR 
      have fx0 := hR.cell c0
      have fx1 := hR.cell c1
      simp only [Rg.Deps, Rg.frameE, List.foldl]
      go_wp2
      exact ⟨_, rfl, Ext.alloc _ _, _, rfl, (At.new W _ _).cell rfl⟩
    · intro vs W hR 
      simp only [Rg.Deps, Rg.frameE, List.foldl]
      go_wp2
      exact ⟨_, rfl, Ext.refl _, rfl⟩
    · intro vs W hR h1 h2
      obtain ⟨b1, h1, hc1⟩ := h1
      replace h2 : vs 2 = _ := h2
      have fx0 := hR.cell c0
      have fx1 := hR.cell c1
      simp only [Rg.Deps, Rg.frameE, List.foldl, h1, h2]
      go_wp2_with (go_at_call 96; refine (repeat_w g noWord b1 hg1 hg2 W hc1).mono ?_; rintro e w3 ⟨b, rfl, hr, hE, hl⟩)
      exact ⟨_, rfl, hE, b, rfl, hr, by have := hR.size; simp at this; omega⟩
    · intro vs W hR 
      simp only [Rg.Deps, Rg.frameE, List.foldl]
      go_wp2
      exact ⟨_, rfl, Ext.refl _, rfl⟩
    · intro vs W hR h4
      replace h4 : vs 4 = _ := h4
      simp only [Rg.Deps, Rg.frameE, List.foldl, h4]
      go_wp2
      exact ⟨_, rfl, Ext.refl _, rfl⟩
    · intro vs W hR h5
      replace h5 : vs 5 = _ := h5
      have fx0 := hR.cell c0
      have fx1 := hR.cell c1
      simp only [Rg.Deps, Rg.frameE, List.foldl, h5]
      go_wp2_with (at_make; refine makeL rfl _ _ 104 rfl 109 infoS Tryd.underlying104 (by decide) _ _ _ _ (8 * g) rfl rfl (by simp) (by simp) (by omega) ?_; intro w3 hA3 hE3)
      exact ⟨_, rfl, hE3, _, rfl, hA3, by have := hR.size; simp at this; omega⟩
  case htail =>
    intro vs W hR h0 h1 h2 h3 h4 h5 h6
    replace h0 : vs 0 = _ := h0
    obtain ⟨b1, h1, hc1⟩ := h1
    replace h2 : vs 2 = _ := h2
    obtain ⟨b3, h3, hr3, hl3⟩ := h3
    replace h4 : vs 4 = _ := h4
    replace h5 : vs 5 = _ := h5
    obtain ⟨b6, h6, hr6, hl6⟩ := h6
    simp only [Rg.Facts, Rg.frameE, List.foldl, List.drop, List.length, h0, h1, h2, h3, h4, h5, h6]
    clear h0 h1 h2 h3 h4 h5 h6
    simp only [Act.put, List.setIfInBounds_toArray, List.set_cons_zero, List.set_cons_succ]
    go_wp2
    have hEW : Ext w W := Ext.trans _ _ _ hE0 (Ext.trans _ _ _ (Ext.drew w0) hR)
    have hsW := hEW.size
    have hsW2 := hR.size
    have hlt := hr3.lt
    go_ret
    refine ⟨⟨W.heap.size, b3, g, b6, 8 * g⟩, rfl, ⟨?_, ?_, ?_, ?_, ?_⟩, Kp.alloc hEW _, ?_⟩
    · have := At.new W (Ft.cells ⟨W.heap.size, b3, g, b6, 8 * g⟩ (made (α := ByteArray) k0 k1 g)) 106
      simpa [Ft.cells, made] using this
    · rw [show (made (α := ByteArray) k0 k1 g).ws.map u64V = List.replicate g (u64V noWord) by simp [made]]
      exact hr3.alloc _
    · rw [show slotCells enc (made (α := ByteArray) k0 k1 g).sl = _ from (slots_made (8 * g)).symm]
      exact Row.alloc (⟨_, hr6, List.prefix_refl _⟩ : Row W b6 109 _) _
    · exact ⟨show W.heap.size ≠ 0 by omega, show b3 ≠ 0 by omega, show b6 ≠ 0 by omega⟩
    · have h6 := hr6.lt
      refine ⟨show W.heap.size ≠ b3 by omega, show W.heap.size ≠ b6 by omega, ?_⟩
      show b3 ≠ b6
      rintro rfl
      obtain ⟨cur, hA3, _⟩ := hr3
      unfold At at hA3 hr6
      rw [hA3] at hr6
      cases hr6
    · rintro k (rfl | rfl | rfl)
      · exact hsW
      · exact hl3
      · exact hl6

theorem New_w (k0 k1 : Nat) (n : Int) (w : World) :
    Calls Tryd.prog 13 #[.agg #[.int .u64 k0, .int .u64 k1], .int .i64 n] w fun e w' => (need n = 0 ∧ e = .returned (.pointer none) ∧ Ext w w') ∨
      (need n ≠ 0 ∧ ∃ f, e = .returned (.pointer (some ⟨f.b, 0, none⟩)) ∧ Is w' f (made k0 k1 (need n)) ∧ New w w' f) := by
  obtain ⟨g, hg⟩ : ∃ g, Hid (need n = g) := ⟨_, Lib.hid rfl⟩
  have HN := Lib.hid (need_w n)
  rw [hg.out] at HN ⊢
  by_cases h0 : g = 0
  · subst h0
    go_enter Tryd.func13, Tryd.ntmps13
    go_wp2_with (go_at_call 62; refine (HN.out _).mono ?_; rintro e w1 ⟨rfl, rfl⟩)
    go_ret
    exact .inl ⟨by trivial, rfl, Ext.alloc _ _⟩
  · have hP : Pw g := by rw [← hg.out]; exact need_pw (by rw [hg.out]; exact h0)
    have hb : ((g : Int) == 0) = false := by simp; omega
    have c0 : (w.alloc (.cells #[.int .u64 k0, .int .u64 k1] 24)).cell? ⟨w.heap.size, 0, none⟩ = some (.int .u64 k0) := (At.new _ _ _).cell rfl
    have c1 : (w.alloc (.cells #[.int .u64 k0, .int .u64 k1] 24)).cell? ⟨w.heap.size, 1, none⟩ = some (.int .u64 k1) := (At.new _ _ _).cell rfl
    go_enter Tryd.func13, Tryd.ntmps13
    go_wp2_with (first
      | (go_at_call 62; refine (HN.out _).mono ?_; rintro e w1 ⟨rfl, rfl⟩)
      | (go_at_call 63; refine (made_w k0 k1 g hP _ (by simp)).mono ?_; rintro e w1 ⟨f, rfl, hI, hE, hn⟩))
    go_ret
    exact .inr ⟨h0, f, rfl, hI, Ext.trans _ _ _ (Ext.alloc _ _) hE, fun k hk => by have := hn k hk; simp at this; omega⟩

theorem md_w (w : World) (f : Ft) (m : M ByteArray) (hI : Is w f m) (hP : Pw m.ws.length) : Calls Tryd.prog 65 #[.pointer (some ⟨f.b, 0, none⟩)] w fun e w' => e = .returned (.bool true) ∧ w = w' := by
  have h1 := hP.pos
  have h2 := hP.le
  have c2 : w.cell? ⟨f.b, 2, none⟩ = some (.slice (some ⟨f.bw, 0, none⟩) m.ws.length f.cw) := hI.st.cell rfl
  go_enter Tryd.func65, Tryd.ntmps65
  go_wp2
  go_ret
  exact ⟨by simp; omega, rfl⟩
theorem md_nil (w : World) : Calls Tryd.prog 65 #[.pointer none] w fun e w' => e = .returned (.bool false) ∧ w = w' := by
  go_enter Tryd.func65, Tryd.ntmps65
  go_wp2
  go_ret
  exact ⟨rfl, rfl⟩
theorem Len_w (w : World) (f : Ft) (m : M ByteArray) (hI : Is w f m) (hP : Pw m.ws.length) : Calls Tryd.prog 18 #[.pointer (some ⟨f.b, 0, none⟩)] w fun e w' => e = .returned (.int .i64 m.n) ∧ w = w' := by
  have c4 : w.cell? ⟨f.b, 4, none⟩ = some (.int .i64 m.n) := hI.st.cell rfl
  go_enter Tryd.func18, Tryd.ntmps18
  go_wp2_with (go_at_call 65; refine (md_w _ f m hI hP).mono ?_; rintro e w1 ⟨rfl, rfl⟩)
  go_ret
  exact ⟨rfl, rfl⟩
theorem Tombs_w (w : World) (f : Ft) (m : M ByteArray) (hI : Is w f m) (hP : Pw m.ws.length) : Calls Tryd.prog 36 #[.pointer (some ⟨f.b, 0, none⟩)] w fun e w' => e = .returned (.int .i64 m.t) ∧ w = w' := by
  have c5 : w.cell? ⟨f.b, 5, none⟩ = some (.int .i64 m.t) := hI.st.cell rfl
  go_enter Tryd.func36, Tryd.ntmps36
  go_wp2_with (go_at_call 65; refine (md_w _ f m hI hP).mono ?_; rintro e w1 ⟨rfl, rfl⟩)
  go_ret
  exact ⟨rfl, rfl⟩
end Go.Proofs.YtiopkkjcgdcgmaaDoor.s
