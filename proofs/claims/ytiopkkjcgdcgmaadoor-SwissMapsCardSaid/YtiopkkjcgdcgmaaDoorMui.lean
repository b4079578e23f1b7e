/- The map: full. -/
import Derived.Test.YtiopkkjcgdcgmaaDoorMli
namespace Go.Proofs.YtiopkkjcgdcgmaaDoor.i
open Go.RowKit Go.Rg Go.Nm Go.Gp Go.Mp
set_option maxHeartbeats 1000000
set_option maxRecDepth 20000
theorem fullN_lt (x : Nat) : fullN x < 256 := by unfold fullN; exact gatherN_lt _
theorem slotCells_append (a b : List (ByteArray × Int)) : slotCells enc (a ++ b) = slotCells enc a ++ slotCells enc b := by simp [slotCells]
theorem full_w (w : World) (f : Ft) (m : M Int) (hI : Is w f m) (hM : Small m) : Calls Tryd.prog 94 #[.pointer (some ⟨f.b, 0, none⟩)] w fun e w' =>
    ∃ sv, e = .returned sv ∧ w'.ownsRow w.heap.size 135 2 sv m.full.length (slotCells enc m.full) ∧ Ext w w' := by
  have hg2 := hM.pw.le
  obtain ⟨g, hg⟩ : ∃ g, Hid (m.ws.length = g) := ⟨_, Lib.hid rfl⟩
  have hst := hI.st
  unfold Ft.cells at hst
  unfold M.full
  rw [hg.out] at hg2 hst ⊢
  have c2 : w.cell? ⟨f.b, 2, none⟩ = some (.slice (some ⟨f.bw, 0, none⟩) g f.cw) := hst.cell rfl
  have c3w : w.cell? ⟨f.b, 3, none⟩ = some (.slice (some ⟨f.bs, 0, none⟩) (8 * g) f.cs) := hst.cell rfl
  have HC3 := Lib.hid c3w
  clear c3w hst
  go_enter Tryd.func94, Tryd.ntmps94
  go_wp2
  go_loopw [3, 12] (fun sv i wr => ∃ k : Nat, k ≤ g ∧ i = .int .i64 k ∧ wr.ownsRow w.heap.size 135 2 sv (m.fullTo k).length (slotCells enc (m.fullTo k)) ∧ Ext w wr) (fun _ i _ => g - (intOf i).toNat)
  case atStart => exact ⟨0, by omega, rfl, World.ownsRow_nil _ _ _ _, Ext.refl _⟩
  case round =>
    obtain ⟨k, hk, rfl, hown, hE⟩ := hrel
    by_cases hlt : k < g
    · have hwU : m.w k < U := hM.wlt hlt hg
      have hwc : (m.ws.map u64V)[k]? = some (u64V (m.w k)) := hM.wAt hlt hg
      have cw := hE.cell (hI.wd.cell hwc)
      obtain ⟨wd, hwd⟩ : ∃ wd, Hid (m.w k = wd) := ⟨_, Lib.hid rfl⟩
      rw [hwd.out] at hwU cw
      unfold u64V at cw
      have hfu := Go.Proofs.YtiopkkjcgdcgmaaDoor.full_w wd hwU wr
      have hflen := m.fullTo_len k
      have hglen := m.fullG_len k
      have hG : m.fullG k = [] ++ (bitsOf (fullN wd)).map fun i => m.s (8 * k + i) := by unfold M.fullG; rw [hwd.out, List.nil_append]
      have HG := Lib.hid hG
      clear hG
      go_wp2_with (go_at_call 110; refine hfu.mono ?_; rintro e w1 ⟨rfl, rfl⟩)
      go_loopw [3, 6] (fun sv s wr => ∃ (n : Nat) (dl : List (ByteArray × Int)), n < 256 ∧ s = .int .u8 n ∧ wr.ownsRow w.heap.size 135 2 sv ((m.fullTo k).length + dl.length) (slotCells enc (m.fullTo k) ++ slotCells enc dl) ∧ Ext w wr ∧ Hid (m.fullG k = dl ++ (bitsOf n).map fun i => m.s (8 * k + i))) (fun _ s _ => (intOf s).toNat)
      case atStart => exact ⟨fullN wd, [], fullN_lt wd, rfl, by simpa [slotCells] using hown, hE, HG⟩
      case round =>
        clear cw hown hE HG hfu
        obtain ⟨n, dl, hn, rfl, hown, hE, HG⟩ := hrel
        by_cases hn0 : n = 0
        · subst hn0
          have hd : dl = m.fullG k := by rw [HG.out, (bits_nil ⟨0, by decide⟩).1 rfl, List.map_nil, List.append_nil]
          subst hd
          go_wp2
          go_roundw
          case rel =>
            refine ⟨k + 1, by omega, by go_num, ?_, hE⟩
            rw [M.fullTo_succ, slotCells_append, List.length_append]; exact hown
          case measure => simp [intOf]; omega
        · obtain ⟨e1, e2, e3⟩ := bits_step ⟨n, hn⟩ hn0
          simp only at e1 e2 e3
          have hfi := fun w => first_w n hn w
          have hne := fun w => next_w n hn w
          obtain ⟨i, hi⟩ : ∃ i, tz8 n = i := ⟨_, rfl⟩
          rw [hi] at e1 e2 hfi
          have HE := Lib.hid e1
          clear hi e1
          have hq : 8 * k + i < 8 * g := by omega
          have hsa := slotCells_at enc m.sl (8 * k + i) _ (hM.sAt hq hg)
          obtain ⟨q, hqq⟩ : ∃ q, Hid (8 * k + i = q) := ⟨_, Lib.hid rfl⟩
          have hqc : (8 : Int) * (k : Int) + (i : Int) = (q : Int) := by have := hqq.out; omega
          rw [hqq.out] at hsa hq
          obtain ⟨ks, hks⟩ : ∃ ks, Hid ((m.s q).1 = ks) := ⟨_, Lib.hid rfl⟩
          obtain ⟨vv, hvv⟩ : ∃ vv, Hid ((m.s q).2 = vv) := ⟨_, Lib.hid rfl⟩
          rw [hks.out, hvv.out] at hsa
          unfold enc at hsa
          have hs0 := hE.cell (hI.sl.cell hsa.1)
          have hs1 := hE.cell (hI.sl.cell hsa.2)
          have c3 := hE.cell HC3.out
          have hdl : dl.length ≤ 8 := by
            have := hglen; rw [HG.out, List.length_append] at this; omega
          have hnb : ((n : Int) == 0) = false := by simp; omega
          have HG' : Hid (m.fullG k = (dl ++ [(ks, vv)]) ++ (bitsOf (nextN n)).map fun i => m.s (8 * k + i)) := Lib.hid (by
            rw [HG.out, HE.out, List.map_cons, hqq.out, List.append_assoc, ← hks.out, ← hvv.out]; rfl)
          go_wp2
          simp only [bne, hnb, Bool.not_false]
          apply Rg.regionL (Ext) [.c _ _, .c _ _, .c _ _, .c _ _, .c _ _, .c _ _, .c _ _, .c _ _, .c _ _, .c _ _, .c _ _, .c _ _, ⟨fun v W => ∃ b, v = .slice (some ⟨b, 0, none⟩) 1 1 ∧ At W b #[.string ks, (Value.int .i64) vv] 135, fun v W W2 h hr => let ⟨b, e, hc⟩ := h; ⟨b, e, At.ext hr hc⟩⟩]
            [(some 23, 0), (some 24, 1), (some 25, 2), (some 26, 3), (some 27, 4), (some 28, 5), (some 29, 6), (some 30, 7), (some 31, 8), (some 32, 9), (some 33, 10), (some 34, 11), (some 35, 12)]
            [[], [], [(some 24, 1)], [(some 25, 2)], [(some 26, 3)], [], [(some 28, 5)], [], [(some 30, 7)], [(some 29, 6), (some 31, 8)], [(some 27, 4), (some 32, 9)], [(some 33, 10)], [(some 34, 11)]]
            (by kernel_rfl) (by kernel_rfl) Ext.refl Ext.trans
          case hops =>
            refine ⟨?_, ?_, ?_, ?_, ?_, ?_, ?_, ?_, ?_, ?_, ?_, ?_, ?_, trivial⟩
            · intro vs W hR 
              simp only [Rg.Deps, Rg.frameE, List.foldl]
              go_wp2
              exact ⟨_, rfl, Ext.refl _, rfl⟩
            · intro vs W hR 
              simp only [Rg.Deps, Rg.frameE, List.foldl]
              go_wp2
              exact ⟨_, rfl, Ext.refl _, rfl⟩
            · intro vs W hR h1
              replace h1 : vs 1 = _ := h1
              simp only [Rg.Deps, Rg.frameE, List.foldl, h1]
              go_wp2
              exact ⟨_, rfl, Ext.refl _, rfl⟩
            · intro vs W hR h2
              replace h2 : vs 2 = _ := h2
              simp only [Rg.Deps, Rg.frameE, List.foldl, h2]
              go_wp2
              exact ⟨_, rfl, Ext.refl _, rfl⟩
            · intro vs W hR h3
              replace h3 : vs 3 = _ := h3
              have fx0 := hR.cell c3
              have fx1 := hR.cell hs0
              have fx2 := hR.cell hs1
              simp only [Rg.Deps, Rg.frameE, List.foldl, h3]
              go_wp2
              exact ⟨_, rfl, Ext.refl _, rfl⟩
            · intro vs W hR 
              simp only [Rg.Deps, Rg.frameE, List.foldl]
              go_wp2
              exact ⟨_, rfl, Ext.refl _, rfl⟩
            · intro vs W hR h5
              replace h5 : vs 5 = _ := h5
              simp only [Rg.Deps, Rg.frameE, List.foldl, h5]
              go_wp2
              exact ⟨_, rfl, Ext.refl _, rfl⟩
            · intro vs W hR 
              simp only [Rg.Deps, Rg.frameE, List.foldl]
              go_wp2
              exact ⟨_, rfl, Ext.refl _, rfl⟩
            · intro vs W hR h7
              replace h7 : vs 7 = _ := h7
              have fx0 := hR.cell c3
              have fx1 := hR.cell hs0
              have fx2 := hR.cell hs1
              simp only [Rg.Deps, Rg.frameE, List.foldl, h7]
              go_wp2_with (go_at_call 103; refine (hfi W).mono ?_; rintro e w1 ⟨rfl, rfl⟩)
              exact ⟨_, rfl, Ext.refl _, rfl⟩
            · intro vs W hR h6 h8
              replace h6 : vs 6 = _ := h6
              replace h8 : vs 8 = _ := h8
              simp only [Rg.Deps, Rg.frameE, List.foldl, h6, h8]
              go_wp2
              exact ⟨_, rfl, Ext.refl _, rfl⟩
            · intro vs W hR h4 h9
              replace h4 : vs 4 = _ := h4
              replace h9 : vs 9 = _ := h9
              have fx0 := hR.cell c3
              have fx1 := hR.cell hs0
              have fx2 := hR.cell hs1
              simp only [Rg.Deps, Rg.frameE, List.foldl, h4, h9]
              go_wp2
              exact ⟨_, rfl, Ext.refl _, rfl⟩
            · intro vs W hR h10
              replace h10 : vs 10 = _ := h10
              have fx0 := hR.cell c3
              have fx1 := hR.cell hs0
              have fx2 := hR.cell hs1
              simp only [Rg.Deps, Rg.frameE, List.foldl, h10]
              go_wp2
              exact ⟨_, rfl, Ext.refl _, rfl⟩
            · intro vs W hR h11
              replace h11 : vs 11 = _ := h11
              have fx0 := hR.cell c3
              have fx1 := hR.cell hs0
              have fx2 := hR.cell hs1
              simp only [Rg.Deps, Rg.frameE, List.foldl, h11]
              go_wp2
              exact ⟨_, rfl, Ext.alloc _ _, _, rfl, At.new W _ _⟩
          case htail =>
            intro vs W hR h0 h1 h2 h3 h4 h5 h6 h7 h8 h9 h10 h11 h12
            replace h0 : vs 0 = _ := h0
            replace h1 : vs 1 = _ := h1
            replace h2 : vs 2 = _ := h2
            replace h3 : vs 3 = _ := h3
            replace h4 : vs 4 = _ := h4
            replace h5 : vs 5 = _ := h5
            replace h6 : vs 6 = _ := h6
            replace h7 : vs 7 = _ := h7
            replace h8 : vs 8 = _ := h8
            replace h9 : vs 9 = _ := h9
            replace h10 : vs 10 = _ := h10
            replace h11 : vs 11 = _ := h11
            obtain ⟨bn, h12, hAn⟩ := h12
            simp only [Rg.Facts, Rg.frameE, List.foldl, List.drop, List.length, h0, h1, h2, h3, h4, h5, h6, h7, h8, h9, h10, h11, h12]
            clear h0 h1 h2 h3 h4 h5 h6 h7 h8 h9 h10 h11 h12
            simp only [Act.put, List.setIfInBounds_toArray, List.set_cons_zero, List.set_cons_succ]
            have hownW := row_ext hown (Ext.trans _ _ _ (Ext.drew wr) hR)
            have hEW : Ext w W := Ext.trans _ _ _ hE (Ext.trans _ _ _ (Ext.drew wr) hR)
            have hszW := hEW.size
            clear c3 hs0 hs1 hR
            have hAc0 : W.cell? ⟨bn, 0, none⟩ = some (.string ks) := hAn.cell rfl
            have hAc1 : W.cell? ⟨bn, 1, none⟩ = some ((Value.int .i64) vv) := hAn.cell rfl
            go_wp2_with (first
              | (at_builtin; refine appL (z := .agg #[.string ByteArray.empty, zero]) (sz := 2) (bytes := 24) rfl _ _ 92 rfl w.heap.size 135 infoS Tryd.underlying92 zsize (by decide) (by decide) _ ((m.fullTo k).length + dl.length) _ rfl hownW bn 1 [.string ks, (Value.int .i64) vv] rfl rfl (news2 hAc0 hAc1) (one2 rfl rfl) (by omega) hszW ?_; intro g' cap' w2 hown' hk2)
              | (go_at_call 102; refine (hne _).mono ?_; rintro e w1 ⟨rfl, rfl⟩))
            have hE2 : Ext w w2 := Kp.own hEW hownW hk2 (Nat.le_refl _)
            go_roundw
            case rel =>
              refine ⟨nextN n, dl ++ [(ks, vv)], by omega, rfl, ?_, hE2, HG'⟩
              rw [slotCells_append, List.length_append, ← List.append_assoc]; exact hown'
            case measure => simp [intOf]; omega
    · obtain rfl : k = g := by omega
      go_wp2
      go_ret
      exact ⟨_, rfl, hown, hE⟩
end Go.Proofs.YtiopkkjcgdcgmaaDoor.i
