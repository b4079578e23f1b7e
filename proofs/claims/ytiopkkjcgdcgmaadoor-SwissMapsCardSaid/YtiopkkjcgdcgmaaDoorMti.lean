/- The map: Put. -/
import Derived.Test.YtiopkkjcgdcgmaaDoorMri
namespace Go.Proofs.YtiopkkjcgdcgmaaDoor.i
open Go.RowKit Go.Rg Go.Nm Go.Gp Go.Mp
set_option maxHeartbeats 1000000
set_option maxRecDepth 20000
def From (w : World) (f f' : Ft) : Prop := f'.b = f.b ∧ ∀ k, f'.fp k → f.fp k ∨ w.heap.size ≤ k
theorem From.refl (w : World) (f : Ft) : From w f f := ⟨rfl, fun _ h => .inl h⟩

theorem Put_w (w : World) (f : Ft) (m : M Int) (hI : Is w f m) (hM : Small m) (hSh : Sh w) (key : ByteArray) (hk : key.size ≤ maxLen) (v : Int) (hR : fnd m key < 0 → m.n < 2000 → 7 * (m.ws.length : Int) ≤ m.n + m.t → Rok m) :
    Calls Tryd.prog 54 #[.pointer (some ⟨f.b, 0, none⟩), .string key, enc v] w fun e w' =>
      e = .returned (.tuple #[.bool (put m key v).2.1, .int .i64 (put m key v).2.2]) ∧ ∃ f', From w f f' ∧ Is w' f' (put m key v).1 ∧ Kp f.fp w w' := by
  have hF := find_w w f m hI hM key hk
  change Calls _ _ _ _ (fun e w' => e = .returned (.int .i64 (fnd m key)) ∧ Ext w w') at hF
  have hle := hM.pw.le
  have hlb := hI.st.lt
  obtain ⟨g, hg⟩ : ∃ g, Hid (m.ws.length = g) := ⟨_, Lib.hid rfl⟩
  have hst := hI.st
  unfold Ft.cells at hst
  rw [hg.out] at hst hle
  have hmd := fun w' (h : Is w' f m) => md_w w' f m h hM.pw
  unfold enc
  rcases fnd_cases m key with hq | ⟨q, hq, hql⟩
  · have hneg : ¬ 0 ≤ fnd m key := by rw [hq]; decide
    rw [hq] at hF
    have hnb := hM.n
    have htb := hM.t
    by_cases h2 : 2000 ≤ m.n
    · have hp : Hid (put m key v = (m, false, 7)) := Lib.hid (by unfold put; rw [if_neg hneg, if_pos h2])
      have c4 : w.cell? ⟨f.b, 4, none⟩ = some (.int .i64 m.n) := hst.cell rfl
      go_enter Tryd.func54, Tryd.ntmps54
      go_wp2_with (first
        | (go_at_call 90; refine (hmd _ hI).mono ?_; rintro e w1 ⟨rfl, rfl⟩)
        | (go_at_call 91; refine hF.mono ?_; rintro e w1 ⟨rfl, hE⟩; have c4' := hE.cell c4))
      go_ret2
      rw [hp.out]
      exact ⟨rfl, f, From.refl _ _, hI.ext hE, hE.kp⟩
    · have hp : Hid (put m key v = (lay (roomy m) key v, false, 0)) := Lib.hid (by unfold put; rw [if_neg hneg, if_neg h2])
      have h2' : m.n < 2000 := by omega
      have hR' := hR (by omega) h2'
      rw [hg.out] at hR'
      have c4 : w.cell? ⟨f.b, 4, none⟩ = some (.int .i64 m.n) := hst.cell rfl
      have c5 : w.cell? ⟨f.b, 5, none⟩ = some (.int .i64 m.t) := hst.cell rfl
      have c2 : w.cell? ⟨f.b, 2, none⟩ = some (.slice (some ⟨f.bw, 0, none⟩) g f.cw) := hst.cell rfl
      by_cases h7 : 7 * (g : Int) ≤ m.n + m.t
      · have hro : Hid (roomy m = rehash m) := Lib.hid (by unfold roomy; rw [hg.out, if_pos h7])
        have hRok := hR' h7
        go_enter Tryd.func54, Tryd.ntmps54
        go_wp2_with (first
          | (go_at_call 90; refine (hmd _ hI).mono ?_; rintro e w1 ⟨rfl, rfl⟩)
          | (go_at_call 91; refine hF.mono ?_; rintro e w1 ⟨rfl, hE⟩; have c4' := hE.cell c4; have c5' := hE.cell c5; have c2' := hE.cell c2))
        apply Rg.regionL (Ext) [.c _ _, .c _ _, .c _ _, .c _ _, .c _ _, .c _ _, .c _ _, .c _ _, .c _ _, .c _ _, .c _ _, .c _ _, .c _ _, .c _ _, .c _ _, .c _ _, .c _ _]
          [(some 32, 0), (some 33, 1), (some 34, 2), (some 35, 3), (some 36, 4), (some 37, 5), (some 38, 6), (some 39, 7), (some 40, 8), (some 41, 9), (some 42, 10), (some 43, 11), (some 44, 12), (some 45, 13), (some 46, 14), (some 47, 15), (some 31, 16)]
          [[], [(some 32, 0)], [(some 33, 1)], [(some 34, 2)], [], [(some 36, 4)], [(some 37, 5)], [(some 38, 6)], [(some 35, 3), (some 39, 7)], [], [(some 41, 9)], [(some 42, 10)], [(some 43, 11)], [(some 44, 12)], [(some 45, 13)], [(some 40, 8), (some 46, 14)], [(some 47, 15)]]
          (by kernel_rfl) (by kernel_rfl) Ext.refl Ext.trans
        case hops =>
          refine ⟨?_, ?_, ?_, ?_, ?_, ?_, ?_, ?_, ?_, ?_, ?_, ?_, ?_, ?_, ?_, ?_, ?_, trivial⟩
          · intro vs W hR 
            simp only [Rg.Deps, Rg.frameE, List.foldl]
            go_wp2
            exact ⟨_, rfl, Ext.refl _, rfl⟩
          · intro vs W hR h0
            replace h0 : vs 0 = _ := h0
            simp only [Rg.Deps, Rg.frameE, List.foldl, h0]
            go_wp2
            exact ⟨_, rfl, Ext.refl _, rfl⟩
          · intro vs W hR h1
            replace h1 : vs 1 = _ := h1
            simp only [Rg.Deps, Rg.frameE, List.foldl, h1]
            go_wp2
            exact ⟨_, rfl, Ext.refl _, rfl⟩
          · intro vs W hR h2
            replace h2 : vs 2 = _ := h2
            have fx0 := hR.cell c2'
            have fx1 := hR.cell c4'
            have fx2 := hR.cell c5'
            simp only [Rg.Deps, Rg.frameE, List.foldl, h2]
            go_wp2
            exact ⟨_, rfl, Ext.refl _, rfl⟩
          · intro vs W hR 
            simp only [Rg.Deps, Rg.frameE, List.foldl]
            go_wp2
            exact ⟨_, rfl, Ext.refl _, rfl⟩
          · intro vs W hR h4
            replace h4 : vs 4 = _ := h4
            simp only [Rg.Deps, Rg.frameE, List.foldl, h4]
            go_wp2
            exact ⟨_, rfl, Ext.refl _, rfl⟩
          · intro vs W hR h5
            replace h5 : vs 5 = _ := h5
            simp only [Rg.Deps, Rg.frameE, List.foldl, h5]
            go_wp2
            exact ⟨_, rfl, Ext.refl _, rfl⟩
          · intro vs W hR h6
            replace h6 : vs 6 = _ := h6
            have fx0 := hR.cell c2'
            have fx1 := hR.cell c4'
            have fx2 := hR.cell c5'
            simp only [Rg.Deps, Rg.frameE, List.foldl, h6]
            go_wp2
            exact ⟨_, rfl, Ext.refl _, rfl⟩
          · intro vs W hR h3 h7
            replace h3 : vs 3 = _ := h3
            replace h7 : vs 7 = _ := h7
            simp only [Rg.Deps, Rg.frameE, List.foldl, h3, h7]
            go_wp2
            exact ⟨_, rfl, Ext.refl _, rfl⟩
          · intro vs W hR 
            simp only [Rg.Deps, Rg.frameE, List.foldl]
            go_wp2
            exact ⟨_, rfl, Ext.refl _, rfl⟩
          · intro vs W hR h9
            replace h9 : vs 9 = _ := h9
            simp only [Rg.Deps, Rg.frameE, List.foldl, h9]
            go_wp2
            exact ⟨_, rfl, Ext.refl _, rfl⟩
          · intro vs W hR h10
            replace h10 : vs 10 = _ := h10
            simp only [Rg.Deps, Rg.frameE, List.foldl, h10]
            go_wp2
            exact ⟨_, rfl, Ext.refl _, rfl⟩
          · intro vs W hR h11
            replace h11 : vs 11 = _ := h11
            have fx0 := hR.cell c2'
            have fx1 := hR.cell c4'
            have fx2 := hR.cell c5'
            simp only [Rg.Deps, Rg.frameE, List.foldl, h11]
            go_wp2
            exact ⟨_, rfl, Ext.refl _, rfl⟩
          · intro vs W hR h12
            replace h12 : vs 12 = _ := h12
            have fx0 := hR.cell c2'
            have fx1 := hR.cell c4'
            have fx2 := hR.cell c5'
            simp only [Rg.Deps, Rg.frameE, List.foldl, h12]
            go_wp2
            exact ⟨_, rfl, Ext.refl _, rfl⟩
          · intro vs W hR h13
            replace h13 : vs 13 = _ := h13
            simp only [Rg.Deps, Rg.frameE, List.foldl, h13]
            go_wp2
            exact ⟨_, rfl, Ext.refl _, rfl⟩
          · intro vs W hR h8 h14
            replace h8 : vs 8 = _ := h8
            replace h14 : vs 14 = _ := h14
            simp only [Rg.Deps, Rg.frameE, List.foldl, h8, h14]
            go_wp2
            exact ⟨_, rfl, Ext.refl _, rfl⟩
          · intro vs W hR h15
            replace h15 : vs 15 = _ := h15
            simp only [Rg.Deps, Rg.frameE, List.foldl, h15]
            go_wp2
            exact ⟨_, rfl, Ext.refl _, rfl⟩
        case htail =>
          intro vs W hR h0 h1 h2 h3 h4 h5 h6 h7 h8 h9 h10 h11 h12 h13 h14 h15 h16
          replace h0 : vs 0 = _ := h0
          replace h1 : vs 1 = _ := h1
          replace h2 : vs 2 = _ := h2
          replace h3 : vs 3 = _ := h3
          replace h4 : vs 4 = _ := h4
          replace h5 : vs 5 = _ := h5
          replace h6 : vs 6 = _ := h6
          replace h7 : vs 7 = _ := h7
          replace h8 : vs 8 = _ := h8
          replace h9 : vs 9 = _ := h9
          replace h10 : vs 10 = _ := h10
          replace h11 : vs 11 = _ := h11
          replace h12 : vs 12 = _ := h12
          replace h13 : vs 13 = _ := h13
          replace h14 : vs 14 = _ := h14
          replace h15 : vs 15 = _ := h15
          replace h16 : vs 16 = _ := h16
          simp only [Rg.Facts, Rg.frameE, List.foldl, List.drop, List.length, h0, h1, h2, h3, h4, h5, h6, h7, h8, h9, h10, h11, h12, h13, h14, h15, h16]
          clear h0 h1 h2 h3 h4 h5 h6 h7 h8 h9 h10 h11 h12 h13 h14 h15 h16
          simp only [wpList, Act.put, List.setIfInBounds_toArray, List.set_cons_zero, List.set_cons_succ]
          have hEW : Ext w W := Ext.trans _ _ _ hE (Ext.trans _ _ _ (Ext.drew w1) hR)
          have hreh := rehash_w W f m (hI.ext hEW) hM (hSh.kp hEW (fun f => f)) hRok.pg hRok.sm hRok.key
          clear hR c2 c4 c5 c2' c4' c5' hst
          go_wp2_with (first
            | (go_at_call 92; refine hreh.mono ?_; rintro e w3 ⟨⟨x3, rfl⟩, f3, hb3, hI3, hK3, hw3, hs3⟩; have hlay := lay_w w3 f3 (rehash m) hI3 (hRok.sm _ (Nat.le_refl _)) (Sh.kp (hSh.kp hEW (fun f => f)) hK3 (fun e => hI.nz.1 e.symm)) key hk v; rw [hb3] at hlay; unfold enc at hlay)
            | (go_at_call 93; refine hlay.mono ?_; rintro e w4 ⟨⟨x4, rfl⟩, hI4, hK4⟩))
          go_ret2
          rw [hp.out, hro.out]
          have hszW := hEW.size
          refine ⟨rfl, f3, ⟨hb3, ?_⟩, hI4, ?_⟩
          · rintro k (rfl | rfl | rfl)
            · exact .inl (.inl hb3)
            · exact .inr (by omega)
            · exact .inr (by omega)
          · refine Kp.join ((Ext.kp hEW).trans (Kp.mono hK3 (fun k _ hk => .inl hk))) hK4 ?_
            rintro b hb (rfl | rfl | rfl)
            · exact .inl hb3
            · omega
            · omega
      · have hro : Hid (roomy m = m) := Lib.hid (by unfold roomy; rw [hg.out, if_neg h7])
        go_enter Tryd.func54, Tryd.ntmps54
        go_wp2_with (first
          | (go_at_call 90; refine (hmd _ hI).mono ?_; rintro e w1 ⟨rfl, rfl⟩)
          | (go_at_call 91; refine hF.mono ?_; rintro e w1 ⟨rfl, hE⟩; have c4' := hE.cell c4; have c5' := hE.cell c5; have c2' := hE.cell c2))
        apply Rg.regionL (Ext) [.c _ _, .c _ _, .c _ _, .c _ _, .c _ _, .c _ _, .c _ _, .c _ _, .c _ _, .c _ _, .c _ _, .c _ _, .c _ _, .c _ _, .c _ _, .c _ _, .c _ _]
          [(some 32, 0), (some 33, 1), (some 34, 2), (some 35, 3), (some 36, 4), (some 37, 5), (some 38, 6), (some 39, 7), (some 40, 8), (some 41, 9), (some 42, 10), (some 43, 11), (some 44, 12), (some 45, 13), (some 46, 14), (some 47, 15), (some 31, 16)]
          [[], [(some 32, 0)], [(some 33, 1)], [(some 34, 2)], [], [(some 36, 4)], [(some 37, 5)], [(some 38, 6)], [(some 35, 3), (some 39, 7)], [], [(some 41, 9)], [(some 42, 10)], [(some 43, 11)], [(some 44, 12)], [(some 45, 13)], [(some 40, 8), (some 46, 14)], [(some 47, 15)]]
          (by kernel_rfl) (by kernel_rfl) Ext.refl Ext.trans
        case hops =>
          refine ⟨?_, ?_, ?_, ?_, ?_, ?_, ?_, ?_, ?_, ?_, ?_, ?_, ?_, ?_, ?_, ?_, ?_, trivial⟩
          · intro vs W hR 
            simp only [Rg.Deps, Rg.frameE, List.foldl]
            go_wp2
            exact ⟨_, rfl, Ext.refl _, rfl⟩
          · intro vs W hR h0
            replace h0 : vs 0 = _ := h0
            simp only [Rg.Deps, Rg.frameE, List.foldl, h0]
            go_wp2
            exact ⟨_, rfl, Ext.refl _, rfl⟩
          · intro vs W hR h1
            replace h1 : vs 1 = _ := h1
            simp only [Rg.Deps, Rg.frameE, List.foldl, h1]
            go_wp2
            exact ⟨_, rfl, Ext.refl _, rfl⟩
          · intro vs W hR h2
            replace h2 : vs 2 = _ := h2
            have fx0 := hR.cell c2'
            have fx1 := hR.cell c4'
            have fx2 := hR.cell c5'
            simp only [Rg.Deps, Rg.frameE, List.foldl, h2]
            go_wp2
            exact ⟨_, rfl, Ext.refl _, rfl⟩
          · intro vs W hR 
            simp only [Rg.Deps, Rg.frameE, List.foldl]
            go_wp2
            exact ⟨_, rfl, Ext.refl _, rfl⟩
          · intro vs W hR h4
            replace h4 : vs 4 = _ := h4
            simp only [Rg.Deps, Rg.frameE, List.foldl, h4]
            go_wp2
            exact ⟨_, rfl, Ext.refl _, rfl⟩
          · intro vs W hR h5
            replace h5 : vs 5 = _ := h5
            simp only [Rg.Deps, Rg.frameE, List.foldl, h5]
            go_wp2
            exact ⟨_, rfl, Ext.refl _, rfl⟩
          · intro vs W hR h6
            replace h6 : vs 6 = _ := h6
            have fx0 := hR.cell c2'
            have fx1 := hR.cell c4'
            have fx2 := hR.cell c5'
            simp only [Rg.Deps, Rg.frameE, List.foldl, h6]
            go_wp2
            exact ⟨_, rfl, Ext.refl _, rfl⟩
          · intro vs W hR h3 h7
            replace h3 : vs 3 = _ := h3
            replace h7 : vs 7 = _ := h7
            simp only [Rg.Deps, Rg.frameE, List.foldl, h3, h7]
            go_wp2
            exact ⟨_, rfl, Ext.refl _, rfl⟩
          · intro vs W hR 
            simp only [Rg.Deps, Rg.frameE, List.foldl]
            go_wp2
            exact ⟨_, rfl, Ext.refl _, rfl⟩
          · intro vs W hR h9
            replace h9 : vs 9 = _ := h9
            simp only [Rg.Deps, Rg.frameE, List.foldl, h9]
            go_wp2
            exact ⟨_, rfl, Ext.refl _, rfl⟩
          · intro vs W hR h10
            replace h10 : vs 10 = _ := h10
            simp only [Rg.Deps, Rg.frameE, List.foldl, h10]
            go_wp2
            exact ⟨_, rfl, Ext.refl _, rfl⟩
          · intro vs W hR h11
            replace h11 : vs 11 = _ := h11
            have fx0 := hR.cell c2'
            have fx1 := hR.cell c4'
            have fx2 := hR.cell c5'
            simp only [Rg.Deps, Rg.frameE, List.foldl, h11]
            go_wp2
            exact ⟨_, rfl, Ext.refl _, rfl⟩
          · intro vs W hR h12
            replace h12 : vs 12 = _ := h12
            have fx0 := hR.cell c2'
            have fx1 := hR.cell c4'
            have fx2 := hR.cell c5'
            simp only [Rg.Deps, Rg.frameE, List.foldl, h12]
            go_wp2
            exact ⟨_, rfl, Ext.refl _, rfl⟩
          · intro vs W hR h13
            replace h13 : vs 13 = _ := h13
            simp only [Rg.Deps, Rg.frameE, List.foldl, h13]
            go_wp2
            exact ⟨_, rfl, Ext.refl _, rfl⟩
          · intro vs W hR h8 h14
            replace h8 : vs 8 = _ := h8
            replace h14 : vs 14 = _ := h14
            simp only [Rg.Deps, Rg.frameE, List.foldl, h8, h14]
            go_wp2
            exact ⟨_, rfl, Ext.refl _, rfl⟩
          · intro vs W hR h15
            replace h15 : vs 15 = _ := h15
            simp only [Rg.Deps, Rg.frameE, List.foldl, h15]
            go_wp2
            exact ⟨_, rfl, Ext.refl _, rfl⟩
        case htail =>
          intro vs W hR h0 h1 h2 h3 h4 h5 h6 h7 h8 h9 h10 h11 h12 h13 h14 h15 h16
          replace h0 : vs 0 = _ := h0
          replace h1 : vs 1 = _ := h1
          replace h2 : vs 2 = _ := h2
          replace h3 : vs 3 = _ := h3
          replace h4 : vs 4 = _ := h4
          replace h5 : vs 5 = _ := h5
          replace h6 : vs 6 = _ := h6
          replace h7 : vs 7 = _ := h7
          replace h8 : vs 8 = _ := h8
          replace h9 : vs 9 = _ := h9
          replace h10 : vs 10 = _ := h10
          replace h11 : vs 11 = _ := h11
          replace h12 : vs 12 = _ := h12
          replace h13 : vs 13 = _ := h13
          replace h14 : vs 14 = _ := h14
          replace h15 : vs 15 = _ := h15
          replace h16 : vs 16 = _ := h16
          simp only [Rg.Facts, Rg.frameE, List.foldl, List.drop, List.length, h0, h1, h2, h3, h4, h5, h6, h7, h8, h9, h10, h11, h12, h13, h14, h15, h16]
          clear h0 h1 h2 h3 h4 h5 h6 h7 h8 h9 h10 h11 h12 h13 h14 h15 h16
          simp only [wpList, Act.put, List.setIfInBounds_toArray, List.set_cons_zero, List.set_cons_succ]
          have hEW : Ext w W := Ext.trans _ _ _ hE (Ext.trans _ _ _ (Ext.drew w1) hR)
          have hlay := lay_w W f m (hI.ext hEW) hM (hSh.kp hEW (fun f => f)) key hk v
          unfold enc at hlay
          clear hR c2 c4 c5 c2' c4' c5' hst
          go_wp2_with (go_at_call 93; refine hlay.mono ?_; rintro e w4 ⟨⟨x4, rfl⟩, hI4, hK4⟩)
          go_ret2
          rw [hp.out, hro.out]
          exact ⟨rfl, f, From.refl _ _, hI4, (Ext.kp hEW).trans hK4⟩
  · have hp : Hid (put m key v = (stor m q v, true, 0)) := Lib.hid (by unfold put; rw [hq, if_pos (by omega)]; rfl)
    rw [hq] at hF
    rw [hg.out] at hql
    have hqs := hM.sAt hql hg
    have hsa := slotCells_at enc m.sl q _ hqs
    have c3 : w.cell? ⟨f.b, 3, none⟩ = some (.slice (some ⟨f.bs, 0, none⟩) (8 * g) f.cs) := hst.cell rfl
    have hs1 := hI.sl.cell hsa.2
    have fs1 := hI.sl.frozen (q * 2 + 1)
    have hlt := hI.sl.lt
    go_enter Tryd.func54, Tryd.ntmps54
    go_wp2_with (first
      | (go_at_call 90; refine (hmd _ hI).mono ?_; rintro e w1 ⟨rfl, rfl⟩)
      | (go_at_call 91; refine hF.mono ?_; rintro e w1 ⟨rfl, hE⟩; have c3' := hE.cell c3; have hs1' := hE.cell hs1; have fs1' := (hE.frozen (i := q * 2 + 1) hlt).trans fs1))
    go_ret2
    rw [hp.out]
    have hI1 := hI.ext hE
    refine ⟨rfl, f, From.refl _ _, ⟨?_, ?_, ?_, hI.nz, hI.ne⟩, (Ext.kp hE).setCell (a := ⟨f.bs, q * 2 + 1, none⟩) (.inl (.inr (.inr rfl))) _⟩
    · exact hI1.st.setO (a := ⟨f.bs, q * 2 + 1, none⟩) hI.ne.2.1 _
    · exact hI1.wd.setO (a := ⟨f.bs, q * 2 + 1, none⟩) hI.ne.2.2 _
    · unfold stor
      rw [slotCells_set1 enc m.sl q _ v hqs]
      exact hI1.sl.set (j := q * 2 + 1) (List.getElem?_eq_some_iff.1 hsa.2).1 _
end Go.Proofs.YtiopkkjcgdcgmaaDoor.i
