/- The map: Delete. -/
import Derived.Test.YtiopkkjcgdcgmaaDoorMti
namespace Go.Proofs.YtiopkkjcgdcgmaaDoor.i
open Go.RowKit Go.Rg Go.Nm Go.Gp Go.Mp
set_option maxHeartbeats 1000000
set_option maxRecDepth 20000
theorem drop_is {W' : World} {f : Ft} {m : M Int} {g x q wd c xq : Nat} {tv : Int} (hg : m.ws.length = g) (hx : q / 8 = x) (hwd : m.w x = wd) (hc : c = if matchN wd 128 = 0 then 254 else 128)
    (hxq : setN wd (q % 8) c = xq) (htv : tv = if matchN wd 128 = 0 then m.t + 1 else m.t)
    (h1 : At W' f.b #[.int .u64 m.k0, .int .u64 m.k1, .slice (some ⟨f.bw, 0, none⟩) g f.cw, .slice (some ⟨f.bs, 0, none⟩) (8 * g) f.cs, .int .i64 (m.n - 1), .int .i64 tv] 94)
    (h2 : Row W' f.bw 22 ((m.ws.map u64V).set x (.int .u64 (xq : Nat)))) (h3 : Row W' f.bs 135 (((slotCells enc m.sl).set (q * 2) (.string ByteArray.empty)).set (q * 2 + 1) zero))
    (nz : f.b ≠ 0 ∧ f.bw ≠ 0 ∧ f.bs ≠ 0) (ne : f.b ≠ f.bw ∧ f.b ≠ f.bs ∧ f.bw ≠ f.bs) : Is W' f (drop m q) := by
  have hp : drop m q = { m with t := tv, ws := m.ws.set x xq, sl := m.sl.set q (noKey, default), n := m.n - 1 } := by
    unfold drop; rw [hx, hwd]; simp only [← hc, hxq, htv]
  rw [hp]
  refine ⟨?_, ?_, ?_, nz, ne⟩
  · unfold Ft.cells; simp only [List.length_set, hg]; exact h1
  · simp only [List.map_set]; exact h2
  · rw [slotCells_set]; exact h3

theorem Del_w (w : World) (f : Ft) (m : M Int) (hI : Is w f m) (hM : Small m) (hSh : Sh w) (key : ByteArray) (hk : key.size ≤ maxLen) :
    Calls Tryd.prog 56 #[.pointer (some ⟨f.b, 0, none⟩), .string key] w fun e w' =>
      e = .returned (.bool (del m key).2) ∧ Is w' f (del m key).1 ∧ Kp f.fp w w' := by
  have hF := find_w w f m hI hM key hk
  change Calls _ _ _ _ (fun e w' => e = .returned (.int .i64 (fnd m key)) ∧ Ext w w') at hF
  have hle := hM.pw.le
  obtain ⟨g, hg⟩ : ∃ g, Hid (m.ws.length = g) := ⟨_, Lib.hid rfl⟩
  have hst := hI.st
  unfold Ft.cells at hst
  rw [hg.out] at hst hle
  have hmd := fun w' (h : Is w' f m) => md_w w' f m h hM.pw
  rcases fnd_cases m key with hq | ⟨q, hq, hql⟩
  · have hp : Hid (del m key = (m, false)) := Lib.hid (by unfold del; rw [hq, if_pos (by decide)])
    rw [hq] at hF
    go_enter Tryd.func56, Tryd.ntmps56
    go_wp2_with (first
      | (go_at_call 90; refine (hmd _ hI).mono ?_; rintro e w1 ⟨rfl, rfl⟩)
      | (go_at_call 91; refine hF.mono ?_; rintro e w1 ⟨rfl, hE⟩))
    go_ret
    rw [hp.out]
    exact ⟨rfl, hI.ext hE, hE.kp⟩
  · have hp : Hid (del m key = (drop m q, true)) := Lib.hid (by unfold del; rw [hq, if_neg (by omega)]; rfl)
    rw [hq] at hF
    rw [hg.out] at hql
    have hqs := hM.sAt hql hg
    have hsa := slotCells_at enc m.sl q _ hqs
    obtain ⟨x, hxx⟩ : ∃ x, Hid (q / 8 = x) := ⟨_, Lib.hid rfl⟩
    have hx : x < g := by have := hxx.out; omega
    have hxc : (q : Int) / 8 = (x : Int) := by have := hxx.out; omega
    have hwU : m.w x < U := hM.wlt hx hg
    have hwc : (m.ws.map u64V)[x]? = some (u64V (m.w x)) := hM.wAt hx hg
    obtain ⟨wd, hwd⟩ : ∃ wd, Hid (m.w x = wd) := ⟨_, Lib.hid rfl⟩
    rw [hwd.out] at hwU
    have hnb := hM.n
    have htb := hM.t
    by_cases he : matchN wd 128 = 0
    · go_enter Tryd.func56, Tryd.ntmps56
      have c2x : w.cell? ⟨f.b, 2, none⟩ = some (.slice (some ⟨f.bw, 0, none⟩) g f.cw) := hst.cell rfl
      have c5x : w.cell? ⟨f.b, 5, none⟩ = some (.int .i64 m.t) := hst.cell rfl
      have cwx := hI.wd.cell hwc
      rw [hwd.out] at cwx
      unfold u64V at cwx
      have hlb := hI.st.lt
      go_wp2_with (first
        | (go_at_call 90; refine (hmd _ hI).mono ?_; rintro e w1 ⟨rfl, rfl⟩)
        | (go_at_call 91; refine hF.mono ?_; rintro e w1 ⟨rfl, hE⟩; have c2' := hE.cell c2x; have c5' := hE.cell c5x; have cw' := hE.cell cwx; have f5 := (At.ext hE hst).frozen 5)
        | (go_at_call 67; refine (empties_w wd hwU _).mono ?_; rw [he]; rintro e w1 ⟨rfl, rfl⟩))
      have hst1 := (At.ext hE hst).set 5 (.int .i64 (m.t + 1))
      have hwd1 := (hI.wd.kp hE (fun f => f)).setO (a := ⟨f.b, 5, none⟩) (Ne.symm hI.ne.1) (.int .i64 (m.t + 1))
      have hsl1 := (hI.sl.kp hE (fun f => f)).setO (a := ⟨f.b, 5, none⟩) (Ne.symm hI.ne.2.1) (.int .i64 (m.t + 1))
      have hK1 : Kp f.fp w _ := (Ext.kp hE).setCell (a := ⟨f.b, 5, none⟩) (.inl (.inl rfl)) (.int .i64 (m.t + 1))
      have hSh1 := hSh.kp hK1 (fun e => by rcases e with e | e | e; exact hI.nz.1 e.symm; exact hI.nz.2.1 e.symm; exact hI.nz.2.2 e.symm)
      clear c2x c5x cwx c2' c5' cw' f5
      generalize World.setCell w1 ⟨f.b, 5, none⟩ (.int .i64 (m.t + 1)) = W2 at *
      have hiU : q < 9223372036854775808 := by omega
      obtain ⟨xq, hxq⟩ : ∃ xq, Hid (setN wd (q % 8) 254 = xq) := ⟨_, Lib.hid rfl⟩
      have c2 : World.cell? W2 ⟨f.b, 2, none⟩ = some (.slice (some ⟨f.bw, 0, none⟩) g f.cw) := hst1.cell rfl
      have cw := hwd1.cell hwc
      rw [hwd.out] at cw
      unfold u64V at cw
      apply Rg.regionL (Ext) [.c _ _, .c _ _, .c _ _, .c _ _, .c _ _, .c _ _, .c _ _, .c _ _, .c _ _, .c _ _, .c _ _, .c _ _, .c _ _, .c _ _, .c _ _]
        [(some 34, 0), (some 35, 1), (some 36, 2), (some 37, 3), (some 38, 4), (some 39, 5), (some 40, 6), (some 41, 7), (some 42, 8), (some 43, 9), (some 44, 10), (some 45, 11), (some 46, 12), (some 47, 13), (some 48, 14)]
        [[], [(some 34, 0)], [(some 35, 1)], [(some 36, 2)], [], [], [(some 39, 5)], [(some 40, 6)], [(some 41, 7)], [], [(some 42, 8), (some 43, 9)], [(some 44, 10)], [], [], [(some 45, 11), (some 46, 12), (some 47, 13)]]
        (by kernel_rfl) (by kernel_rfl) Ext.refl Ext.trans
      case hops =>
        refine ⟨?_, ?_, ?_, ?_, ?_, ?_, ?_, ?_, ?_, ?_, ?_, ?_, ?_, ?_, ?_, trivial⟩
        · intro vs W hR 
          simp only [Rg.Deps, Rg.frameE, List.foldl]
          go_wp2
          exact ⟨_, rfl, Ext.refl _, rfl⟩
        · intro vs W hR h0
          replace h0 : vs 0 = _ := h0
          simp only [Rg.Deps, Rg.frameE, List.foldl, h0]
          go_wp2
          exact ⟨_, rfl, Ext.refl _, rfl⟩
        · intro vs W hR h1
          replace h1 : vs 1 = _ := h1
          simp only [Rg.Deps, Rg.frameE, List.foldl, h1]
          go_wp2
          exact ⟨_, rfl, Ext.refl _, rfl⟩
        · intro vs W hR h2
          replace h2 : vs 2 = _ := h2
          have fx0 := hR.cell c2
          have fx1 := hR.cell cw
          simp only [Rg.Deps, Rg.frameE, List.foldl, h2]
          go_wp2
          exact ⟨_, rfl, Ext.refl _, rfl⟩
        · intro vs W hR 
          simp only [Rg.Deps, Rg.frameE, List.foldl]
          go_wp2
          exact ⟨_, rfl, Ext.refl _, rfl⟩
        · intro vs W hR 
          simp only [Rg.Deps, Rg.frameE, List.foldl]
          go_wp2
          exact ⟨_, rfl, Ext.refl _, rfl⟩
        · intro vs W hR h5
          replace h5 : vs 5 = _ := h5
          simp only [Rg.Deps, Rg.frameE, List.foldl, h5]
          go_wp2
          exact ⟨_, rfl, Ext.refl _, rfl⟩
        · intro vs W hR h6
          replace h6 : vs 6 = _ := h6
          simp only [Rg.Deps, Rg.frameE, List.foldl, h6]
          go_wp2
          exact ⟨_, rfl, Ext.refl _, rfl⟩
        · intro vs W hR h7
          replace h7 : vs 7 = _ := h7
          have fx0 := hR.cell c2
          have fx1 := hR.cell cw
          simp only [Rg.Deps, Rg.frameE, List.foldl, h7]
          go_wp2
          exact ⟨_, rfl, Ext.refl _, rfl⟩
        · intro vs W hR 
          simp only [Rg.Deps, Rg.frameE, List.foldl]
          go_wp2
          exact ⟨_, rfl, Ext.refl _, rfl⟩
        · intro vs W hR h8 h9
          replace h8 : vs 8 = _ := h8
          replace h9 : vs 9 = _ := h9
          have fx0 := hR.cell c2
          have fx1 := hR.cell cw
          simp only [Rg.Deps, Rg.frameE, List.foldl, h8, h9]
          go_wp2
          exact ⟨_, rfl, Ext.refl _, rfl⟩
        · intro vs W hR h10
          replace h10 : vs 10 = _ := h10
          have fx0 := hR.cell c2
          have fx1 := hR.cell cw
          simp only [Rg.Deps, Rg.frameE, List.foldl, h10]
          go_wp2
          exact ⟨_, rfl, Ext.refl _, rfl⟩
        · intro vs W hR 
          simp only [Rg.Deps, Rg.frameE, List.foldl]
          go_wp2
          exact ⟨_, rfl, Ext.refl _, rfl⟩
        · intro vs W hR 
          simp only [Rg.Deps, Rg.frameE, List.foldl]
          go_wp2
          exact ⟨_, rfl, Ext.refl _, rfl⟩
        · intro vs W hR h11 h12 h13
          replace h11 : vs 11 = _ := h11
          replace h12 : vs 12 = _ := h12
          replace h13 : vs 13 = _ := h13
          have fx0 := hR.cell c2
          have fx1 := hR.cell cw
          simp only [Rg.Deps, Rg.frameE, List.foldl, h11, h12, h13]
          have hsetw := set_w wd q 254 hwU hiU (by decide) W (hSh1.kp (Kp.trans (Ext.drew _) hR) (fun f => f))
          rw [hxq.out] at hsetw
          go_wp2_with (go_at_call 68; refine hsetw.mono ?_; rintro e w1 ⟨rfl, rfl⟩)
          exact ⟨_, rfl, Ext.refl _, rfl⟩
      case htail =>
        intro vs W hR h0 h1 h2 h3 h4 h5 h6 h7 h8 h9 h10 h11 h12 h13 h14
        replace h0 : vs 0 = _ := h0
        replace h1 : vs 1 = _ := h1
        replace h2 : vs 2 = _ := h2
        replace h3 : vs 3 = _ := h3
        replace h4 : vs 4 = _ := h4
        replace h5 : vs 5 = _ := h5
        replace h6 : vs 6 = _ := h6
        replace h7 : vs 7 = _ := h7
        replace h8 : vs 8 = _ := h8
        replace h9 : vs 9 = _ := h9
        replace h10 : vs 10 = _ := h10
        replace h11 : vs 11 = _ := h11
        replace h12 : vs 12 = _ := h12
        replace h13 : vs 13 = _ := h13
        replace h14 : vs 14 = _ := h14
        simp only [Rg.Facts, Rg.frameE, List.foldl, List.drop, List.length, h0, h1, h2, h3, h4, h5, h6, h7, h8, h9, h10, h11, h12, h13, h14]
        clear h0 h1 h2 h3 h4 h5 h6 h7 h8 h9 h10 h11 h12 h13 h14
        simp only [Act.put, List.setIfInBounds_toArray, List.set_cons_zero, List.set_cons_succ]
        have hsta := At.ext hR hst1
        have hwda := Row.kp hwd1 (Kp.trans (Ext.drew _) hR) (fun f => f)
        have hsla := Row.kp hsl1 (Kp.trans (Ext.drew _) hR) (fun f => f)
        have hKa : Kp f.fp w W := Kp.trans hK1.drew hR.kp
        have cwa := hwda.cell hwc
        rw [hwd.out] at cwa
        unfold u64V at cwa
        have fwa := hwda.frozen x
        have hstb := hsta.setO (a := ⟨f.bw, x, none⟩) hI.ne.1 (.int .u64 (xq : Nat))
        have hwdb := hwda.set (j := x) (by simp [hg.out, hx]) (.int .u64 (xq : Nat))
        have hslb := hsla.setO (a := ⟨f.bw, x, none⟩) (Ne.symm hI.ne.2.2) (.int .u64 (xq : Nat))
        have hKb := hKa.setCell (a := ⟨f.bw, x, none⟩) (.inl (.inr (.inl rfl))) (.int .u64 (xq : Nat))
        have c3 : (World.setCell W ⟨f.bw, x, none⟩ (.int .u64 (xq : Nat))).cell? ⟨f.b, 3, none⟩ = some (.slice (some ⟨f.bs, 0, none⟩) (8 * g) f.cs) := hstb.cell rfl
        have s0 := hslb.cell hsa.1
        have s1 := hslb.cell hsa.2
        have fs0 := hslb.frozen (q * 2)
        have fs1 := hslb.frozen (q * 2 + 1)
        have hstd := (hstb.setO (a := ⟨f.bs, q * 2, none⟩) hI.ne.2.1 (.string ⟨#[]⟩)).setO (a := ⟨f.bs, q * 2 + 1, none⟩) hI.ne.2.1 (Value.int .i64 0)
        have hwdd := (hwdb.setO (a := ⟨f.bs, q * 2, none⟩) hI.ne.2.2 (.string ⟨#[]⟩)).setO (a := ⟨f.bs, q * 2 + 1, none⟩) hI.ne.2.2 (Value.int .i64 0)
        have hsld := (hslb.set (j := q * 2) (List.getElem?_eq_some_iff.1 hsa.1).1 (.string ⟨#[]⟩)).set (j := q * 2 + 1) (by rw [List.length_set]; exact (List.getElem?_eq_some_iff.1 hsa.2).1) (Value.int .i64 0)
        have hKd := (hKb.setCell (a := ⟨f.bs, q * 2, none⟩) (.inl (.inr (.inr rfl))) (.string ⟨#[]⟩)).setCell (a := ⟨f.bs, q * 2 + 1, none⟩) (.inl (.inr (.inr rfl))) (Value.int .i64 0)
        have c4 := hstd.cell (i := 4) (v := .int .i64 m.n) rfl
        have f4 := hstd.frozen 4
        clear hR c2 cw hsta hwda hsla hKa hstb hwdb hslb hKb
        go_wp2
        go_ret
        rw [hp.out]
        refine ⟨rfl, ?_, hKd.setCell (a := ⟨f.b, 4, none⟩) (.inl (.inl rfl)) _⟩
        exact drop_is hg.out hxx.out hwd.out (if_pos he).symm hxq.out (if_pos he).symm (hstd.set 4 (.int .i64 (m.n - 1))) (hwdd.setO (a := ⟨f.b, 4, none⟩) (Ne.symm hI.ne.1) _) (hsld.setO (a := ⟨f.b, 4, none⟩) (Ne.symm hI.ne.2.1) _) hI.nz hI.ne
    · have heb : ((matchN wd 128 : Int) == 0) = false := by simp; omega
      go_enter Tryd.func56, Tryd.ntmps56
      have c2x : w.cell? ⟨f.b, 2, none⟩ = some (.slice (some ⟨f.bw, 0, none⟩) g f.cw) := hst.cell rfl
      have cwx := hI.wd.cell hwc
      rw [hwd.out] at cwx
      unfold u64V at cwx
      have hml := matchN_lt wd 128
      go_wp2_with (first
        | (go_at_call 90; refine (hmd _ hI).mono ?_; rintro e w1 ⟨rfl, rfl⟩)
        | (go_at_call 91; refine hF.mono ?_; rintro e w1 ⟨rfl, hE⟩; have c2' := hE.cell c2x; have cw' := hE.cell cwx)
        | (go_at_call 67; refine (empties_w wd hwU _).mono ?_; rintro e w1 ⟨rfl, rfl⟩))
      have hst1 := At.ext hE hst
      have hwd1 := hI.wd.kp hE (fun f => f)
      have hsl1 := hI.sl.kp hE (fun f => f)
      have hK1 : Kp f.fp w w1 := Ext.kp hE
      have hSh1 := hSh.kp hE (fun f => f)
      clear c2x cwx c2' cw'
      have hiU : q < 9223372036854775808 := by omega
      obtain ⟨xq, hxq⟩ : ∃ xq, Hid (setN wd (q % 8) 128 = xq) := ⟨_, Lib.hid rfl⟩
      have c2 : World.cell? w1 ⟨f.b, 2, none⟩ = some (.slice (some ⟨f.bw, 0, none⟩) g f.cw) := hst1.cell rfl
      have cw := hwd1.cell hwc
      rw [hwd.out] at cw
      unfold u64V at cw
      apply Rg.regionL (Ext) [.c _ _, .c _ _, .c _ _, .c _ _, .c _ _, .c _ _, .c _ _, .c _ _, .c _ _, .c _ _, .c _ _, .c _ _, .c _ _, .c _ _, .c _ _]
        [(some 34, 0), (some 35, 1), (some 36, 2), (some 37, 3), (some 38, 4), (some 39, 5), (some 40, 6), (some 41, 7), (some 42, 8), (some 43, 9), (some 44, 10), (some 45, 11), (some 46, 12), (some 47, 13), (some 48, 14)]
        [[], [(some 34, 0)], [(some 35, 1)], [(some 36, 2)], [], [], [(some 39, 5)], [(some 40, 6)], [(some 41, 7)], [], [(some 42, 8), (some 43, 9)], [(some 44, 10)], [], [], [(some 45, 11), (some 46, 12), (some 47, 13)]]
        (by kernel_rfl) (by kernel_rfl) Ext.refl Ext.trans
      case hops =>
        refine ⟨?_, ?_, ?_, ?_, ?_, ?_, ?_, ?_, ?_, ?_, ?_, ?_, ?_, ?_, ?_, trivial⟩
        · intro vs W hR 
          simp only [Rg.Deps, Rg.frameE, List.foldl]
          go_wp2
          exact ⟨_, rfl, Ext.refl _, rfl⟩
        · intro vs W hR h0
          replace h0 : vs 0 = _ := h0
          simp only [Rg.Deps, Rg.frameE, List.foldl, h0]
          go_wp2
          exact ⟨_, rfl, Ext.refl _, rfl⟩
        · intro vs W hR h1
          replace h1 : vs 1 = _ := h1
          simp only [Rg.Deps, Rg.frameE, List.foldl, h1]
          go_wp2
          exact ⟨_, rfl, Ext.refl _, rfl⟩
        · intro vs W hR h2
          replace h2 : vs 2 = _ := h2
          have fx0 := hR.cell c2
          have fx1 := hR.cell cw
          simp only [Rg.Deps, Rg.frameE, List.foldl, h2]
          go_wp2
          exact ⟨_, rfl, Ext.refl _, rfl⟩
        · intro vs W hR 
          simp only [Rg.Deps, Rg.frameE, List.foldl]
          go_wp2
          exact ⟨_, rfl, Ext.refl _, rfl⟩
        · intro vs W hR 
          simp only [Rg.Deps, Rg.frameE, List.foldl]
          go_wp2
          exact ⟨_, rfl, Ext.refl _, rfl⟩
        · intro vs W hR h5
          replace h5 : vs 5 = _ := h5
          simp only [Rg.Deps, Rg.frameE, List.foldl, h5]
          go_wp2
          exact ⟨_, rfl, Ext.refl _, rfl⟩
        · intro vs W hR h6
          replace h6 : vs 6 = _ := h6
          simp only [Rg.Deps, Rg.frameE, List.foldl, h6]
          go_wp2
          exact ⟨_, rfl, Ext.refl _, rfl⟩
        · intro vs W hR h7
          replace h7 : vs 7 = _ := h7
          have fx0 := hR.cell c2
          have fx1 := hR.cell cw
          simp only [Rg.Deps, Rg.frameE, List.foldl, h7]
          go_wp2
          exact ⟨_, rfl, Ext.refl _, rfl⟩
        · intro vs W hR 
          simp only [Rg.Deps, Rg.frameE, List.foldl]
          go_wp2
          exact ⟨_, rfl, Ext.refl _, rfl⟩
        · intro vs W hR h8 h9
          replace h8 : vs 8 = _ := h8
          replace h9 : vs 9 = _ := h9
          have fx0 := hR.cell c2
          have fx1 := hR.cell cw
          simp only [Rg.Deps, Rg.frameE, List.foldl, h8, h9]
          go_wp2
          exact ⟨_, rfl, Ext.refl _, rfl⟩
        · intro vs W hR h10
          replace h10 : vs 10 = _ := h10
          have fx0 := hR.cell c2
          have fx1 := hR.cell cw
          simp only [Rg.Deps, Rg.frameE, List.foldl, h10]
          go_wp2
          exact ⟨_, rfl, Ext.refl _, rfl⟩
        · intro vs W hR 
          simp only [Rg.Deps, Rg.frameE, List.foldl]
          go_wp2
          exact ⟨_, rfl, Ext.refl _, rfl⟩
        · intro vs W hR 
          simp only [Rg.Deps, Rg.frameE, List.foldl]
          go_wp2
          exact ⟨_, rfl, Ext.refl _, rfl⟩
        · intro vs W hR h11 h12 h13
          replace h11 : vs 11 = _ := h11
          replace h12 : vs 12 = _ := h12
          replace h13 : vs 13 = _ := h13
          have fx0 := hR.cell c2
          have fx1 := hR.cell cw
          simp only [Rg.Deps, Rg.frameE, List.foldl, h11, h12, h13]
          have hsetw := set_w wd q 128 hwU hiU (by decide) W (hSh1.kp (Kp.trans (Ext.drew _) hR) (fun f => f))
          rw [hxq.out] at hsetw
          go_wp2_with (go_at_call 68; refine hsetw.mono ?_; rintro e w1 ⟨rfl, rfl⟩)
          exact ⟨_, rfl, Ext.refl _, rfl⟩
      case htail =>
        intro vs W hR h0 h1 h2 h3 h4 h5 h6 h7 h8 h9 h10 h11 h12 h13 h14
        replace h0 : vs 0 = _ := h0
        replace h1 : vs 1 = _ := h1
        replace h2 : vs 2 = _ := h2
        replace h3 : vs 3 = _ := h3
        replace h4 : vs 4 = _ := h4
        replace h5 : vs 5 = _ := h5
        replace h6 : vs 6 = _ := h6
        replace h7 : vs 7 = _ := h7
        replace h8 : vs 8 = _ := h8
        replace h9 : vs 9 = _ := h9
        replace h10 : vs 10 = _ := h10
        replace h11 : vs 11 = _ := h11
        replace h12 : vs 12 = _ := h12
        replace h13 : vs 13 = _ := h13
        replace h14 : vs 14 = _ := h14
        simp only [Rg.Facts, Rg.frameE, List.foldl, List.drop, List.length, h0, h1, h2, h3, h4, h5, h6, h7, h8, h9, h10, h11, h12, h13, h14]
        clear h0 h1 h2 h3 h4 h5 h6 h7 h8 h9 h10 h11 h12 h13 h14
        simp only [Act.put, List.setIfInBounds_toArray, List.set_cons_zero, List.set_cons_succ]
        have hsta := At.ext hR hst1
        have hwda := Row.kp hwd1 (Kp.trans (Ext.drew _) hR) (fun f => f)
        have hsla := Row.kp hsl1 (Kp.trans (Ext.drew _) hR) (fun f => f)
        have hKa : Kp f.fp w W := Kp.trans hK1.drew hR.kp
        have cwa := hwda.cell hwc
        rw [hwd.out] at cwa
        unfold u64V at cwa
        have fwa := hwda.frozen x
        have hstb := hsta.setO (a := ⟨f.bw, x, none⟩) hI.ne.1 (.int .u64 (xq : Nat))
        have hwdb := hwda.set (j := x) (by simp [hg.out, hx]) (.int .u64 (xq : Nat))
        have hslb := hsla.setO (a := ⟨f.bw, x, none⟩) (Ne.symm hI.ne.2.2) (.int .u64 (xq : Nat))
        have hKb := hKa.setCell (a := ⟨f.bw, x, none⟩) (.inl (.inr (.inl rfl))) (.int .u64 (xq : Nat))
        have c3 : (World.setCell W ⟨f.bw, x, none⟩ (.int .u64 (xq : Nat))).cell? ⟨f.b, 3, none⟩ = some (.slice (some ⟨f.bs, 0, none⟩) (8 * g) f.cs) := hstb.cell rfl
        have s0 := hslb.cell hsa.1
        have s1 := hslb.cell hsa.2
        have fs0 := hslb.frozen (q * 2)
        have fs1 := hslb.frozen (q * 2 + 1)
        have hstd := (hstb.setO (a := ⟨f.bs, q * 2, none⟩) hI.ne.2.1 (.string ⟨#[]⟩)).setO (a := ⟨f.bs, q * 2 + 1, none⟩) hI.ne.2.1 (Value.int .i64 0)
        have hwdd := (hwdb.setO (a := ⟨f.bs, q * 2, none⟩) hI.ne.2.2 (.string ⟨#[]⟩)).setO (a := ⟨f.bs, q * 2 + 1, none⟩) hI.ne.2.2 (Value.int .i64 0)
        have hsld := (hslb.set (j := q * 2) (List.getElem?_eq_some_iff.1 hsa.1).1 (.string ⟨#[]⟩)).set (j := q * 2 + 1) (by rw [List.length_set]; exact (List.getElem?_eq_some_iff.1 hsa.2).1) (Value.int .i64 0)
        have hKd := (hKb.setCell (a := ⟨f.bs, q * 2, none⟩) (.inl (.inr (.inr rfl))) (.string ⟨#[]⟩)).setCell (a := ⟨f.bs, q * 2 + 1, none⟩) (.inl (.inr (.inr rfl))) (Value.int .i64 0)
        have c4 := hstd.cell (i := 4) (v := .int .i64 m.n) rfl
        have f4 := hstd.frozen 4
        clear hR c2 cw hsta hwda hsla hKa hstb hwdb hslb hKb
        go_wp2
        go_ret
        rw [hp.out]
        refine ⟨rfl, ?_, hKd.setCell (a := ⟨f.b, 4, none⟩) (.inl (.inl rfl)) _⟩
        exact drop_is hg.out hxx.out hwd.out (if_neg he).symm hxq.out (if_neg he).symm (hstd.set 4 (.int .i64 (m.n - 1))) (hwdd.setO (a := ⟨f.b, 4, none⟩) (Ne.symm hI.ne.1) _) (hsld.setO (a := ⟨f.b, 4, none⟩) (Ne.symm hI.ne.2.1) _) hI.nz hI.ne
end Go.Proofs.YtiopkkjcgdcgmaaDoor.i
