/- The map: find. -/
import Derived.Test.YtiopkkjcgdcgmaaDoorMai
import Derived.Test.YtiopkkjcgdcgmaaDoorSc
import Derived.Test.YtiopkkjcgdcgmaaDoorSs
import Derived.Test.YtiopkkjcgdcgmaaDoorMo
import Derived.Maps.AppendAt
import Derived.Deep.Cut
namespace Go.Proofs.YtiopkkjcgdcgmaaDoor.i
open Go.RowKit Go.Rg Go.Nm Go.Gp Go.Mp Go.Shelf
set_option maxHeartbeats 1000000
set_option maxRecDepth 20000
attribute [local go_sem] Oper.semAt_some

theorem find_w (w : World) (f : Ft) (m : M Int) (hI : Is w f m) (hM : Small m) (key : ByteArray) (hk : key.size ≤ maxLen) :
    Calls Tryd.prog 91 #[.pointer (some ⟨f.b, 0, none⟩), .string key] w fun e w' =>
      e = .returned (.int .i64 (m.findL key (hsh m key % 128) (seq (hsh m key / 128) m.ws.length))) ∧ Ext w w' := by
  have hP := hM.pw
  have hg1 := hP.pos
  have hg2 := hP.le
  have hsum := sum_w m.k0 m.k1 hM.k0 hM.k1 key hk
  have hHU : sum m.k0 m.k1 key.data.toList < U := sum_lt _ _ hM.k0 hM.k1 _
  unfold hsh
  generalize sum m.k0 m.k1 key.data.toList = H at *
  obtain ⟨h, hh⟩ : ∃ h, H / 128 = h := ⟨_, rfl⟩
  obtain ⟨t, ht⟩ : ∃ t, H % 128 = t := ⟨_, rfl⟩
  have htl : t < 256 := by omega
  have hhU : h < U := by have : H < 18446744073709551616 := hHU; show h < 18446744073709551616; omega
  have hsplit := split_w H hHU
  rw [hh, ht] at *
  clear hh ht hHU
  obtain ⟨g, hg⟩ : ∃ g, Hid (m.ws.length = g) := ⟨_, Lib.hid rfl⟩
  have hst := hI.st
  unfold Ft.cells at hst
  rw [hg.out] at hP hg1 hg2 hst ⊢
  refine (callsIn_wide (n := 3)).1 ?_
  refine callsIn_of_wp_marks Tryd.func91 rfl trivial ?_ rfl
  simp only [Tryd.ntmps91, List.size_toArray, List.length_cons, List.length_nil, Nat.reduceAdd, Nat.reduceSub, Array.replicate_succ, Array.replicate_zero, List.push_toArray, List.append_toArray, List.nil_append, List.cons_append]
  refine wpIn_wide.2 ?_
  go_wp2
  have hB2 : At ((w.alloc (.cells #[.pointer (some ⟨f.b, 0, none⟩)] 78)).alloc (.cells #[.string key] 9)) w.heap.size #[.pointer (some ⟨f.b, 0, none⟩)] 78 := (At.new _ _ _).alloc _
  have hB3 : At ((w.alloc (.cells #[.pointer (some ⟨f.b, 0, none⟩)] 78)).alloc (.cells #[.string key] 9)) (w.heap.size + 1) #[.string key] 9 := by
    have := At.new (w.alloc (.cells #[.pointer (some ⟨f.b, 0, none⟩)] 78)) #[.string key] 9
    simpa using this
  have hE0 : Ext w ((w.alloc (.cells #[.pointer (some ⟨f.b, 0, none⟩)] 78)).alloc (.cells #[.string key] 9)) := Kp.alloc (Ext.alloc _ _) _
  generalize (w.alloc (.cells #[.pointer (some ⟨f.b, 0, none⟩)] 78)).alloc (.cells #[.string key] 9) = w0 at *
  have hst0 := At.ext hE0 hst
  have b2 : w0.cell? ⟨w.heap.size, 0, none⟩ = some (.pointer (some ⟨f.b, 0, none⟩)) := hB2.cell rfl
  have b3 : w0.cell? ⟨w.heap.size + 1, 0, none⟩ = some (.string key) := hB3.cell rfl
  have c0 : w0.cell? ⟨f.b, 0, none⟩ = some (.int .u64 m.k0) := hst0.cell rfl
  have c1 : w0.cell? ⟨f.b, 1, none⟩ = some (.int .u64 m.k1) := hst0.cell rfl
  go_step3
  go_wp2
  apply Rg.regionL (Ext) [.c _ _, .c _ _, .c _ _, .c _ _, .c _ _, .c _ _, .c _ _, .c _ _, .c _ _, .c _ _, ⟨fun v W => ∃ b, v = .pointer (some ⟨b, 0, none⟩) ∧ At W b #[.int .u8 0] 5 ∧ w0.heap.size ≤ b, fun v W W' h hr => let ⟨b, e, hc, hl⟩ := h; ⟨b, e, At.ext hr hc, hl⟩⟩, .c _ _]
    [(some 12, 0), (some 13, 1), (some 14, 2), (some 15, 3), (some 16, 4), (some 17, 5), (some 18, 6), (some 11, 7), (some 19, 8), (some 20, 9), (some 6, 10), (some 5, 11)]
    [[], [(some 12, 0)], [(some 13, 1)], [(some 14, 2)], [], [(some 15, 3), (some 16, 4)], [(some 17, 5)], [(some 18, 6)], [(some 11, 7)], [(some 11, 7)], [], [(some 19, 8)]]
    (by kernel_rfl) (by kernel_rfl) Ext.refl Ext.trans
  case hops =>
    refine ⟨?_, ?_, ?_, ?_, ?_, ?_, ?_, ?_, ?_, ?_, ?_, ?_, trivial⟩
    · intro vs W hR 
      have fx0 := hR.cell b2
      have fx1 := hR.cell b3
      have fx2 := hR.cell c0
      have fx3 := hR.cell c1
      simp only [Rg.Deps, Rg.frameE, List.foldl]
      go_wp2
      exact ⟨_, rfl, Ext.refl _, rfl⟩
    · intro vs W hR h0
      replace h0 : vs 0 = _ := h0
      simp only [Rg.Deps, Rg.frameE, List.foldl, h0]
      go_wp2
      exact ⟨_, rfl, Ext.refl _, rfl⟩
    · intro vs W hR h1
      replace h1 : vs 1 = _ := h1
      simp only [Rg.Deps, Rg.frameE, List.foldl, h1]
      go_wp2
      exact ⟨_, rfl, Ext.refl _, rfl⟩
    · intro vs W hR h2
      replace h2 : vs 2 = _ := h2
      have fx0 := hR.cell b2
      have fx1 := hR.cell b3
      have fx2 := hR.cell c0
      have fx3 := hR.cell c1
      simp only [Rg.Deps, Rg.frameE, List.foldl, h2]
      go_wp2
      exact ⟨_, rfl, Ext.refl _, rfl⟩
    · intro vs W hR 
      have fx0 := hR.cell b2
      have fx1 := hR.cell b3
      have fx2 := hR.cell c0
      have fx3 := hR.cell c1
      simp only [Rg.Deps, Rg.frameE, List.foldl]
      go_wp2
      exact ⟨_, rfl, Ext.refl _, rfl⟩
    · intro vs W hR h3 h4
      replace h3 : vs 3 = _ := h3
      replace h4 : vs 4 = _ := h4
      have fx0 := hR.cell b2
      have fx1 := hR.cell b3
      have fx2 := hR.cell c0
      have fx3 := hR.cell c1
      simp only [Rg.Deps, Rg.frameE, List.foldl, h3, h4]
      go_wp2_with (go_at_call 99; refine (hsum W).mono ?_; rintro e w1 ⟨rfl, hE⟩)
      exact ⟨_, rfl, hE, rfl⟩
    · intro vs W hR h5
      replace h5 : vs 5 = _ := h5
      have fx0 := hR.cell b2
      have fx1 := hR.cell b3
      have fx2 := hR.cell c0
      have fx3 := hR.cell c1
      simp only [Rg.Deps, Rg.frameE, List.foldl, h5]
      go_wp2_with (go_at_call 98; refine (hsplit W).mono ?_; rintro e w1 ⟨rfl, rfl⟩)
      exact ⟨_, rfl, Ext.refl _, rfl⟩
    · intro vs W hR h6
      replace h6 : vs 6 = _ := h6
      simp only [Rg.Deps, Rg.frameE, List.foldl, h6]
      go_wp2
      exact ⟨_, rfl, Ext.refl _, rfl⟩
    · intro vs W hR h7
      replace h7 : vs 7 = _ := h7
      simp only [Rg.Deps, Rg.frameE, List.foldl, h7]
      go_wp2
      exact ⟨_, rfl, Ext.refl _, rfl⟩
    · intro vs W hR h7
      replace h7 : vs 7 = _ := h7
      simp only [Rg.Deps, Rg.frameE, List.foldl, h7]
      go_wp2
      exact ⟨_, rfl, Ext.refl _, rfl⟩
    · intro vs W hR 
      have fx0 := hR.cell b2
      have fx1 := hR.cell b3
      have fx2 := hR.cell c0
      have fx3 := hR.cell c1
      simp only [Rg.Deps, Rg.frameE, List.foldl]
      go_wp2
      exact ⟨_, rfl, Ext.alloc _ _, _, rfl, At.new W _ _, by have := hR.size; simpa using this⟩
    · intro vs W hR h8
      replace h8 : vs 8 = _ := h8
      simp only [Rg.Deps, Rg.frameE, List.foldl, h8]
      go_wp2
      exact ⟨_, rfl, Ext.refl _, rfl⟩
  case htail =>
    intro vs W hR h0 h1 h2 h3 h4 h5 h6 h7 h8 h9 h10 h11
    replace h0 : vs 0 = _ := h0
    replace h1 : vs 1 = _ := h1
    replace h2 : vs 2 = _ := h2
    replace h3 : vs 3 = _ := h3
    replace h4 : vs 4 = _ := h4
    replace h5 : vs 5 = _ := h5
    replace h6 : vs 6 = _ := h6
    replace h7 : vs 7 = _ := h7
    replace h8 : vs 8 = _ := h8
    replace h9 : vs 9 = _ := h9
    obtain ⟨b6, h10, hA6, hl6⟩ := h10
    replace h11 : vs 11 = _ := h11
    simp only [Rg.Facts, Rg.frameE, List.foldl, List.drop, List.length, h0, h1, h2, h3, h4, h5, h6, h7, h8, h9, h10, h11]
    clear h0 h1 h2 h3 h4 h5 h6 h7 h8 h9 h10 h11
    simp only [Act.put, List.setIfInBounds_toArray, List.set_cons_zero, List.set_cons_succ]
    have c6 : W.cell? ⟨b6, 0, none⟩ = some (.int .u8 0) := hA6.cell rfl
    have f6 := hA6.frozen 0
    go_upto_region 3 with (fail)
    have hEW : Ext w W := Ext.trans _ _ _ hE0 (Ext.trans _ _ _ (Ext.drew w0) hR)
    have hsz0 := hB3.lt
    have hsz1 : w0.heap.size ≤ W.heap.size := by have := hR.size; simpa using this
    have hsz6 := hA6.lt
    have hAL6 : At ((W.setCell ⟨b6, 0, none⟩ (.int .u8 t)).alloc (.cells #[.int .i64 (-1)] 3)) b6 #[.int .u8 t] 5 := (hA6.set 0 (.int .u8 t)).alloc _
    have hAL7 : At ((W.setCell ⟨b6, 0, none⟩ (.int .u8 t)).alloc (.cells #[.int .i64 (-1)] 3)) W.heap.size #[.int .i64 (-1)] 3 := by
      have := At.new (W.setCell ⟨b6, 0, none⟩ (.int .u8 t)) #[.int .i64 (-1)] 3
      simpa using this
    have hEL : Ext w ((W.setCell ⟨b6, 0, none⟩ (.int .u8 t)).alloc (.cells #[.int .i64 (-1)] 3)) := Kp.alloc (Kp.setCell hEW (.inr (by show w.heap.size ≤ b6; omega)) _) _
    have hAL2 := ((At.ext hR hB2).setO (a := ⟨b6, 0, none⟩) (by show w.heap.size ≠ b6; omega) (.int .u8 t)).alloc (.cells #[.int .i64 (-1)] 3)
    have hAL3 := ((At.ext hR hB3).setO (a := ⟨b6, 0, none⟩) (by show w.heap.size + 1 ≠ b6; omega) (.int .u8 t)).alloc (.cells #[.int .i64 (-1)] 3)
    clear c6 f6 hA6 hEW hR hB2 hB3 hst0 b2 b3 c0 c1 hsum hsplit
    generalize hb7 : W.heap.size = b7 at *
    generalize ((W.setCell ⟨b6, 0, none⟩ (.int .u8 t)).alloc (.cells #[.int .i64 (-1)] 3)) = wL at *
    clear hE0 hb7 vs W
    have hstL := At.ext hEL hst
    have b2 : wL.cell? ⟨w.heap.size, 0, none⟩ = some (.pointer (some ⟨f.b, 0, none⟩)) := hAL2.cell rfl
    have c2 : wL.cell? ⟨f.b, 2, none⟩ = some (.slice (some ⟨f.bw, 0, none⟩) g f.cw) := hstL.cell rfl
    go_step3
    go_wp2_with (go_at_call 100; refine (seqc_w h g _).mono ?_; rintro e wS ⟨s1, s2, rfl, hS1, hS2, hE2, hl1, hl2⟩)
    have hsz7 := hAL7.lt
    clear b2 c2 hstL
    have hN7 : ¬ (f.b = b7) := by have := hI.st.lt; omega
    refine (wpIn_wide (n := 3)).1 ?_
    apply wpIn_rangeFunc_ownG (n := 3) (gf := 115) (lb := #[.pointer (some ⟨s1, 0, none⟩), .pointer (some ⟨s2, 0, none⟩)]) rfl (by omega) rfl trivial (enters_of Tryd.func115 (by kernel_rfl) rfl)
      (seq_stops _ h s1 s2 hP hhU _ hS1 hS2) (fun h k => h.trans k) (kpB_b hS1.lt hS2.lt) (Below.refl _ _) (fun _ => rfl)
      (fun pre W => Kp (fun k => k = b7) wS W ∧ At W b7 #[.int .i64 (-1)] 3 ∧ ∀ r, m.findL key t (pre.map Subtype.val ++ r) = m.findL key t r)
      (fun c pre W => c = .exit 0 ∧ Kp (fun k => k = b7) wS W ∧ ∃ v : Int, At W b7 #[.int .i64 v] 3 ∧ ∀ r, m.findL key t (pre.map Subtype.val ++ r) = v)
      (fun s A B row hs hg hr => ⟨Kp.gr hs.1 hg (fun k e => (hr k e).1), At.gr hs.2.1 hg (by have := hE2.size; omega : b7 < wS.heap.size) (fun k e => (hr k e).1), hs.2.2⟩)
      (fun c s A B row hs hg hr => ⟨hs.1, Kp.gr hs.2.1 hg (fun k e => (hr k e).1), let ⟨v, hA, hv⟩ := hs.2.2; ⟨v, At.gr hA hg (by have := hE2.size; omega : b7 < wS.heap.size) (fun k e => (hr k e).1), hv⟩⟩)
      ⟨Kp.refl _ _, At.ext hE2 hAL7, fun _ => rfl⟩ _ ?assign ?body ?done ?stop
    case assign =>
      intro l x W K hK
      gi_wp2
      exact hK
    case body =>
      rintro l pre ⟨x, hx⟩ W1 ⟨hK, hA7, hF⟩ _
      have hES : Ext w wS := Ext.trans _ _ _ hEL hE2
      have hszS := hE2.size
      have hlb := hI.st.lt
      have hlw := hI.wd.lt
      have hls := hI.sl.lt
      have hwU : m.w x < U := hM.wlt hx hg
      have hwc : (m.ws.map u64V)[x]? = some (u64V (m.w x)) := hM.wAt hx hg
      -- what holds in whatever world of the round
      have hall : ∀ W', Kp (fun k => k = b7) wS W' → W'.cell? ⟨w.heap.size, 0, none⟩ = some (.pointer (some ⟨f.b, 0, none⟩)) ∧ W'.cell? ⟨w.heap.size + 1, 0, none⟩ = some (.string key) ∧ W'.cell? ⟨b6, 0, none⟩ = some (.int .u8 t) ∧
          W'.cell? ⟨f.b, 2, none⟩ = some (.slice (some ⟨f.bw, 0, none⟩) g f.cw) ∧ W'.cell? ⟨f.b, 3, none⟩ = some (.slice (some ⟨f.bs, 0, none⟩) (8 * g) f.cs) ∧ W'.cell? ⟨f.bw, x, none⟩ = some (.int .u64 (m.w x : Nat)) := fun W' hK' =>
        ⟨hK'.cell ((At.ext hE2 hAL2).cell rfl) (by omega), hK'.cell ((At.ext hE2 hAL3).cell rfl) (by omega), hK'.cell ((At.ext hE2 hAL6).cell rfl) (by omega),
          hK'.cell (hES.cell (hst.cell rfl)) (by omega), hK'.cell (hES.cell (hst.cell rfl)) (by omega), hK'.cell (hES.cell (hI.wd.cell hwc)) (by omega)⟩
      have HALL := Lib.hid hall
      clear hall
      obtain ⟨b2, b3, b6', c2, c3, cw⟩ := HALL.out W1 hK
      have HB := Lib.hid (m.hit_bits key hwU htl)
      obtain ⟨wd, hwd⟩ : ∃ wd, Hid (m.w x = wd) := ⟨_, Lib.hid rfl⟩
      rw [hwd.out] at hwU cw
      dsimp only
      gi_wp2
      apply Rg.regionL_in (Ext) [.c _ _, .c _ _, .c _ _, .c _ _, .c _ _, .c _ _, .c _ _, .c _ _, .c _ _, .c _ _]
        [(some 29, 0), (some 30, 1), (some 31, 2), (some 32, 3), (some 33, 4), (some 34, 5), (some 35, 6), (some 36, 7), (some 37, 8), (some 9, 9)]
        [[], [(some 29, 0)], [(some 30, 1)], [(some 31, 2)], [], [(some 32, 3), (some 33, 4)], [(some 34, 5)], [], [(some 35, 6), (some 36, 7)], [(some 37, 8)]]
        (by kernel_rfl) (by kernel_rfl) (by kernel_rfl) Ext.refl Ext.trans
      case hops =>
        refine ⟨?_, ?_, ?_, ?_, ?_, ?_, ?_, ?_, ?_, ?_, trivial⟩
        · intro vs W hR 
          have fx0 := hR.cell b2
          have fx1 := hR.cell b6'
          have fx2 := hR.cell c2
          have fx3 := hR.cell cw
          simp only [Rg.Deps, Rg.frameE, List.foldl]
          go_wp2
          exact ⟨_, rfl, Ext.refl _, rfl⟩
        · intro vs W hR h0
          replace h0 : vs 0 = _ := h0
          simp only [Rg.Deps, Rg.frameE, List.foldl, h0]
          go_wp2
          exact ⟨_, rfl, Ext.refl _, rfl⟩
        · intro vs W hR h1
          replace h1 : vs 1 = _ := h1
          simp only [Rg.Deps, Rg.frameE, List.foldl, h1]
          go_wp2
          exact ⟨_, rfl, Ext.refl _, rfl⟩
        · intro vs W hR h2
          replace h2 : vs 2 = _ := h2
          have fx0 := hR.cell b2
          have fx1 := hR.cell b6'
          have fx2 := hR.cell c2
          have fx3 := hR.cell cw
          simp only [Rg.Deps, Rg.frameE, List.foldl, h2]
          go_wp2
          exact ⟨_, rfl, Ext.refl _, rfl⟩
        · intro vs W hR 
          simp only [Rg.Deps, Rg.frameE, List.foldl]
          go_wp2
          exact ⟨_, rfl, Ext.refl _, rfl⟩
        · intro vs W hR h3 h4
          replace h3 : vs 3 = _ := h3
          replace h4 : vs 4 = _ := h4
          have fx0 := hR.cell b2
          have fx1 := hR.cell b6'
          have fx2 := hR.cell c2
          have fx3 := hR.cell cw
          simp only [Rg.Deps, Rg.frameE, List.foldl, h3, h4]
          go_wp2
          exact ⟨_, rfl, Ext.refl _, rfl⟩
        · intro vs W hR h5
          replace h5 : vs 5 = _ := h5
          have fx0 := hR.cell b2
          have fx1 := hR.cell b6'
          have fx2 := hR.cell c2
          have fx3 := hR.cell cw
          simp only [Rg.Deps, Rg.frameE, List.foldl, h5]
          go_wp2
          exact ⟨_, rfl, Ext.refl _, rfl⟩
        · intro vs W hR 
          have fx0 := hR.cell b2
          have fx1 := hR.cell b6'
          have fx2 := hR.cell c2
          have fx3 := hR.cell cw
          simp only [Rg.Deps, Rg.frameE, List.foldl]
          go_wp2
          exact ⟨_, rfl, Ext.refl _, rfl⟩
        · intro vs W hR h6 h7
          replace h6 : vs 6 = _ := h6
          replace h7 : vs 7 = _ := h7
          have fx0 := hR.cell b2
          have fx1 := hR.cell b6'
          have fx2 := hR.cell c2
          have fx3 := hR.cell cw
          simp only [Rg.Deps, Rg.frameE, List.foldl, h6, h7]
          go_wp2_with (go_at_call 101; refine (match_w wd t hwU htl W).mono ?_; rintro e w1 ⟨rfl, rfl⟩)
          exact ⟨_, rfl, Ext.refl _, rfl⟩
        · intro vs W hR h8
          replace h8 : vs 8 = _ := h8
          simp only [Rg.Deps, Rg.frameE, List.foldl, h8]
          go_wp2
          exact ⟨_, rfl, Ext.refl _, rfl⟩
      case htail =>
        intro vs W hR h0 h1 h2 h3 h4 h5 h6 h7 h8 h9
        replace h0 : vs 0 = _ := h0
        replace h1 : vs 1 = _ := h1
        replace h2 : vs 2 = _ := h2
        replace h3 : vs 3 = _ := h3
        replace h4 : vs 4 = _ := h4
        replace h5 : vs 5 = _ := h5
        replace h6 : vs 6 = _ := h6
        replace h7 : vs 7 = _ := h7
        replace h8 : vs 8 = _ := h8
        replace h9 : vs 9 = _ := h9
        simp only [Rg.Facts, Rg.frameE, List.foldl, List.drop, List.length, h0, h1, h2, h3, h4, h5, h6, h7, h8, h9]
        clear h0 h1 h2 h3 h4 h5 h6 h7 h8 h9
        simp only [wpListIn, Act.put, List.setIfInBounds_toArray, List.set_cons_zero, List.set_cons_succ]
        have hK2 : Kp (fun k => k = b7) wS W := (hK.drew).trans hR.kp
        have hA2 := At.ext hR hA7
        clear b2 b3 b6' c2 c3 cw
        have hpre : KeepsFrom wS.heap.size W1 W1 := KeepsFrom.refl _ _
        have hKW1 : Kp (fun k => k = b7) W1 W := (Kp.refl _ W1).drew.trans hR.kp
        have hsW1 := hK.size
        have hKB : ∀ W', Kp (fun k => k = b7) W1 W' → KeepsFrom wS.heap.size W1 W' ∧ KpB s1 s2 W1 W' := fun W' hK' =>
          ⟨keeps_of hK' (fun k e => by omega), kpB_of hK' (by have := hS1.lt; omega) (by have := hS2.lt; omega) (by omega) (by omega)⟩
        have HKB := Lib.hid hKB
        clear hR hK hA7 hKB
        gi_wp2
        gi_loopw [9] (fun s wr => ∃ n : Nat, n < 256 ∧ s = .int .u8 n ∧ Kp (fun k => k = b7) wS wr ∧ Kp (fun k => k = b7) W1 wr ∧ At wr b7 #[.int .i64 (-1)] 3 ∧ Hid (m.hitG key t x = (bitsOf n).find? fun i => decide ((m.s (8 * x + i)).1 = key))) (fun s _ => (intOf s).toNat)
        case atStart => exact ⟨_, matchN_lt _ _, rfl, hK2, hKW1, hA2, Lib.hid (by rw [HB.out, hwd.out])⟩
        case round =>
          obtain ⟨n, hn, rfl, hK3, hK4, hA3, HH⟩ := hrel
          obtain ⟨b2, b3, b6', c2, c3, cw⟩ := HALL.out wr hK3
          rw [hwd.out] at cw
          by_cases hn0 : n = 0
          · subst hn0
            have hnone : m.hitG key t x = none := by rw [HH.out]; rfl
            by_cases hm0 : matchN wd 128 = 0
            · gi_wp2_with (refine ⟨trivial, ?_⟩; gi_at_call 67; refine (CallsIn.inRound l (callsIn_wide.2 (empties_w wd hwU wr))).mono ?_; rintro e w1 ⟨rfl, rfl⟩)
              exact ⟨(HKB.out _ hK4).1, (HKB.out _ hK4).2, hK3, hA3, fun r => by
                rw [List.map_append, List.append_assoc, hF]
                exact m.findL_go hnone (by rw [hwd.out]; exact hm0) r⟩
            · gi_wp2_with (refine ⟨trivial, ?_⟩; gi_at_call 67; refine (CallsIn.inRound l (callsIn_wide.2 (empties_w wd hwU wr))).mono ?_; rintro e w1 ⟨rfl, rfl⟩)
              exact ⟨(HKB.out _ hK4).1, rfl, hK3, -1, hA3, fun r => by
                rw [List.map_append, List.append_assoc, hF]
                exact m.findL_stop hnone (by rw [hwd.out]; exact hm0) r⟩
          · obtain ⟨e1, e2, e3⟩ := bits_step ⟨n, hn⟩ hn0
            simp only at e1 e2 e3
            have hfi := first_w n hn wr
            obtain ⟨i, hi⟩ : ∃ i, tz8 n = i := ⟨_, rfl⟩
            rw [hi] at e1 e2 hfi
            have HE := Lib.hid e1
            clear hi e1
            have hq : 8 * x + i < 8 * g := by omega
            have hsc := hK3.cell (hES.cell (hI.sl.cell (slotCells_at enc m.sl (8 * x + i) _ (hM.sAt hq hg)).1)) (by omega)
            obtain ⟨ks, hks⟩ : ∃ ks, Hid ((m.s (8 * x + i)).1 = ks) := ⟨_, Lib.hid rfl⟩
            rw [hks.out] at hsc
            obtain ⟨q, hqq⟩ : ∃ q, Hid (8 * x + i = q) := ⟨_, Lib.hid rfl⟩
            rw [hqq.out] at hsc hq
            have hqc : (8 : Int) * (x : Int) + (i : Int) = (q : Int) := by have := hqq.out; omega
            have hnb : ((n : Int) == 0) = false := by simp; omega
            have hlt2 : f.b < wr.heap.size := by have := hK3.size; have := hES.size; omega
            by_cases hkk : ks = key
            · have HIT : Hid (m.hitG key t x = some i) := Lib.hid (by
                rw [HH.out, HE.out, List.find?_cons_of_pos (by rw [hks.out]; simpa using hkk)])
              subst hkk
              gi_wp2_with (refine ⟨trivial, ?_⟩; gi_at_call 103; refine (CallsIn.inRound l (callsIn_wide.2 hfi)).mono ?_; rintro e w1 ⟨rfl, rfl⟩)
              apply Rg.regionL_in (Ext) [.c _ _, .c _ _, .c _ _, .c _ _, .c _ _, .c _ _, .c _ _, .c _ _, .c _ _, .c _ _]
                [(some 47, 0), (some 48, 1), (some 49, 2), (some 50, 3), (some 51, 4), (some 52, 5), (some 53, 6), (some 54, 7), (some 55, 8), (some 56, 9)]
                [[], [(some 47, 0)], [(some 48, 1)], [(some 49, 2)], [], [(some 50, 3), (some 51, 4)], [(some 52, 5)], [(some 53, 6)], [], [(some 54, 7), (some 55, 8)]]
                (by kernel_rfl) (by kernel_rfl) (by kernel_rfl) Ext.refl Ext.trans
              case hops =>
                refine ⟨?_, ?_, ?_, ?_, ?_, ?_, ?_, ?_, ?_, ?_, trivial⟩
                · intro vs W hR 
                  have fx0 := hR.cell b2
                  have fx1 := hR.cell b3
                  have fx2 := hR.cell c3
                  have fx3 := hR.cell hsc
                  simp only [Rg.Deps, Rg.frameE, List.foldl]
                  go_wp2
                  exact ⟨_, rfl, Ext.refl _, rfl⟩
                · intro vs W hR h0
                  replace h0 : vs 0 = _ := h0
                  simp only [Rg.Deps, Rg.frameE, List.foldl, h0]
                  go_wp2
                  exact ⟨_, rfl, Ext.refl _, rfl⟩
                · intro vs W hR h1
                  replace h1 : vs 1 = _ := h1
                  simp only [Rg.Deps, Rg.frameE, List.foldl, h1]
                  go_wp2
                  exact ⟨_, rfl, Ext.refl _, rfl⟩
                · intro vs W hR h2
                  replace h2 : vs 2 = _ := h2
                  have fx0 := hR.cell b2
                  have fx1 := hR.cell b3
                  have fx2 := hR.cell c3
                  have fx3 := hR.cell hsc
                  simp only [Rg.Deps, Rg.frameE, List.foldl, h2]
                  go_wp2
                  exact ⟨_, rfl, Ext.refl _, rfl⟩
                · intro vs W hR 
                  simp only [Rg.Deps, Rg.frameE, List.foldl]
                  go_wp2
                  exact ⟨_, rfl, Ext.refl _, rfl⟩
                · intro vs W hR h3 h4
                  replace h3 : vs 3 = _ := h3
                  replace h4 : vs 4 = _ := h4
                  have fx0 := hR.cell b2
                  have fx1 := hR.cell b3
                  have fx2 := hR.cell c3
                  have fx3 := hR.cell hsc
                  simp only [Rg.Deps, Rg.frameE, List.foldl, h3, h4]
                  go_wp2
                  exact ⟨_, rfl, Ext.refl _, rfl⟩
                · intro vs W hR h5
                  replace h5 : vs 5 = _ := h5
                  simp only [Rg.Deps, Rg.frameE, List.foldl, h5]
                  go_wp2
                  exact ⟨_, rfl, Ext.refl _, rfl⟩
                · intro vs W hR h6
                  replace h6 : vs 6 = _ := h6
                  have fx0 := hR.cell b2
                  have fx1 := hR.cell b3
                  have fx2 := hR.cell c3
                  have fx3 := hR.cell hsc
                  simp only [Rg.Deps, Rg.frameE, List.foldl, h6]
                  go_wp2
                  exact ⟨_, rfl, Ext.refl _, rfl⟩
                · intro vs W hR 
                  have fx0 := hR.cell b2
                  have fx1 := hR.cell b3
                  have fx2 := hR.cell c3
                  have fx3 := hR.cell hsc
                  simp only [Rg.Deps, Rg.frameE, List.foldl]
                  go_wp2
                  exact ⟨_, rfl, Ext.refl _, rfl⟩
                · intro vs W hR h7 h8
                  replace h7 : vs 7 = _ := h7
                  replace h8 : vs 8 = _ := h8
                  simp only [Rg.Deps, Rg.frameE, List.foldl, h7, h8]
                  go_wp2
                  exact ⟨_, rfl, Ext.refl _, rfl⟩
              case htail =>
                intro vs W hR h0 h1 h2 h3 h4 h5 h6 h7 h8 h9
                replace h0 : vs 0 = _ := h0
                replace h1 : vs 1 = _ := h1
                replace h2 : vs 2 = _ := h2
                replace h3 : vs 3 = _ := h3
                replace h4 : vs 4 = _ := h4
                replace h5 : vs 5 = _ := h5
                replace h6 : vs 6 = _ := h6
                replace h7 : vs 7 = _ := h7
                replace h8 : vs 8 = _ := h8
                replace h9 : vs 9 = _ := h9
                simp only [Rg.Facts, Rg.frameE, List.foldl, List.drop, List.length, h0, h1, h2, h3, h4, h5, h6, h7, h8, h9]
                clear h0 h1 h2 h3 h4 h5 h6 h7 h8 h9
                simp only [wpListIn, Act.put, List.setIfInBounds_toArray, List.set_cons_zero, List.set_cons_succ]
                have hK5 : Kp (fun k => k = b7) wS W := (hK3.drew).trans hR.kp
                have hK6 : Kp (fun k => k = b7) W1 W := (hK4.drew).trans hR.kp
                have hA5 := At.ext hR hA3
                have c7 : W.cell? ⟨b7, 0, none⟩ = some (.int .i64 (-1)) := hA5.cell rfl
                have f7 := hA5.frozen 0
                clear b2 b3 b6' c2 c3 cw hsc hR
                gi_wp2
                exact ⟨(HKB.out _ (hK6.setCell (.inl rfl) _)).1, rfl, hK5.setCell (.inl rfl) _, (q : Int), hA5.set 0 _, fun r => by
                  rw [List.map_append, List.append_assoc, hF]
                  have := m.findL_hit HIT.out r
                  rw [← hqq.out]; exact this⟩
            · have HH' : Hid (m.hitG key t x = (bitsOf (nextN n)).find? fun i => decide ((m.s (8 * x + i)).1 = key)) := Lib.hid (by
                rw [HH.out, HE.out, List.find?_cons_of_neg (by rw [hks.out]; simpa using hkk)])
              have hb1 : (ks.toList == key.toList) = false := ba_ne hkk
              clear hkk
              gi_wp2_with (refine ⟨trivial, ?_⟩; gi_at_call 103; refine (CallsIn.inRound l (callsIn_wide.2 hfi)).mono ?_; rintro e w1 ⟨rfl, rfl⟩)
              apply Rg.regionL_in (Ext) [.c _ _, .c _ _, .c _ _, .c _ _, .c _ _, .c _ _, .c _ _, .c _ _, .c _ _, .c _ _]
                [(some 47, 0), (some 48, 1), (some 49, 2), (some 50, 3), (some 51, 4), (some 52, 5), (some 53, 6), (some 54, 7), (some 55, 8), (some 56, 9)]
                [[], [(some 47, 0)], [(some 48, 1)], [(some 49, 2)], [], [(some 50, 3), (some 51, 4)], [(some 52, 5)], [(some 53, 6)], [], [(some 54, 7), (some 55, 8)]]
                (by kernel_rfl) (by kernel_rfl) (by kernel_rfl) Ext.refl Ext.trans
              case hops =>
                refine ⟨?_, ?_, ?_, ?_, ?_, ?_, ?_, ?_, ?_, ?_, trivial⟩
                · intro vs W hR 
                  have fx0 := hR.cell b2
                  have fx1 := hR.cell b3
                  have fx2 := hR.cell c3
                  have fx3 := hR.cell hsc
                  simp only [Rg.Deps, Rg.frameE, List.foldl]
                  go_wp2
                  exact ⟨_, rfl, Ext.refl _, rfl⟩
                · intro vs W hR h0
                  replace h0 : vs 0 = _ := h0
                  simp only [Rg.Deps, Rg.frameE, List.foldl, h0]
                  go_wp2
                  exact ⟨_, rfl, Ext.refl _, rfl⟩
                · intro vs W hR h1
                  replace h1 : vs 1 = _ := h1
                  simp only [Rg.Deps, Rg.frameE, List.foldl, h1]
                  go_wp2
                  exact ⟨_, rfl, Ext.refl _, rfl⟩
                · intro vs W hR h2
                  replace h2 : vs 2 = _ := h2
                  have fx0 := hR.cell b2
                  have fx1 := hR.cell b3
                  have fx2 := hR.cell c3
                  have fx3 := hR.cell hsc
                  simp only [Rg.Deps, Rg.frameE, List.foldl, h2]
                  go_wp2
                  exact ⟨_, rfl, Ext.refl _, rfl⟩
                · intro vs W hR 
                  simp only [Rg.Deps, Rg.frameE, List.foldl]
                  go_wp2
                  exact ⟨_, rfl, Ext.refl _, rfl⟩
                · intro vs W hR h3 h4
                  replace h3 : vs 3 = _ := h3
                  replace h4 : vs 4 = _ := h4
                  have fx0 := hR.cell b2
                  have fx1 := hR.cell b3
                  have fx2 := hR.cell c3
                  have fx3 := hR.cell hsc
                  simp only [Rg.Deps, Rg.frameE, List.foldl, h3, h4]
                  go_wp2
                  exact ⟨_, rfl, Ext.refl _, rfl⟩
                · intro vs W hR h5
                  replace h5 : vs 5 = _ := h5
                  simp only [Rg.Deps, Rg.frameE, List.foldl, h5]
                  go_wp2
                  exact ⟨_, rfl, Ext.refl _, rfl⟩
                · intro vs W hR h6
                  replace h6 : vs 6 = _ := h6
                  have fx0 := hR.cell b2
                  have fx1 := hR.cell b3
                  have fx2 := hR.cell c3
                  have fx3 := hR.cell hsc
                  simp only [Rg.Deps, Rg.frameE, List.foldl, h6]
                  go_wp2
                  exact ⟨_, rfl, Ext.refl _, rfl⟩
                · intro vs W hR 
                  have fx0 := hR.cell b2
                  have fx1 := hR.cell b3
                  have fx2 := hR.cell c3
                  have fx3 := hR.cell hsc
                  simp only [Rg.Deps, Rg.frameE, List.foldl]
                  go_wp2
                  exact ⟨_, rfl, Ext.refl _, rfl⟩
                · intro vs W hR h7 h8
                  replace h7 : vs 7 = _ := h7
                  replace h8 : vs 8 = _ := h8
                  simp only [Rg.Deps, Rg.frameE, List.foldl, h7, h8]
                  go_wp2
                  exact ⟨_, rfl, Ext.refl _, rfl⟩
              case htail =>
                intro vs W hR h0 h1 h2 h3 h4 h5 h6 h7 h8 h9
                replace h0 : vs 0 = _ := h0
                replace h1 : vs 1 = _ := h1
                replace h2 : vs 2 = _ := h2
                replace h3 : vs 3 = _ := h3
                replace h4 : vs 4 = _ := h4
                replace h5 : vs 5 = _ := h5
                replace h6 : vs 6 = _ := h6
                replace h7 : vs 7 = _ := h7
                replace h8 : vs 8 = _ := h8
                replace h9 : vs 9 = _ := h9
                simp only [Rg.Facts, Rg.frameE, List.foldl, List.drop, List.length, h0, h1, h2, h3, h4, h5, h6, h7, h8, h9]
                clear h0 h1 h2 h3 h4 h5 h6 h7 h8 h9
                simp only [wpListIn, Act.put, List.setIfInBounds_toArray, List.set_cons_zero, List.set_cons_succ]
                have hK5 : Kp (fun k => k = b7) wS W := (hK3.drew).trans hR.kp
                have hK6 : Kp (fun k => k = b7) W1 W := (hK4.drew).trans hR.kp
                have hA5 := At.ext hR hA3
                have hneW := next_w n hn W
                clear b2 b3 b6' c2 c3 cw hsc hR
                gi_wp2_with (refine ⟨trivial, ?_⟩; gi_at_call 102; refine (CallsIn.inRound l (callsIn_wide.2 hneW)).mono ?_; rintro e w1 ⟨rfl, rfl⟩)
                exact ⟨⟨nextN n, by omega, rfl, hK5, hK6, hA5, HH'⟩, by simp [intOf]; omega⟩
    case done =>
      intro D ys W hD hS ⟨hK, hA, hF⟩ hd
      have hres : Hid (m.findL key t (seq h g) = -1) := Lib.hid (by have := hF []; rw [List.append_nil, hS] at this; exact this)
      have c7 : W.cell? ⟨b7, 0, none⟩ = some (.int .i64 (-1)) := hA.cell rfl
      have hEF : Ext w (W.putObj D (.deferred none)) := Kp.grown (Kp.join (Ext.trans _ _ _ hEL hE2) hK (fun b hb e => by have := hEL.size; omega)) (grownBy_putObj' W D _) (fun k e => .inr (by cases e; have := hEL.size; have := hE2.size; omega))
      go_wp2
      refine ⟨by simp, .inl ⟨_, _, rfl, run_takeDeferred hd, ?_⟩⟩
      exact ⟨_, results_tmp rfl _ _ _, by rw [hres.out]; rfl, hEF⟩
    case stop =>
      rintro D c pre W hD hSp ⟨rfl, hK, v, hA, hF⟩ hd
      have hres : Hid (m.findL key t (seq h g) = v) := Lib.hid (by
        obtain ⟨r, hr⟩ := hSp
        rw [← hr]; exact hF r)
      have c7 : W.cell? ⟨b7, 0, none⟩ = some (.int .i64 v) := hA.cell rfl
      have hEF : Ext w (W.putObj D (.deferred none)) := Kp.grown (Kp.join (Ext.trans _ _ _ hEL hE2) hK (fun b hb e => by have := hEL.size; omega)) (grownBy_putObj' W D _) (fun k e => .inr (by cases e; have := hEL.size; have := hE2.size; omega))
      refine wpIn_wide.2 ?_
      go_wp2
      refine ⟨by simp, .inl ⟨_, _, rfl, run_takeDeferred hd, ?_⟩⟩
      exact ⟨_, results_tmp rfl _ _ _, by rw [hres.out]; rfl, hEF⟩
end Go.Proofs.YtiopkkjcgdcgmaaDoor.i
