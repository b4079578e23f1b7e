/- The map: lay. -/
import Derived.Test.YtiopkkjcgdcgmaaDoorMgs
namespace Go.Proofs.YtiopkkjcgdcgmaaDoor.s
open Go.RowKit Go.Rg Go.Nm Go.Gp Go.Mp Go.Shelf
set_option maxHeartbeats 1000000
set_option maxRecDepth 20000
attribute [local go_sem] Oper.semAt_some

theorem put_is {W' : World} {f : Ft} {m : M ByteArray} {g x q i wd t : Nat} {key : ByteArray} {v : ByteArray} {tv : Int} (hg : m.ws.length = g) (hwd : m.w x = wd) (hi : tz8 (freeN wd) = i) (hqq : 8 * x + i = q)
    (htv : tv = if byteAt wd i = 254 then m.t - 1 else m.t)
    (h1 : At W' f.b #[.int .u64 m.k0, .int .u64 m.k1, .slice (some ⟨f.bw, 0, none⟩) g f.cw, .slice (some ⟨f.bs, 0, none⟩) (8 * g) f.cs, .int .i64 (m.n + 1), .int .i64 tv] 106)
    (h2 : Row W' f.bw 22 ((m.ws.map u64V).set x (.int .u64 (setN wd i t : Nat)))) (h3 : Row W' f.bs 109 (((slotCells enc m.sl).set (q * 2) (.string key)).set (q * 2 + 1) (Value.string v)))
    (nz : f.b ≠ 0 ∧ f.bw ≠ 0 ∧ f.bs ≠ 0) (ne : f.b ≠ f.bw ∧ f.b ≠ f.bs ∧ f.bw ≠ f.bs) : Is W' f (m.putAt t key v x) := by
  have hi' : tz8 (fr wd) = i := hi
  have hp : m.putAt t key v x = { m with t := tv, ws := m.ws.set x (setN wd i t), sl := m.sl.set q (key, v), n := m.n + 1 } := by
    unfold M.putAt; rw [hwd]; simp only [hi', hqq, htv]
  rw [hp]
  refine ⟨?_, ?_, ?_, nz, ne⟩
  · unfold Ft.cells; simp only [List.length_set, hg]; exact h1
  · simp only [List.map_set]; exact h2
  · rw [slotCells_set]; exact h3
theorem lay_w (w : World) (f : Ft) (m : M ByteArray) (hI : Is w f m) (hM : Small m) (hSh : Sh w) (key : ByteArray) (hk : key.size ≤ maxLen) (v : ByteArray) :
    Calls Tryd.prog 70 #[.pointer (some ⟨f.b, 0, none⟩), .agg #[.string key, enc v]] w fun e w' => (∃ x, e = .returned x) ∧ Is w' f (lay m key v) ∧ Kp f.fp w w' := by
  have hP := hM.pw
  have hg1 := hP.pos
  have hg2 := hP.le
  have hsum := sum_w m.k0 m.k1 hM.k0 hM.k1 key hk
  have hHU : sum m.k0 m.k1 key.data.toList < U := sum_lt _ _ hM.k0 hM.k1 _
  unfold lay hsh
  generalize sum m.k0 m.k1 key.data.toList = H at *
  obtain ⟨h, hh⟩ : ∃ h, H / 128 = h := ⟨_, rfl⟩
  obtain ⟨t, ht⟩ : ∃ t, H % 128 = t := ⟨_, rfl⟩
  have htl : t < 256 := by omega
  have hhU : h < U := by have : H < 18446744073709551616 := hHU; show h < 18446744073709551616; omega
  have hsplit := split_w H hHU
  rw [hh, ht] at *
  clear hh ht hHU
  obtain ⟨g, hg⟩ : ∃ g, Hid (m.ws.length = g) := ⟨_, Lib.hid rfl⟩
  have hst := hI.st
  unfold Ft.cells at hst
  rw [hg.out] at hP hg1 hg2 hst ⊢
  unfold enc
  refine (callsIn_wide (n := 3)).1 ?_
  refine callsIn_of_wp_marks Tryd.func70 rfl trivial ?_ rfl
  simp only [Tryd.ntmps70, List.size_toArray, List.length_cons, List.length_nil, Nat.reduceAdd, Nat.reduceSub, Array.replicate_succ, Array.replicate_zero, List.push_toArray, List.append_toArray, List.nil_append, List.cons_append]
  refine wpIn_wide.2 ?_
  go_wp2
  have hB2 : At ((w.alloc (.cells #[.pointer (some ⟨f.b, 0, none⟩)] 26)).alloc (.cells #[.string key, Value.string v] 109)) w.heap.size #[.pointer (some ⟨f.b, 0, none⟩)] 26 := (At.new _ _ _).alloc _
  have hB3 : At ((w.alloc (.cells #[.pointer (some ⟨f.b, 0, none⟩)] 26)).alloc (.cells #[.string key, Value.string v] 109)) (w.heap.size + 1) #[.string key, Value.string v] 109 := by
    have := At.new (w.alloc (.cells #[.pointer (some ⟨f.b, 0, none⟩)] 26)) #[.string key, Value.string v] 109
    simpa using this
  have hE0 : Ext w ((w.alloc (.cells #[.pointer (some ⟨f.b, 0, none⟩)] 26)).alloc (.cells #[.string key, Value.string v] 109)) := Kp.alloc (Ext.alloc _ _) _
  generalize (w.alloc (.cells #[.pointer (some ⟨f.b, 0, none⟩)] 26)).alloc (.cells #[.string key, Value.string v] 109) = w0 at *
  have hst0 := At.ext hE0 hst
  have b2 : w0.cell? ⟨w.heap.size, 0, none⟩ = some (.pointer (some ⟨f.b, 0, none⟩)) := hB2.cell rfl
  have b3 : w0.cell? ⟨w.heap.size + 1, 0, none⟩ = some (.string key) := hB3.cell rfl
  have c0 : w0.cell? ⟨f.b, 0, none⟩ = some (.int .u64 m.k0) := hst0.cell rfl
  have c1 : w0.cell? ⟨f.b, 1, none⟩ = some (.int .u64 m.k1) := hst0.cell rfl
  apply Rg.regionL (Ext) [.c _ _, .c _ _, .c _ _, .c _ _, .c _ _, .c _ _, .c _ _, .c _ _, .c _ _, .c _ _, .c _ _, ⟨fun v W => ∃ b, v = .pointer (some ⟨b, 0, none⟩) ∧ At W b #[.int .u8 0] 5 ∧ w0.heap.size ≤ b, fun v W W2 h hr => let ⟨b, e, hc, hl⟩ := h; ⟨b, e, At.ext hr hc, hl⟩⟩, .c _ _]
    [(some 10, 0), (some 11, 1), (some 12, 2), (some 13, 3), (some 14, 4), (some 15, 5), (some 16, 6), (some 17, 7), (some 9, 8), (some 18, 9), (some 19, 10), (some 5, 11), (some 4, 12)]
    [[], [(some 10, 0)], [(some 11, 1)], [(some 12, 2)], [], [(some 14, 4)], [(some 13, 3), (some 15, 5)], [(some 16, 6)], [(some 17, 7)], [(some 9, 8)], [(some 9, 8)], [], [(some 18, 9)]]
    (by kernel_rfl) (by kernel_rfl) Ext.refl Ext.trans
  case hops =>
    refine ⟨?_, ?_, ?_, ?_, ?_, ?_, ?_, ?_, ?_, ?_, ?_, ?_, ?_, trivial⟩
    · intro vs W hR 
      have fx0 := hR.cell b2
      have fx1 := hR.cell b3
      have fx2 := hR.cell c0
      have fx3 := hR.cell c1
      simp only [Rg.Deps, Rg.frameE, List.foldl]
      go_wp2
      exact ⟨_, rfl, Ext.refl _, rfl⟩
    · intro vs W hR h0
      replace h0 : vs 0 = _ := h0
      simp only [Rg.Deps, Rg.frameE, List.foldl, h0]
      go_wp2
      exact ⟨_, rfl, Ext.refl _, rfl⟩
    · intro vs W hR h1
      replace h1 : vs 1 = _ := h1
      simp only [Rg.Deps, Rg.frameE, List.foldl, h1]
      go_wp2
      exact ⟨_, rfl, Ext.refl _, rfl⟩
    · intro vs W hR h2
      replace h2 : vs 2 = _ := h2
      have fx0 := hR.cell b2
      have fx1 := hR.cell b3
      have fx2 := hR.cell c0
      have fx3 := hR.cell c1
      simp only [Rg.Deps, Rg.frameE, List.foldl, h2]
      go_wp2
      exact ⟨_, rfl, Ext.refl _, rfl⟩
    · intro vs W hR 
      simp only [Rg.Deps, Rg.frameE, List.foldl]
      go_wp2
      exact ⟨_, rfl, Ext.refl _, rfl⟩
    · intro vs W hR h4
      replace h4 : vs 4 = _ := h4
      have fx0 := hR.cell b2
      have fx1 := hR.cell b3
      have fx2 := hR.cell c0
      have fx3 := hR.cell c1
      simp only [Rg.Deps, Rg.frameE, List.foldl, h4]
      go_wp2
      exact ⟨_, rfl, Ext.refl _, rfl⟩
    · intro vs W hR h3 h5
      replace h3 : vs 3 = _ := h3
      replace h5 : vs 5 = _ := h5
      have fx0 := hR.cell b2
      have fx1 := hR.cell b3
      have fx2 := hR.cell c0
      have fx3 := hR.cell c1
      simp only [Rg.Deps, Rg.frameE, List.foldl, h3, h5]
      go_wp2_with (go_at_call 99; refine (hsum W).mono ?_; rintro e w1 ⟨rfl, hE⟩)
      exact ⟨_, rfl, hE, rfl⟩
    · intro vs W hR h6
      replace h6 : vs 6 = _ := h6
      have fx0 := hR.cell b2
      have fx1 := hR.cell b3
      have fx2 := hR.cell c0
      have fx3 := hR.cell c1
      simp only [Rg.Deps, Rg.frameE, List.foldl, h6]
      go_wp2_with (go_at_call 98; refine (hsplit W).mono ?_; rintro e w1 ⟨rfl, rfl⟩)
      exact ⟨_, rfl, Ext.refl _, rfl⟩
    · intro vs W hR h7
      replace h7 : vs 7 = _ := h7
      simp only [Rg.Deps, Rg.frameE, List.foldl, h7]
      go_wp2
      exact ⟨_, rfl, Ext.refl _, rfl⟩
    · intro vs W hR h8
      replace h8 : vs 8 = _ := h8
      simp only [Rg.Deps, Rg.frameE, List.foldl, h8]
      go_wp2
      exact ⟨_, rfl, Ext.refl _, rfl⟩
    · intro vs W hR h8
      replace h8 : vs 8 = _ := h8
      simp only [Rg.Deps, Rg.frameE, List.foldl, h8]
      go_wp2
      exact ⟨_, rfl, Ext.refl _, rfl⟩
    · intro vs W hR 
      have fx0 := hR.cell b2
      have fx1 := hR.cell b3
      have fx2 := hR.cell c0
      have fx3 := hR.cell c1
      simp only [Rg.Deps, Rg.frameE, List.foldl]
      go_wp2
      exact ⟨_, rfl, Ext.alloc _ _, _, rfl, At.new W _ _, by have := hR.size; simpa using this⟩
    · intro vs W hR h9
      replace h9 : vs 9 = _ := h9
      simp only [Rg.Deps, Rg.frameE, List.foldl, h9]
      go_wp2
      exact ⟨_, rfl, Ext.refl _, rfl⟩
  case htail =>
    intro vs W hR h0 h1 h2 h3 h4 h5 h6 h7 h8 h9 h10 h11 h12
    replace h0 : vs 0 = _ := h0
    replace h1 : vs 1 = _ := h1
    replace h2 : vs 2 = _ := h2
    replace h3 : vs 3 = _ := h3
    replace h4 : vs 4 = _ := h4
    replace h5 : vs 5 = _ := h5
    replace h6 : vs 6 = _ := h6
    replace h7 : vs 7 = _ := h7
    replace h8 : vs 8 = _ := h8
    replace h9 : vs 9 = _ := h9
    replace h10 : vs 10 = _ := h10
    obtain ⟨b6, h11, hA6, hl6⟩ := h11
    replace h12 : vs 12 = _ := h12
    simp only [Rg.Facts, Rg.frameE, List.foldl, List.drop, List.length, h0, h1, h2, h3, h4, h5, h6, h7, h8, h9, h10, h11, h12]
    clear h0 h1 h2 h3 h4 h5 h6 h7 h8 h9 h10 h11 h12
    simp only [Act.put, List.setIfInBounds_toArray, List.set_cons_zero, List.set_cons_succ]
    have hEW : Ext w W := Ext.trans _ _ _ hE0 (Ext.trans _ _ _ (Ext.drew w0) hR)
    have hsz0 := hB3.lt
    have hsz1 : w0.heap.size ≤ W.heap.size := by have := hR.size; simpa using this
    have hsz6 := hA6.lt
    have c6 : W.cell? ⟨b6, 0, none⟩ = some (.int .u8 0) := hA6.cell rfl
    have f6 := hA6.frozen 0
    go_upto_region 2 with (fail)
    have hAL6 : At (W.setCell ⟨b6, 0, none⟩ (.int .u8 t)) b6 #[.int .u8 t] 5 := hA6.set 0 (.int .u8 t)
    have hEL : Ext w (W.setCell ⟨b6, 0, none⟩ (.int .u8 t)) := Kp.setCell hEW (.inr (by show w.heap.size ≤ b6; omega)) _
    have hAL2 := (At.ext hR hB2).setO (a := ⟨b6, 0, none⟩) (by show w.heap.size ≠ b6; omega) (.int .u8 t)
    have hAL3 := (At.ext hR hB3).setO (a := ⟨b6, 0, none⟩) (by show w.heap.size + 1 ≠ b6; omega) (.int .u8 t)
    clear c6 f6 hA6 hEW hR hB2 hB3 hst0 b2 b3 c0 c1 hsum hsplit
    generalize (W.setCell ⟨b6, 0, none⟩ (.int .u8 t)) = wL at *
    clear hE0 vs hsz1 hsz6 W
    have hstL := At.ext hEL hst
    have b2 : wL.cell? ⟨w.heap.size, 0, none⟩ = some (.pointer (some ⟨f.b, 0, none⟩)) := hAL2.cell rfl
    have c2 : wL.cell? ⟨f.b, 2, none⟩ = some (.slice (some ⟨f.bw, 0, none⟩) g f.cw) := hstL.cell rfl
    go_wp2_with (go_at_call 100; refine (seqc_w h g _).mono ?_; rintro e wS ⟨s1, s2, rfl, hS1, hS2, hE2, hl1, hl2⟩)
    clear b2 c2 hstL
    have hES : Ext w wS := Ext.trans _ _ _ hEL hE2
    have hlf := fun k (hk : f.fp k) => hI.lt hk
    have hszL := hEL.size
    have hszS := hE2.size
    refine (wpIn_wide (n := 3)).1 ?_
    apply wpIn_rangeFunc_ownG (n := 3) (gf := 115) (lb := #[.pointer (some ⟨s1, 0, none⟩), .pointer (some ⟨s2, 0, none⟩)]) rfl (by omega) rfl trivial (enters_of Tryd.func115 (by kernel_rfl) rfl)
      (seq_stops _ h s1 s2 hP hhU _ hS1 hS2) (fun h k => h.trans k) (kpB_b hS1.lt hS2.lt) (Below.refl _ _) (fun _ => rfl)
      (fun pre W => Ext wS W ∧ ∀ r, m.layL t key v (pre.map Subtype.val ++ r) = m.layL t key v r)
      (fun c pre W => c = .ret ∧ ∃ m', Is W f m' ∧ Kp f.fp wS W ∧ ∀ r, m.layL t key v (pre.map Subtype.val ++ r) = m')
      (fun s A B row hs hg hr => ⟨Kp.gr hs.1 hg (fun k e => (hr k e).1), hs.2⟩)
      (fun c s A B row hs hg hr => ⟨hs.1, let ⟨m', hA, hK, hv⟩ := hs.2; ⟨m', hA.kp ((Kp.refl (fun k => row = some k) A).grown hg (fun k e => .inl e)) (fun k hk e => by have := hlf k hk; have := (hr k e).1; omega), Kp.gr hK hg (fun k e => (hr k e).1), hv⟩⟩)
      ⟨Ext.refl _, fun _ => rfl⟩ _ ?assign ?body ?done ?stop
    case assign =>
      intro l x W K hK
      gi_wp2
      exact hK
    case body =>
      rintro l pre ⟨x, hx⟩ W1 ⟨hK, hF⟩ _
      have hwU : m.w x < U := hM.wlt hx hg
      have hwc : (m.ws.map u64V)[x]? = some (u64V (m.w x)) := hM.wAt hx hg
      have hbx : ∀ W', Kp f.fp W1 W' → W'.cell? ⟨w.heap.size, 0, none⟩ = some (.pointer (some ⟨f.b, 0, none⟩)) ∧ W'.cell? ⟨w.heap.size + 1, 0, none⟩ = some (.string key) ∧ W'.cell? ⟨w.heap.size + 1, 1, none⟩ = some (Value.string v) ∧ W'.cell? ⟨b6, 0, none⟩ = some (.int .u8 t) ∧ Sh W' := fun W' hK'' => have hK' : Kp f.fp wS W' := (Ext.kp hK).trans hK''
        ⟨hK'.cell ((At.ext hE2 hAL2).cell rfl) (fun e => by have := hlf _ e; omega), hK'.cell ((At.ext hE2 hAL3).cell rfl) (fun e => by have := hlf _ e; omega), hK'.cell ((At.ext hE2 hAL3).cell rfl) (fun e => by have := hlf _ e; omega), hK'.cell ((At.ext hE2 hAL6).cell rfl) (fun e => by have := hlf _ e; omega),
          (hSh.kp hES (fun f => f)).kp hK' (fun e => by rcases e with e | e | e; exact hI.nz.1 e.symm; exact hI.nz.2.1 e.symm; exact hI.nz.2.2 e.symm)⟩
      have HBX := Lib.hid hbx
      clear hbx
      obtain ⟨wd, hwd⟩ : ∃ wd, Hid (m.w x = wd) := ⟨_, Lib.hid rfl⟩
      rw [hwd.out] at hwU
      have hst1 := At.ext hK (At.ext hES hst)
      have hwd1 := hI.wd.kp (Ext.trans _ _ _ hES hK) (fun f => f)
      have hsl1 := hI.sl.kp (Ext.trans _ _ _ hES hK) (fun f => f)
      have hK1 : Kp f.fp W1 W1 := Kp.refl _ _
      obtain ⟨b2, b3, b3', b5, hSh1⟩ := HBX.out W1 hK1
      have c2 : W1.cell? ⟨f.b, 2, none⟩ = some (.slice (some ⟨f.bw, 0, none⟩) g f.cw) := hst1.cell rfl
      have cw := hwd1.cell hwc
      rw [hwd.out] at cw
      unfold u64V at cw
      have hfree := free_w wd hwU W1
      have hfl := freeN_lt wd
      dsimp only
      by_cases h0 : freeN wd = 0
      · have hskip : Hid (fr (m.w x) = 0) := Lib.hid (by rw [hwd.out]; exact h0)
        rw [h0] at hfree
        gi_wp2_with (refine ⟨trivial, ?_⟩; gi_at_call 104; refine (CallsIn.inRound l (callsIn_wide.2 hfree)).mono ?_; rintro e w1 ⟨rfl, rfl⟩)
        exact ⟨KeepsFrom.refl _ _, ⟨rfl, rfl⟩, hK, fun r => by
          rw [List.map_append, List.append_assoc, hF]
          exact m.layL_skip hskip.out r⟩
      · have hput : Hid (fr (m.w x) ≠ 0) := Lib.hid (by rw [hwd.out]; exact h0)
        obtain ⟨_, e2, _⟩ := bits_step ⟨freeN wd, hfl⟩ h0
        simp only at e2
        have hfi := first_w (freeN wd) hfl W1
        obtain ⟨i, hi⟩ : ∃ i, Hid (tz8 (freeN wd) = i) := ⟨_, Lib.hid rfl⟩
        rw [hi.out] at e2 hfi
        have hgw := get_w wd i e2 W1 hSh1
        have hbl := byteAt_lt wd i
        have hq : 8 * x + i < 8 * g := by omega
        obtain ⟨q, hqq⟩ : ∃ q, Hid (8 * x + i = q) := ⟨_, Lib.hid rfl⟩
        rw [hqq.out] at hq
        have hqc : (8 : Int) * (x : Int) + (i : Int) = (q : Int) := by have := hqq.out; omega
        have hnb : ((freeN wd : Int) == 0) = false := by simp; omega
        by_cases hd : byteAt wd i = 254
        · rw [hd] at hgw
          have c5 : W1.cell? ⟨f.b, 5, none⟩ = some (.int .i64 m.t) := hst1.cell rfl
          have f5 := hst1.frozen 5
          have htb := hM.t
          gi_wp2_with (first | (refine ⟨trivial, ?_⟩; gi_at_call 104; refine (CallsIn.inRound l (callsIn_wide.2 hfree)).mono ?_; rintro e w1 ⟨rfl, rfl⟩) | (refine ⟨trivial, ?_⟩; gi_at_call 103; refine (CallsIn.inRound l (callsIn_wide.2 hfi)).mono ?_; rintro e w1 ⟨rfl, rfl⟩) | (refine ⟨trivial, ?_⟩; gi_at_call 105; refine (CallsIn.inRound l (callsIn_wide.2 hgw)).mono ?_; rintro e w1 ⟨rfl, rfl⟩))
          have hst2 := hst1.set 5 (.int .i64 (m.t - 1))
          have hwd2 := hwd1.setO (a := ⟨f.b, 5, none⟩) (Ne.symm hI.ne.1) (.int .i64 (m.t - 1))
          have hsl2 := hsl1.setO (a := ⟨f.b, 5, none⟩) (Ne.symm hI.ne.2.1) (.int .i64 (m.t - 1))
          have hK2 := hK1.setCell (a := ⟨f.b, 5, none⟩) (.inl (.inl rfl)) (.int .i64 (m.t - 1))
          clear c5 f5 b2 b3 b3' b5 c2 cw hst1 hwd1 hsl1
          generalize World.setCell W1 ⟨f.b, 5, none⟩ (.int .i64 (m.t - 1)) = W2 at *
          have hi8 : i % 8 = i := by omega
          have hqs := hM.sAt (i := q) hq hg
          have hsa := slotCells_at enc m.sl q _ hqs
          obtain ⟨b2, b3, b3', b5, hSh'⟩ := HBX.out W2 hK2
          have c2 : World.cell? W2 ⟨f.b, 2, none⟩ = some (.slice (some ⟨f.bw, 0, none⟩) g f.cw) := hst2.cell rfl
          have cw := hwd2.cell hwc
          rw [hwd.out] at cw
          unfold u64V at cw
          apply Rg.regionL_in (Ext) [.c _ _, .c _ _, .c _ _, .c _ _, .c _ _, .c _ _, .c _ _, .c _ _, .c _ _, .c _ _, .c _ _, .c _ _, .c _ _, .c _ _, .c _ _]
            [(some 57, 0), (some 58, 1), (some 59, 2), (some 60, 3), (some 61, 4), (some 62, 5), (some 63, 6), (some 64, 7), (some 65, 8), (some 66, 9), (some 67, 10), (some 68, 11), (some 69, 12), (some 70, 13), (some 71, 14)]
            [[], [(some 57, 0)], [(some 58, 1)], [(some 59, 2)], [], [], [(some 62, 5)], [(some 63, 6)], [(some 64, 7)], [], [(some 65, 8), (some 66, 9)], [(some 67, 10)], [], [], [(some 68, 11), (some 69, 12), (some 70, 13)]]
            (by kernel_rfl) (by kernel_rfl) (by kernel_rfl) Ext.refl Ext.trans
          case hops =>
            refine ⟨?_, ?_, ?_, ?_, ?_, ?_, ?_, ?_, ?_, ?_, ?_, ?_, ?_, ?_, ?_, trivial⟩
            · intro vs W hR 
              have fx0 := hR.cell b2
              have fx1 := hR.cell b5
              have fx2 := hR.cell c2
              have fx3 := hR.cell cw
              simp only [Rg.Deps, Rg.frameE, List.foldl]
              go_wp2
              exact ⟨_, rfl, Ext.refl _, rfl⟩
            · intro vs W hR h0
              replace h0 : vs 0 = _ := h0
              simp only [Rg.Deps, Rg.frameE, List.foldl, h0]
              go_wp2
              exact ⟨_, rfl, Ext.refl _, rfl⟩
            · intro vs W hR h1
              replace h1 : vs 1 = _ := h1
              simp only [Rg.Deps, Rg.frameE, List.foldl, h1]
              go_wp2
              exact ⟨_, rfl, Ext.refl _, rfl⟩
            · intro vs W hR h2
              replace h2 : vs 2 = _ := h2
              have fx0 := hR.cell b2
              have fx1 := hR.cell b5
              have fx2 := hR.cell c2
              have fx3 := hR.cell cw
              simp only [Rg.Deps, Rg.frameE, List.foldl, h2]
              go_wp2
              exact ⟨_, rfl, Ext.refl _, rfl⟩
            · intro vs W hR 
              simp only [Rg.Deps, Rg.frameE, List.foldl]
              go_wp2
              exact ⟨_, rfl, Ext.refl _, rfl⟩
            · intro vs W hR 
              have fx0 := hR.cell b2
              have fx1 := hR.cell b5
              have fx2 := hR.cell c2
              have fx3 := hR.cell cw
              simp only [Rg.Deps, Rg.frameE, List.foldl]
              go_wp2
              exact ⟨_, rfl, Ext.refl _, rfl⟩
            · intro vs W hR h5
              replace h5 : vs 5 = _ := h5
              simp only [Rg.Deps, Rg.frameE, List.foldl, h5]
              go_wp2
              exact ⟨_, rfl, Ext.refl _, rfl⟩
            · intro vs W hR h6
              replace h6 : vs 6 = _ := h6
              simp only [Rg.Deps, Rg.frameE, List.foldl, h6]
              go_wp2
              exact ⟨_, rfl, Ext.refl _, rfl⟩
            · intro vs W hR h7
              replace h7 : vs 7 = _ := h7
              have fx0 := hR.cell b2
              have fx1 := hR.cell b5
              have fx2 := hR.cell c2
              have fx3 := hR.cell cw
              simp only [Rg.Deps, Rg.frameE, List.foldl, h7]
              go_wp2
              exact ⟨_, rfl, Ext.refl _, rfl⟩
            · intro vs W hR 
              simp only [Rg.Deps, Rg.frameE, List.foldl]
              go_wp2
              exact ⟨_, rfl, Ext.refl _, rfl⟩
            · intro vs W hR h8 h9
              replace h8 : vs 8 = _ := h8
              replace h9 : vs 9 = _ := h9
              have fx0 := hR.cell b2
              have fx1 := hR.cell b5
              have fx2 := hR.cell c2
              have fx3 := hR.cell cw
              simp only [Rg.Deps, Rg.frameE, List.foldl, h8, h9]
              go_wp2
              exact ⟨_, rfl, Ext.refl _, rfl⟩
            · intro vs W hR h10
              replace h10 : vs 10 = _ := h10
              have fx0 := hR.cell b2
              have fx1 := hR.cell b5
              have fx2 := hR.cell c2
              have fx3 := hR.cell cw
              simp only [Rg.Deps, Rg.frameE, List.foldl, h10]
              go_wp2
              exact ⟨_, rfl, Ext.refl _, rfl⟩
            · intro vs W hR 
              simp only [Rg.Deps, Rg.frameE, List.foldl]
              go_wp2
              exact ⟨_, rfl, Ext.refl _, rfl⟩
            · intro vs W hR 
              have fx0 := hR.cell b2
              have fx1 := hR.cell b5
              have fx2 := hR.cell c2
              have fx3 := hR.cell cw
              simp only [Rg.Deps, Rg.frameE, List.foldl]
              go_wp2
              exact ⟨_, rfl, Ext.refl _, rfl⟩
            · intro vs W hR h11 h12 h13
              replace h11 : vs 11 = _ := h11
              replace h12 : vs 12 = _ := h12
              replace h13 : vs 13 = _ := h13
              have fx0 := hR.cell b2
              have fx1 := hR.cell b5
              have fx2 := hR.cell c2
              have fx3 := hR.cell cw
              simp only [Rg.Deps, Rg.frameE, List.foldl, h11, h12, h13]
              have hsetw := set_w wd i t hwU (by omega) htl W (hSh'.kp (Kp.trans (Ext.drew _) hR) (fun f => f))
              rw [hi8] at hsetw
              go_wp2_with (go_at_call 68; refine hsetw.mono ?_; rintro e w1 ⟨rfl, rfl⟩)
              exact ⟨_, rfl, Ext.refl _, rfl⟩
          case htail =>
            intro vs W hR h0 h1 h2 h3 h4 h5 h6 h7 h8 h9 h10 h11 h12 h13 h14
            replace h0 : vs 0 = _ := h0
            replace h1 : vs 1 = _ := h1
            replace h2 : vs 2 = _ := h2
            replace h3 : vs 3 = _ := h3
            replace h4 : vs 4 = _ := h4
            replace h5 : vs 5 = _ := h5
            replace h6 : vs 6 = _ := h6
            replace h7 : vs 7 = _ := h7
            replace h8 : vs 8 = _ := h8
            replace h9 : vs 9 = _ := h9
            replace h10 : vs 10 = _ := h10
            replace h11 : vs 11 = _ := h11
            replace h12 : vs 12 = _ := h12
            replace h13 : vs 13 = _ := h13
            replace h14 : vs 14 = _ := h14
            simp only [Rg.Facts, Rg.frameE, List.foldl, List.drop, List.length, h0, h1, h2, h3, h4, h5, h6, h7, h8, h9, h10, h11, h12, h13, h14]
            clear h0 h1 h2 h3 h4 h5 h6 h7 h8 h9 h10 h11 h12 h13 h14
            simp only [Act.put, List.setIfInBounds_toArray, List.set_cons_zero, List.set_cons_succ]
            have hsta := At.ext hR hst2
            have hwda := Row.kp hwd2 (Kp.trans (Ext.drew _) hR) (fun f => f)
            have hsla := Row.kp hsl2 (Kp.trans (Ext.drew _) hR) (fun f => f)
            have hKa : Kp f.fp W1 W := Kp.trans hK2.drew hR.kp
            have cwa := hwda.cell hwc
            rw [hwd.out] at cwa
            unfold u64V at cwa
            have fwa := hwda.frozen x
            clear hR b2 b3 b3' b5 c2 cw
            gi_wp2
            have hstb := hsta.setO (a := ⟨f.bw, x, none⟩) hI.ne.1 (.int .u64 (setN wd i t : Nat))
            have hwdb := hwda.set (j := x) (by simp [hg.out, hx]) (.int .u64 (setN wd i t : Nat))
            have hslb := hsla.setO (a := ⟨f.bw, x, none⟩) (Ne.symm hI.ne.2.2) (.int .u64 (setN wd i t : Nat))
            have hKb := hKa.setCell (a := ⟨f.bw, x, none⟩) (.inl (.inr (.inl rfl))) (.int .u64 (setN wd i t : Nat))
            clear hsta hwda hsla hKa cwa fwa
            generalize World.setCell W ⟨f.bw, x, none⟩ (.int .u64 (setN wd i t : Nat)) = Wb at *
            obtain ⟨b2, b3, b3', b5, hSh''⟩ := HBX.out Wb hKb
            have c3 : Wb.cell? ⟨f.b, 3, none⟩ = some (.slice (some ⟨f.bs, 0, none⟩) (8 * g) f.cs) := hstb.cell rfl
            apply Rg.regionL_in (Ext) [.c _ _, .c _ _, .c _ _, .c _ _, .c _ _, .c _ _, .c _ _, .c _ _, .c _ _]
              [(some 73, 0), (some 74, 1), (some 75, 2), (some 76, 3), (some 77, 4), (some 78, 5), (some 79, 6), (some 80, 7), (some 81, 8)]
              [[], [(some 73, 0)], [(some 74, 1)], [(some 75, 2)], [], [(some 77, 4)], [], [(some 78, 5), (some 79, 6)], []]
              (by kernel_rfl) (by kernel_rfl) (by kernel_rfl) Ext.refl Ext.trans
            case hops =>
              refine ⟨?_, ?_, ?_, ?_, ?_, ?_, ?_, ?_, ?_, trivial⟩
              · intro vs W hR 
                have fx0 := hR.cell b2
                have fx1 := hR.cell b3
                have fx2 := hR.cell b3'
                have fx3 := hR.cell c3
                simp only [Rg.Deps, Rg.frameE, List.foldl]
                go_wp2
                exact ⟨_, rfl, Ext.refl _, rfl⟩
              · intro vs W hR h0
                replace h0 : vs 0 = _ := h0
                simp only [Rg.Deps, Rg.frameE, List.foldl, h0]
                go_wp2
                exact ⟨_, rfl, Ext.refl _, rfl⟩
              · intro vs W hR h1
                replace h1 : vs 1 = _ := h1
                simp only [Rg.Deps, Rg.frameE, List.foldl, h1]
                go_wp2
                exact ⟨_, rfl, Ext.refl _, rfl⟩
              · intro vs W hR h2
                replace h2 : vs 2 = _ := h2
                have fx0 := hR.cell b2
                have fx1 := hR.cell b3
                have fx2 := hR.cell b3'
                have fx3 := hR.cell c3
                simp only [Rg.Deps, Rg.frameE, List.foldl, h2]
                go_wp2
                exact ⟨_, rfl, Ext.refl _, rfl⟩
              · intro vs W hR 
                simp only [Rg.Deps, Rg.frameE, List.foldl]
                go_wp2
                exact ⟨_, rfl, Ext.refl _, rfl⟩
              · intro vs W hR h4
                replace h4 : vs 4 = _ := h4
                simp only [Rg.Deps, Rg.frameE, List.foldl, h4]
                go_wp2
                exact ⟨_, rfl, Ext.refl _, rfl⟩
              · intro vs W hR 
                simp only [Rg.Deps, Rg.frameE, List.foldl]
                go_wp2
                exact ⟨_, rfl, Ext.refl _, rfl⟩
              · intro vs W hR h5 h6
                replace h5 : vs 5 = _ := h5
                replace h6 : vs 6 = _ := h6
                simp only [Rg.Deps, Rg.frameE, List.foldl, h5, h6]
                go_wp2
                exact ⟨_, rfl, Ext.refl _, rfl⟩
              · intro vs W hR 
                have fx0 := hR.cell b2
                have fx1 := hR.cell b3
                have fx2 := hR.cell b3'
                have fx3 := hR.cell c3
                simp only [Rg.Deps, Rg.frameE, List.foldl]
                go_wp2
                exact ⟨_, rfl, Ext.refl _, rfl⟩
            case htail =>
              intro vs W hR h0 h1 h2 h3 h4 h5 h6 h7 h8
              replace h0 : vs 0 = _ := h0
              replace h1 : vs 1 = _ := h1
              replace h2 : vs 2 = _ := h2
              replace h3 : vs 3 = _ := h3
              replace h4 : vs 4 = _ := h4
              replace h5 : vs 5 = _ := h5
              replace h6 : vs 6 = _ := h6
              replace h7 : vs 7 = _ := h7
              replace h8 : vs 8 = _ := h8
              simp only [Rg.Facts, Rg.frameE, List.foldl, List.drop, List.length, h0, h1, h2, h3, h4, h5, h6, h7, h8]
              clear h0 h1 h2 h3 h4 h5 h6 h7 h8
              simp only [Act.put, List.setIfInBounds_toArray, List.set_cons_zero, List.set_cons_succ]
              have hstc := At.ext hR hstb
              have hwdc := Row.kp hwdb (Kp.trans (Ext.drew _) hR) (fun f => f)
              have hslc := Row.kp hslb (Kp.trans (Ext.drew _) hR) (fun f => f)
              have hKc : Kp f.fp W1 W := Kp.trans hKb.drew hR.kp
              have s0 := hslc.cell hsa.1
              have s1' := hslc.cell hsa.2
              have fs0 := hslc.frozen (q * 2)
              have fs1 := hslc.frozen (q * 2 + 1)
              obtain ⟨b2x, b3x, b3y, b5x, hShc⟩ := HBX.out W hKc
              have hstd := (hstc.setO (a := ⟨f.bs, q * 2, none⟩) hI.ne.2.1 (.string key)).setO (a := ⟨f.bs, q * 2 + 1, none⟩) hI.ne.2.1 (Value.string v)
              have hwdd := (hwdc.setO (a := ⟨f.bs, q * 2, none⟩) hI.ne.2.2 (.string key)).setO (a := ⟨f.bs, q * 2 + 1, none⟩) hI.ne.2.2 (Value.string v)
              have hsld := (hslc.set (j := q * 2) (List.getElem?_eq_some_iff.1 hsa.1).1 (.string key)).set (j := q * 2 + 1) (by rw [List.length_set]; exact (List.getElem?_eq_some_iff.1 hsa.2).1) (Value.string v)
              have hKd := (hKc.setCell (a := ⟨f.bs, q * 2, none⟩) (.inl (.inr (.inr rfl))) (.string key)).setCell (a := ⟨f.bs, q * 2 + 1, none⟩) (.inl (.inr (.inr rfl))) (Value.string v)
              obtain ⟨b2z, b3z, b3w, b5z, hShd⟩ := HBX.out _ hKd
              have c4 : ((W.setCell ⟨f.bs, q * 2, none⟩ (.string key)).setCell ⟨f.bs, q * 2 + 1, none⟩ (Value.string v)).cell? ⟨f.b, 4, none⟩ = some (.int .i64 m.n) := hstd.cell rfl
              have f4 := hstd.frozen 4
              have hnb2 := hM.n
              clear hR b2 b3 b3' b5 c3 hstb hwdb hslb hKb b2x b3x b3y b5x b3z b3w b5z hstc hwdc hslc hKc
              gi_wp2
              have hKe := hKd.setCell (a := ⟨f.b, 4, none⟩) (.inl (.inl rfl)) (.int .i64 (m.n + 1))
              refine ⟨keeps_of hKe (fun k hk => by have := hlf k hk; omega), rfl, m.putAt t key v x, ?_, (Ext.kp hK).trans hKe, fun r => ?_⟩
              · exact put_is hg.out hwd.out hi.out hqq.out (if_pos hd).symm (hstd.set 4 (.int .i64 (m.n + 1))) (hwdd.setO (a := ⟨f.b, 4, none⟩) (Ne.symm hI.ne.1) _) (hsld.setO (a := ⟨f.b, 4, none⟩) (Ne.symm hI.ne.2.1) _) hI.nz hI.ne
              · rw [List.map_append, List.append_assoc, hF]
                exact m.layL_at hput.out r
        · have hbn : ((byteAt wd i : Int) == 254) = false := by simp; omega
          gi_wp2_with (first | (refine ⟨trivial, ?_⟩; gi_at_call 104; refine (CallsIn.inRound l (callsIn_wide.2 hfree)).mono ?_; rintro e w1 ⟨rfl, rfl⟩) | (refine ⟨trivial, ?_⟩; gi_at_call 103; refine (CallsIn.inRound l (callsIn_wide.2 hfi)).mono ?_; rintro e w1 ⟨rfl, rfl⟩) | (refine ⟨trivial, ?_⟩; gi_at_call 105; refine (CallsIn.inRound l (callsIn_wide.2 hgw)).mono ?_; rintro e w1 ⟨rfl, rfl⟩))
          have hi8 : i % 8 = i := by omega
          have hqs := hM.sAt (i := q) hq hg
          have hsa := slotCells_at enc m.sl q _ hqs
          obtain ⟨b2, b3, b3', b5, hSh'⟩ := HBX.out W1 hK1
          have c2 : World.cell? W1 ⟨f.b, 2, none⟩ = some (.slice (some ⟨f.bw, 0, none⟩) g f.cw) := hst1.cell rfl
          have cw := hwd1.cell hwc
          rw [hwd.out] at cw
          unfold u64V at cw
          apply Rg.regionL_in (Ext) [.c _ _, .c _ _, .c _ _, .c _ _, .c _ _, .c _ _, .c _ _, .c _ _, .c _ _, .c _ _, .c _ _, .c _ _, .c _ _, .c _ _, .c _ _]
            [(some 57, 0), (some 58, 1), (some 59, 2), (some 60, 3), (some 61, 4), (some 62, 5), (some 63, 6), (some 64, 7), (some 65, 8), (some 66, 9), (some 67, 10), (some 68, 11), (some 69, 12), (some 70, 13), (some 71, 14)]
            [[], [(some 57, 0)], [(some 58, 1)], [(some 59, 2)], [], [], [(some 62, 5)], [(some 63, 6)], [(some 64, 7)], [], [(some 65, 8), (some 66, 9)], [(some 67, 10)], [], [], [(some 68, 11), (some 69, 12), (some 70, 13)]]
            (by kernel_rfl) (by kernel_rfl) (by kernel_rfl) Ext.refl Ext.trans
          case hops =>
            refine ⟨?_, ?_, ?_, ?_, ?_, ?_, ?_, ?_, ?_, ?_, ?_, ?_, ?_, ?_, ?_, trivial⟩
            · intro vs W hR 
              have fx0 := hR.cell b2
              have fx1 := hR.cell b5
              have fx2 := hR.cell c2
              have fx3 := hR.cell cw
              simp only [Rg.Deps, Rg.frameE, List.foldl]
              go_wp2
              exact ⟨_, rfl, Ext.refl _, rfl⟩
            · intro vs W hR h0
              replace h0 : vs 0 = _ := h0
              simp only [Rg.Deps, Rg.frameE, List.foldl, h0]
              go_wp2
              exact ⟨_, rfl, Ext.refl _, rfl⟩
            · intro vs W hR h1
              replace h1 : vs 1 = _ := h1
              simp only [Rg.Deps, Rg.frameE, List.foldl, h1]
              go_wp2
              exact ⟨_, rfl, Ext.refl _, rfl⟩
            · intro vs W hR h2
              replace h2 : vs 2 = _ := h2
              have fx0 := hR.cell b2
              have fx1 := hR.cell b5
              have fx2 := hR.cell c2
              have fx3 := hR.cell cw
              simp only [Rg.Deps, Rg.frameE, List.foldl, h2]
              go_wp2
              exact ⟨_, rfl, Ext.refl _, rfl⟩
            · intro vs W hR 
              simp only [Rg.Deps, Rg.frameE, List.foldl]
              go_wp2
              exact ⟨_, rfl, Ext.refl _, rfl⟩
            · intro vs W hR 
              have fx0 := hR.cell b2
              have fx1 := hR.cell b5
              have fx2 := hR.cell c2
              have fx3 := hR.cell cw
              simp only [Rg.Deps, Rg.frameE, List.foldl]
              go_wp2
              exact ⟨_, rfl, Ext.refl _, rfl⟩
            · intro vs W hR h5
              replace h5 : vs 5 = _ := h5
              simp only [Rg.Deps, Rg.frameE, List.foldl, h5]
              go_wp2
              exact ⟨_, rfl, Ext.refl _, rfl⟩
            · intro vs W hR h6
              replace h6 : vs 6 = _ := h6
              simp only [Rg.Deps, Rg.frameE, List.foldl, h6]
              go_wp2
              exact ⟨_, rfl, Ext.refl _, rfl⟩
            · intro vs W hR h7
              replace h7 : vs 7 = _ := h7
              have fx0 := hR.cell b2
              have fx1 := hR.cell b5
              have fx2 := hR.cell c2
              have fx3 := hR.cell cw
              simp only [Rg.Deps, Rg.frameE, List.foldl, h7]
              go_wp2
              exact ⟨_, rfl, Ext.refl _, rfl⟩
            · intro vs W hR 
              simp only [Rg.Deps, Rg.frameE, List.foldl]
              go_wp2
              exact ⟨_, rfl, Ext.refl _, rfl⟩
            · intro vs W hR h8 h9
              replace h8 : vs 8 = _ := h8
              replace h9 : vs 9 = _ := h9
              have fx0 := hR.cell b2
              have fx1 := hR.cell b5
              have fx2 := hR.cell c2
              have fx3 := hR.cell cw
              simp only [Rg.Deps, Rg.frameE, List.foldl, h8, h9]
              go_wp2
              exact ⟨_, rfl, Ext.refl _, rfl⟩
            · intro vs W hR h10
              replace h10 : vs 10 = _ := h10
              have fx0 := hR.cell b2
              have fx1 := hR.cell b5
              have fx2 := hR.cell c2
              have fx3 := hR.cell cw
              simp only [Rg.Deps, Rg.frameE, List.foldl, h10]
              go_wp2
              exact ⟨_, rfl, Ext.refl _, rfl⟩
            · intro vs W hR 
              simp only [Rg.Deps, Rg.frameE, List.foldl]
              go_wp2
              exact ⟨_, rfl, Ext.refl _, rfl⟩
            · intro vs W hR 
              have fx0 := hR.cell b2
              have fx1 := hR.cell b5
              have fx2 := hR.cell c2
              have fx3 := hR.cell cw
              simp only [Rg.Deps, Rg.frameE, List.foldl]
              go_wp2
              exact ⟨_, rfl, Ext.refl _, rfl⟩
            · intro vs W hR h11 h12 h13
              replace h11 : vs 11 = _ := h11
              replace h12 : vs 12 = _ := h12
              replace h13 : vs 13 = _ := h13
              have fx0 := hR.cell b2
              have fx1 := hR.cell b5
              have fx2 := hR.cell c2
              have fx3 := hR.cell cw
              simp only [Rg.Deps, Rg.frameE, List.foldl, h11, h12, h13]
              have hsetw := set_w wd i t hwU (by omega) htl W (hSh'.kp (Kp.trans (Ext.drew _) hR) (fun f => f))
              rw [hi8] at hsetw
              go_wp2_with (go_at_call 68; refine hsetw.mono ?_; rintro e w1 ⟨rfl, rfl⟩)
              exact ⟨_, rfl, Ext.refl _, rfl⟩
          case htail =>
            intro vs W hR h0 h1 h2 h3 h4 h5 h6 h7 h8 h9 h10 h11 h12 h13 h14
            replace h0 : vs 0 = _ := h0
            replace h1 : vs 1 = _ := h1
            replace h2 : vs 2 = _ := h2
            replace h3 : vs 3 = _ := h3
            replace h4 : vs 4 = _ := h4
            replace h5 : vs 5 = _ := h5
            replace h6 : vs 6 = _ := h6
            replace h7 : vs 7 = _ := h7
            replace h8 : vs 8 = _ := h8
            replace h9 : vs 9 = _ := h9
            replace h10 : vs 10 = _ := h10
            replace h11 : vs 11 = _ := h11
            replace h12 : vs 12 = _ := h12
            replace h13 : vs 13 = _ := h13
            replace h14 : vs 14 = _ := h14
            simp only [Rg.Facts, Rg.frameE, List.foldl, List.drop, List.length, h0, h1, h2, h3, h4, h5, h6, h7, h8, h9, h10, h11, h12, h13, h14]
            clear h0 h1 h2 h3 h4 h5 h6 h7 h8 h9 h10 h11 h12 h13 h14
            simp only [Act.put, List.setIfInBounds_toArray, List.set_cons_zero, List.set_cons_succ]
            have hsta := At.ext hR hst1
            have hwda := Row.kp hwd1 (Kp.trans (Ext.drew _) hR) (fun f => f)
            have hsla := Row.kp hsl1 (Kp.trans (Ext.drew _) hR) (fun f => f)
            have hKa : Kp f.fp W1 W := Kp.trans hK1.drew hR.kp
            have cwa := hwda.cell hwc
            rw [hwd.out] at cwa
            unfold u64V at cwa
            have fwa := hwda.frozen x
            clear hR b2 b3 b3' b5 c2 cw
            gi_wp2
            have hstb := hsta.setO (a := ⟨f.bw, x, none⟩) hI.ne.1 (.int .u64 (setN wd i t : Nat))
            have hwdb := hwda.set (j := x) (by simp [hg.out, hx]) (.int .u64 (setN wd i t : Nat))
            have hslb := hsla.setO (a := ⟨f.bw, x, none⟩) (Ne.symm hI.ne.2.2) (.int .u64 (setN wd i t : Nat))
            have hKb := hKa.setCell (a := ⟨f.bw, x, none⟩) (.inl (.inr (.inl rfl))) (.int .u64 (setN wd i t : Nat))
            clear hsta hwda hsla hKa cwa fwa
            generalize World.setCell W ⟨f.bw, x, none⟩ (.int .u64 (setN wd i t : Nat)) = Wb at *
            obtain ⟨b2, b3, b3', b5, hSh''⟩ := HBX.out Wb hKb
            have c3 : Wb.cell? ⟨f.b, 3, none⟩ = some (.slice (some ⟨f.bs, 0, none⟩) (8 * g) f.cs) := hstb.cell rfl
            apply Rg.regionL_in (Ext) [.c _ _, .c _ _, .c _ _, .c _ _, .c _ _, .c _ _, .c _ _, .c _ _, .c _ _]
              [(some 73, 0), (some 74, 1), (some 75, 2), (some 76, 3), (some 77, 4), (some 78, 5), (some 79, 6), (some 80, 7), (some 81, 8)]
              [[], [(some 73, 0)], [(some 74, 1)], [(some 75, 2)], [], [(some 77, 4)], [], [(some 78, 5), (some 79, 6)], []]
              (by kernel_rfl) (by kernel_rfl) (by kernel_rfl) Ext.refl Ext.trans
            case hops =>
              refine ⟨?_, ?_, ?_, ?_, ?_, ?_, ?_, ?_, ?_, trivial⟩
              · intro vs W hR 
                have fx0 := hR.cell b2
                have fx1 := hR.cell b3
                have fx2 := hR.cell b3'
                have fx3 := hR.cell c3
                simp only [Rg.Deps, Rg.frameE, List.foldl]
                go_wp2
                exact ⟨_, rfl, Ext.refl _, rfl⟩
              · intro vs W hR h0
                replace h0 : vs 0 = _ := h0
                simp only [Rg.Deps, Rg.frameE, List.foldl, h0]
                go_wp2
                exact ⟨_, rfl, Ext.refl _, rfl⟩
              · intro vs W hR h1
                replace h1 : vs 1 = _ := h1
                simp only [Rg.Deps, Rg.frameE, List.foldl, h1]
                go_wp2
                exact ⟨_, rfl, Ext.refl _, rfl⟩
              · intro vs W hR h2
                replace h2 : vs 2 = _ := h2
                have fx0 := hR.cell b2
                have fx1 := hR.cell b3
                have fx2 := hR.cell b3'
                have fx3 := hR.cell c3
                simp only [Rg.Deps, Rg.frameE, List.foldl, h2]
                go_wp2
                exact ⟨_, rfl, Ext.refl _, rfl⟩
              · intro vs W hR 
                simp only [Rg.Deps, Rg.frameE, List.foldl]
                go_wp2
                exact ⟨_, rfl, Ext.refl _, rfl⟩
              · intro vs W hR h4
                replace h4 : vs 4 = _ := h4
                simp only [Rg.Deps, Rg.frameE, List.foldl, h4]
                go_wp2
                exact ⟨_, rfl, Ext.refl _, rfl⟩
              · intro vs W hR 
                simp only [Rg.Deps, Rg.frameE, List.foldl]
                go_wp2
                exact ⟨_, rfl, Ext.refl _, rfl⟩
              · intro vs W hR h5 h6
                replace h5 : vs 5 = _ := h5
                replace h6 : vs 6 = _ := h6
                simp only [Rg.Deps, Rg.frameE, List.foldl, h5, h6]
                go_wp2
                exact ⟨_, rfl, Ext.refl _, rfl⟩
              · intro vs W hR 
                have fx0 := hR.cell b2
                have fx1 := hR.cell b3
                have fx2 := hR.cell b3'
                have fx3 := hR.cell c3
                simp only [Rg.Deps, Rg.frameE, List.foldl]
                go_wp2
                exact ⟨_, rfl, Ext.refl _, rfl⟩
            case htail =>
              intro vs W hR h0 h1 h2 h3 h4 h5 h6 h7 h8
              replace h0 : vs 0 = _ := h0
              replace h1 : vs 1 = _ := h1
              replace h2 : vs 2 = _ := h2
              replace h3 : vs 3 = _ := h3
              replace h4 : vs 4 = _ := h4
              replace h5 : vs 5 = _ := h5
              replace h6 : vs 6 = _ := h6
              replace h7 : vs 7 = _ := h7
              replace h8 : vs 8 = _ := h8
              simp only [Rg.Facts, Rg.frameE, List.foldl, List.drop, List.length, h0, h1, h2, h3, h4, h5, h6, h7, h8]
              clear h0 h1 h2 h3 h4 h5 h6 h7 h8
              simp only [Act.put, List.setIfInBounds_toArray, List.set_cons_zero, List.set_cons_succ]
              have hstc := At.ext hR hstb
              have hwdc := Row.kp hwdb (Kp.trans (Ext.drew _) hR) (fun f => f)
              have hslc := Row.kp hslb (Kp.trans (Ext.drew _) hR) (fun f => f)
              have hKc : Kp f.fp W1 W := Kp.trans hKb.drew hR.kp
              have s0 := hslc.cell hsa.1
              have s1' := hslc.cell hsa.2
              have fs0 := hslc.frozen (q * 2)
              have fs1 := hslc.frozen (q * 2 + 1)
              obtain ⟨b2x, b3x, b3y, b5x, hShc⟩ := HBX.out W hKc
              have hstd := (hstc.setO (a := ⟨f.bs, q * 2, none⟩) hI.ne.2.1 (.string key)).setO (a := ⟨f.bs, q * 2 + 1, none⟩) hI.ne.2.1 (Value.string v)
              have hwdd := (hwdc.setO (a := ⟨f.bs, q * 2, none⟩) hI.ne.2.2 (.string key)).setO (a := ⟨f.bs, q * 2 + 1, none⟩) hI.ne.2.2 (Value.string v)
              have hsld := (hslc.set (j := q * 2) (List.getElem?_eq_some_iff.1 hsa.1).1 (.string key)).set (j := q * 2 + 1) (by rw [List.length_set]; exact (List.getElem?_eq_some_iff.1 hsa.2).1) (Value.string v)
              have hKd := (hKc.setCell (a := ⟨f.bs, q * 2, none⟩) (.inl (.inr (.inr rfl))) (.string key)).setCell (a := ⟨f.bs, q * 2 + 1, none⟩) (.inl (.inr (.inr rfl))) (Value.string v)
              obtain ⟨b2z, b3z, b3w, b5z, hShd⟩ := HBX.out _ hKd
              have c4 : ((W.setCell ⟨f.bs, q * 2, none⟩ (.string key)).setCell ⟨f.bs, q * 2 + 1, none⟩ (Value.string v)).cell? ⟨f.b, 4, none⟩ = some (.int .i64 m.n) := hstd.cell rfl
              have f4 := hstd.frozen 4
              have hnb2 := hM.n
              clear hR b2 b3 b3' b5 c3 hstb hwdb hslb hKb b2x b3x b3y b5x b3z b3w b5z hstc hwdc hslc hKc
              gi_wp2
              have hKe := hKd.setCell (a := ⟨f.b, 4, none⟩) (.inl (.inl rfl)) (.int .i64 (m.n + 1))
              refine ⟨keeps_of hKe (fun k hk => by have := hlf k hk; omega), rfl, m.putAt t key v x, ?_, (Ext.kp hK).trans hKe, fun r => ?_⟩
              · exact put_is hg.out hwd.out hi.out hqq.out (if_neg hd).symm (hstd.set 4 (.int .i64 (m.n + 1))) (hwdd.setO (a := ⟨f.b, 4, none⟩) (Ne.symm hI.ne.1) _) (hsld.setO (a := ⟨f.b, 4, none⟩) (Ne.symm hI.ne.2.1) _) hI.nz hI.ne
              · rw [List.map_append, List.append_assoc, hF]
                exact m.layL_at hput.out r
    case done =>
      intro D ys W hD hS ⟨hK, hF⟩ hd
      have hres : Hid (m.layL t key v (seq h g) = m) := Lib.hid (by have := hF []; rw [List.append_nil, hS] at this; exact this)
      have hEF : Ext w (W.putObj D (.deferred none)) := Kp.grown (Ext.trans _ _ _ hES hK) (grownBy_putObj' W D _) (fun k e => .inr (by cases e; omega))
      go_wp2
      refine ⟨by simp, .inl ⟨_, _, rfl, run_takeDeferred hd, ?_⟩⟩
      exact ⟨_, results_none rfl _ _ _, ⟨_, rfl⟩, by rw [hres.out]; exact hI.ext hEF, hEF.kp⟩
    case stop =>
      rintro D c pre W hD hSp ⟨rfl, m', hI', hK, hF⟩ hd
      have hres : Hid (m.layL t key v (seq h g) = m') := Lib.hid (by
        obtain ⟨r, hr⟩ := hSp
        rw [← hr]; exact hF r)
      have hKD : Kp (fun k => k = D) W (W.putObj D (.deferred none)) := (Kp.refl _ W).grown (grownBy_putObj' W D _) (fun k e => .inl (by cases e; rfl))
      have hID : Is (W.putObj D (.deferred none)) f m' := hI'.kp hKD (fun k hk e => by have := hlf k hk; omega)
      have hEF : Kp f.fp w (W.putObj D (.deferred none)) := Kp.grown ((Ext.kp hES).trans hK) (grownBy_putObj' W D _) (fun k e => .inr (by cases e; omega))
      refine wpIn_wide.2 ?_
      go_wp2
      refine ⟨by simp, .inl ⟨_, _, rfl, run_takeDeferred hd, ?_⟩⟩
      exact ⟨_, results_none rfl _ _ _, ⟨_, rfl⟩, by rw [hres.out]; exact hID, hEF⟩
end Go.Proofs.YtiopkkjcgdcgmaaDoor.s
