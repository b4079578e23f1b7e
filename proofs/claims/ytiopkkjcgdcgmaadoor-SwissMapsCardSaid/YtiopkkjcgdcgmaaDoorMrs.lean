/- The map: rehash. -/
import Derived.Test.YtiopkkjcgdcgmaaDoorMus
namespace Go.Proofs.YtiopkkjcgdcgmaaDoor.s
open Go.RowKit Go.Rg Go.Nm Go.Gp Go.Mp
set_option maxHeartbeats 1000000
set_option maxRecDepth 20000
theorem row_shape {w : World} {base : Nat} {e : TypeId} {sz : Nat} {v : Value} {n : Nat} {xs : List Value} (h : w.ownsRow base e sz v n xs) : ∃ p cap, v = .slice p n cap := by
  rcases h.2 with ⟨rfl, rfl⟩ | ⟨g, cap, cur, rfl, _⟩
  · exact ⟨none, 0, rfl⟩
  · exact ⟨_, cap, rfl⟩
theorem row_at {w : World} {base : Nat} {e : TypeId} {sz : Nat} {p : Option Addr} {n cap : Nat} {xs : List Value} (h : w.ownsRow base e sz (.slice p n cap) n xs) (h0 : 0 < n) : ∃ b, p = some ⟨b, 0, none⟩ ∧ base ≤ b ∧ Row w b e xs := by
  rcases h.2 with ⟨h, h1⟩ | ⟨g, cap', cur, hv, hb, _⟩
  · omega
  · cases hv
    exact ⟨g, rfl, hb, Row.own h⟩
theorem rehash_w (w : World) (f : Ft) (m : M ByteArray) (hI : Is w f m) (hM : Small m) (hSh : Sh w) (hPG : Pw (newG m)) (hSm : ∀ k, k ≤ m.full.length → Small (relay m k)) (hKey : ∀ s ∈ m.full, s.1.size ≤ maxLen) :
    Calls Tryd.prog 69 #[.pointer (some ⟨f.b, 0, none⟩)] w fun e w' => (∃ x, e = .returned x) ∧
      ∃ f', f'.b = f.b ∧ Is w' f' (rehash m) ∧ Kp (fun k => k = f.b) w w' ∧ w.heap.size ≤ f'.bw ∧ w.heap.size ≤ f'.bs := by
  have hg2 := hM.pw.le
  have hw0 : 0 < w.heap.size := by have := hI.st.lt; omega
  have hfl := m.fullTo_len m.ws.length
  change m.full.length ≤ 8 * m.ws.length at hfl
  obtain ⟨g, hg⟩ : ∃ g, Hid (m.ws.length = g) := ⟨_, Lib.hid rfl⟩
  obtain ⟨g', hg'⟩ : ∃ g', Hid (newG m = g') := ⟨_, Lib.hid rfl⟩
  have hG := Lib.hid (show newG m = if m.t = 0 ∨ 7 * (m.ws.length : Int) < 2 * m.n then 2 * m.ws.length else m.ws.length from rfl)
  have hst := hI.st
  unfold Ft.cells at hst
  rw [hg.out] at hg2 hst hG hfl
  rw [hg'.out] at hPG hG
  have c0 : w.cell? ⟨f.b, 0, none⟩ = some (.int .u64 m.k0) := hst.cell rfl
  have c1 : w.cell? ⟨f.b, 1, none⟩ = some (.int .u64 m.k1) := hst.cell rfl
  have c2 : w.cell? ⟨f.b, 2, none⟩ = some (.slice (some ⟨f.bw, 0, none⟩) g f.cw) := hst.cell rfl
  have c4 : w.cell? ⟨f.b, 4, none⟩ = some (.int .i64 m.n) := hst.cell rfl
  have c5 : w.cell? ⟨f.b, 5, none⟩ = some (.int .i64 m.t) := hst.cell rfl
  have hnb := hM.n
  have htb := hM.t
  have hmade := made_w m.k0 m.k1 g' hPG w hw0
  by_cases ht : m.t = 0
  · have hgg : (g : Int) * 2 = (g' : Int) := by have := hG.out; rw [if_pos (.inl ht)] at this; omega
    rw [ht] at c5
    go_enter Tryd.func69, Tryd.ntmps69
    go_wp2_with (first
      | (go_at_call 63; refine hmade.mono ?_; rintro e w1 ⟨fx, rfl, hIx, hEx, hnx⟩)
      | (go_at_call 78; refine (full_w w1 f m (hI.ext hEx) hM).mono ?_; rintro e w2 ⟨sv, rfl, hown, hE2⟩; obtain ⟨p, cap, rfl⟩ := row_shape hown))
    have hszx := hEx.size
    have hs2 := hE2.size
    have hE02 := Ext.trans _ _ _ hEx hE2
    obtain ⟨n, hn⟩ : ∃ n, Hid (m.full.length = n) := ⟨_, Lib.hid rfl⟩
    rw [hn.out] at hown hfl ⊢
    have hI0 : Is w2 fx (relay m 0) := by
      have : relay m 0 = made m.k0 m.k1 g' := by rw [← hg'.out]; rfl
      rw [this]; exact hIx.ext hE2
    clear c0 c1 c2 c4 c5
    go_loopw [37] (fun i wr => ∃ k : Nat, k ≤ n ∧ i = .int .i64 k ∧ Is wr fx (relay m k) ∧ Ext w wr ∧ wr.ownsRow w1.heap.size 109 2 (.slice p n cap) n (slotCells enc m.full)) (fun i _ => n - (intOf i).toNat)
    case atStart => exact ⟨0, by omega, rfl, hI0, hE02, hown⟩
    case round =>
      clear hown
      obtain ⟨k, hk, rfl, hIk, hEk, hown⟩ := hrel
      by_cases hlt : k < n
      · obtain ⟨s, hs⟩ : ∃ s, m.full[k]? = some s := ⟨m.full[k]'(by rw [hn.out]; exact hlt), by simp [hn.out, hlt]⟩
        obtain ⟨ks, vv⟩ := s
        have hsk := hKey _ (List.mem_of_getElem? hs)
        have hsa := slotCells_at enc m.full k _ hs
        obtain ⟨bb, rfl, hbb, hrow⟩ := row_at hown (by omega)
        have hs0 := hrow.cell hsa.1
        have hs1 := hrow.cell hsa.2
        unfold enc at hs1
        have hsm := hSm k (by rw [hn.out]; omega)
        have hR1 := Lib.hid (relay_succ m k _ hs)
        have hShk := hSh.kp hEk (fun f => f)
        have hlay := fun W h1 h2 => lay_w W fx (relay m k) h1 hsm h2 ks hsk vv
        unfold enc at hlay
        have hbx : ∀ W', Kp fx.fp (wr.alloc (.cells #[.string ks, Value.string vv] 109)) W' → Ext w W' ∧ W'.ownsRow w1.heap.size 109 2 (.slice (some ⟨bb, 0, none⟩) n cap) n (slotCells enc m.full) := fun W' h =>
          ⟨Kp.join (Kp.alloc hEk _) h (fun b hb e => by have := hnx b e; omega), row_kp (hown.alloc _) h (fun k e hf => by cases e; exact absurd (hIx.lt hf) (by show ¬ bb < w1.heap.size; omega))⟩
        have HBX := Lib.hid hbx
        clear hs hbx hsa
        go_wp2_with (go_at_call 70; refine (hlay _ (hIk.alloc _) (hShk.kp (Ext.alloc _ _) (fun f => f))).mono ?_; rintro e w4 ⟨⟨xv, rfl⟩, hI4, hK4⟩)
        go_roundw
        case rel =>
          obtain ⟨ha, hb⟩ := HBX.out _ hK4
          exact ⟨k + 1, by omega, by go_num, by rw [hR1.out]; exact hI4, ha, hb⟩
        case measure => simp [intOf]; omega
      · obtain rfl : k = n := by omega
        have hgl : (relay m k).ws.length = g' := (relay_len m k).trans hg'.out
        have hstx := hIk.st
        unfold Ft.cells at hstx
        rw [hgl] at hstx
        have hstf := At.ext hEk hst
        have x0 : wr.cell? ⟨fx.b, 0, none⟩ = some (.int .u64 (relay m k).k0) := hstx.cell rfl
        have x1 : wr.cell? ⟨fx.b, 1, none⟩ = some (.int .u64 (relay m k).k1) := hstx.cell rfl
        have x2 : wr.cell? ⟨fx.b, 2, none⟩ = some (.slice (some ⟨fx.bw, 0, none⟩) g' fx.cw) := hstx.cell rfl
        have x3 : wr.cell? ⟨fx.b, 3, none⟩ = some (.slice (some ⟨fx.bs, 0, none⟩) (8 * g') fx.cs) := hstx.cell rfl
        have x4 : wr.cell? ⟨fx.b, 4, none⟩ = some (.int .i64 (relay m k).n) := hstx.cell rfl
        have x5 : wr.cell? ⟨fx.b, 5, none⟩ = some (.int .i64 (relay m k).t) := hstx.cell rfl
        have y0 : wr.cell? ⟨f.b, 0, none⟩ = some (.int .u64 m.k0) := hstf.cell rfl
        have y1 : wr.cell? ⟨f.b, 1, none⟩ = some (.int .u64 m.k1) := hstf.cell rfl
        have y2 : wr.cell? ⟨f.b, 2, none⟩ = some (.slice (some ⟨f.bw, 0, none⟩) g f.cw) := hstf.cell rfl
        have y3 : wr.cell? ⟨f.b, 3, none⟩ = some (.slice (some ⟨f.bs, 0, none⟩) (8 * g) f.cs) := hstf.cell rfl
        have y4 : wr.cell? ⟨f.b, 4, none⟩ = some (.int .i64 m.n) := hstf.cell rfl
        have y5 : wr.cell? ⟨f.b, 5, none⟩ = some (.int .i64 m.t) := hstf.cell rfl
        have f0 := hstf.frozen 0
        have f1 := hstf.frozen 1
        have f2 := hstf.frozen 2
        have f3 := hstf.frozen 3
        have f4 := hstf.frozen 4
        have f5 := hstf.frozen 5
        go_wp2
        have hre : rehash m = relay m k := by unfold rehash; rw [hn.out]
        have KD := ((((((Kp.refl (fun b => b = f.b) wr).setCell (a := ⟨f.b, 0, none⟩) (.inl rfl) (.int .u64 (relay m k).k0)).setCell (a := ⟨f.b, 1, none⟩) (.inl rfl) (.int .u64 (relay m k).k1)).setCell (a := ⟨f.b, 2, none⟩) (.inl rfl) (.slice (some ⟨fx.bw, 0, none⟩) g' fx.cw)).setCell (a := ⟨f.b, 3, none⟩) (.inl rfl) (.slice (some ⟨fx.bs, 0, none⟩) (8 * g') fx.cs)).setCell (a := ⟨f.b, 4, none⟩) (.inl rfl) (.int .i64 (relay m k).n)).setCell (a := ⟨f.b, 5, none⟩) (.inl rfl) (.int .i64 (relay m k).t)
        have hst6 := ((((((hstf).set 0 (.int .u64 (relay m k).k0)).set 1 (.int .u64 (relay m k).k1)).set 2 (.slice (some ⟨fx.bw, 0, none⟩) g' fx.cw)).set 3 (.slice (some ⟨fx.bs, 0, none⟩) (8 * g') fx.cs)).set 4 (.int .i64 (relay m k).n)).set 5 (.int .i64 (relay m k).t)
        have hlb := hI.st.lt
        have hnw := hnx fx.bw (.inr (.inl rfl))
        have hns := hnx fx.bs (.inr (.inr rfl))
        go_end0
        refine ⟨⟨_, rfl⟩, ⟨f.b, fx.bw, fx.cw, fx.bs, fx.cs⟩, rfl, ?_, (Ext.kp hEk).trans KD, hnw, hns⟩
        rw [hre]
        refine ⟨?_, hIk.wd.kp KD (show ¬ fx.bw = f.b by omega), hIk.sl.kp KD (show ¬ fx.bs = f.b by omega), ⟨hI.nz.1, hIx.nz.2.1, hIx.nz.2.2⟩, ⟨show f.b ≠ fx.bw by omega, show f.b ≠ fx.bs by omega, hIx.ne.2.2⟩⟩
        unfold Ft.cells
        rw [hgl]
        exact hst6
  · have hb : (m.t == 0) = false := by simpa using ht
    by_cases hn7 : 7 * (g : Int) < 2 * m.n
    · have hgg : (g : Int) * 2 = (g' : Int) := by have := hG.out; rw [if_pos (.inr hn7)] at this; omega
      go_enter Tryd.func69, Tryd.ntmps69
      go_wp2_with (first
        | (go_at_call 63; refine hmade.mono ?_; rintro e w1 ⟨fx, rfl, hIx, hEx, hnx⟩)
        | (go_at_call 78; refine (full_w w1 f m (hI.ext hEx) hM).mono ?_; rintro e w2 ⟨sv, rfl, hown, hE2⟩; obtain ⟨p, cap, rfl⟩ := row_shape hown))
      have hszx := hEx.size
      have hs2 := hE2.size
      have hE02 := Ext.trans _ _ _ hEx hE2
      obtain ⟨n, hn⟩ : ∃ n, Hid (m.full.length = n) := ⟨_, Lib.hid rfl⟩
      rw [hn.out] at hown hfl ⊢
      have hI0 : Is w2 fx (relay m 0) := by
        have : relay m 0 = made m.k0 m.k1 g' := by rw [← hg'.out]; rfl
        rw [this]; exact hIx.ext hE2
      clear c0 c1 c2 c4 c5
      go_loopw [37] (fun i wr => ∃ k : Nat, k ≤ n ∧ i = .int .i64 k ∧ Is wr fx (relay m k) ∧ Ext w wr ∧ wr.ownsRow w1.heap.size 109 2 (.slice p n cap) n (slotCells enc m.full)) (fun i _ => n - (intOf i).toNat)
      case atStart => exact ⟨0, by omega, rfl, hI0, hE02, hown⟩
      case round =>
        clear hown
        obtain ⟨k, hk, rfl, hIk, hEk, hown⟩ := hrel
        by_cases hlt : k < n
        · obtain ⟨s, hs⟩ : ∃ s, m.full[k]? = some s := ⟨m.full[k]'(by rw [hn.out]; exact hlt), by simp [hn.out, hlt]⟩
          obtain ⟨ks, vv⟩ := s
          have hsk := hKey _ (List.mem_of_getElem? hs)
          have hsa := slotCells_at enc m.full k _ hs
          obtain ⟨bb, rfl, hbb, hrow⟩ := row_at hown (by omega)
          have hs0 := hrow.cell hsa.1
          have hs1 := hrow.cell hsa.2
          unfold enc at hs1
          have hsm := hSm k (by rw [hn.out]; omega)
          have hR1 := Lib.hid (relay_succ m k _ hs)
          have hShk := hSh.kp hEk (fun f => f)
          have hlay := fun W h1 h2 => lay_w W fx (relay m k) h1 hsm h2 ks hsk vv
          unfold enc at hlay
          have hbx : ∀ W', Kp fx.fp (wr.alloc (.cells #[.string ks, Value.string vv] 109)) W' → Ext w W' ∧ W'.ownsRow w1.heap.size 109 2 (.slice (some ⟨bb, 0, none⟩) n cap) n (slotCells enc m.full) := fun W' h =>
            ⟨Kp.join (Kp.alloc hEk _) h (fun b hb e => by have := hnx b e; omega), row_kp (hown.alloc _) h (fun k e hf => by cases e; exact absurd (hIx.lt hf) (by show ¬ bb < w1.heap.size; omega))⟩
          have HBX := Lib.hid hbx
          clear hs hbx hsa
          go_wp2_with (go_at_call 70; refine (hlay _ (hIk.alloc _) (hShk.kp (Ext.alloc _ _) (fun f => f))).mono ?_; rintro e w4 ⟨⟨xv, rfl⟩, hI4, hK4⟩)
          go_roundw
          case rel =>
            obtain ⟨ha, hb⟩ := HBX.out _ hK4
            exact ⟨k + 1, by omega, by go_num, by rw [hR1.out]; exact hI4, ha, hb⟩
          case measure => simp [intOf]; omega
        · obtain rfl : k = n := by omega
          have hgl : (relay m k).ws.length = g' := (relay_len m k).trans hg'.out
          have hstx := hIk.st
          unfold Ft.cells at hstx
          rw [hgl] at hstx
          have hstf := At.ext hEk hst
          have x0 : wr.cell? ⟨fx.b, 0, none⟩ = some (.int .u64 (relay m k).k0) := hstx.cell rfl
          have x1 : wr.cell? ⟨fx.b, 1, none⟩ = some (.int .u64 (relay m k).k1) := hstx.cell rfl
          have x2 : wr.cell? ⟨fx.b, 2, none⟩ = some (.slice (some ⟨fx.bw, 0, none⟩) g' fx.cw) := hstx.cell rfl
          have x3 : wr.cell? ⟨fx.b, 3, none⟩ = some (.slice (some ⟨fx.bs, 0, none⟩) (8 * g') fx.cs) := hstx.cell rfl
          have x4 : wr.cell? ⟨fx.b, 4, none⟩ = some (.int .i64 (relay m k).n) := hstx.cell rfl
          have x5 : wr.cell? ⟨fx.b, 5, none⟩ = some (.int .i64 (relay m k).t) := hstx.cell rfl
          have y0 : wr.cell? ⟨f.b, 0, none⟩ = some (.int .u64 m.k0) := hstf.cell rfl
          have y1 : wr.cell? ⟨f.b, 1, none⟩ = some (.int .u64 m.k1) := hstf.cell rfl
          have y2 : wr.cell? ⟨f.b, 2, none⟩ = some (.slice (some ⟨f.bw, 0, none⟩) g f.cw) := hstf.cell rfl
          have y3 : wr.cell? ⟨f.b, 3, none⟩ = some (.slice (some ⟨f.bs, 0, none⟩) (8 * g) f.cs) := hstf.cell rfl
          have y4 : wr.cell? ⟨f.b, 4, none⟩ = some (.int .i64 m.n) := hstf.cell rfl
          have y5 : wr.cell? ⟨f.b, 5, none⟩ = some (.int .i64 m.t) := hstf.cell rfl
          have f0 := hstf.frozen 0
          have f1 := hstf.frozen 1
          have f2 := hstf.frozen 2
          have f3 := hstf.frozen 3
          have f4 := hstf.frozen 4
          have f5 := hstf.frozen 5
          go_wp2
          have hre : rehash m = relay m k := by unfold rehash; rw [hn.out]
          have KD := ((((((Kp.refl (fun b => b = f.b) wr).setCell (a := ⟨f.b, 0, none⟩) (.inl rfl) (.int .u64 (relay m k).k0)).setCell (a := ⟨f.b, 1, none⟩) (.inl rfl) (.int .u64 (relay m k).k1)).setCell (a := ⟨f.b, 2, none⟩) (.inl rfl) (.slice (some ⟨fx.bw, 0, none⟩) g' fx.cw)).setCell (a := ⟨f.b, 3, none⟩) (.inl rfl) (.slice (some ⟨fx.bs, 0, none⟩) (8 * g') fx.cs)).setCell (a := ⟨f.b, 4, none⟩) (.inl rfl) (.int .i64 (relay m k).n)).setCell (a := ⟨f.b, 5, none⟩) (.inl rfl) (.int .i64 (relay m k).t)
          have hst6 := ((((((hstf).set 0 (.int .u64 (relay m k).k0)).set 1 (.int .u64 (relay m k).k1)).set 2 (.slice (some ⟨fx.bw, 0, none⟩) g' fx.cw)).set 3 (.slice (some ⟨fx.bs, 0, none⟩) (8 * g') fx.cs)).set 4 (.int .i64 (relay m k).n)).set 5 (.int .i64 (relay m k).t)
          have hlb := hI.st.lt
          have hnw := hnx fx.bw (.inr (.inl rfl))
          have hns := hnx fx.bs (.inr (.inr rfl))
          go_end0
          refine ⟨⟨_, rfl⟩, ⟨f.b, fx.bw, fx.cw, fx.bs, fx.cs⟩, rfl, ?_, (Ext.kp hEk).trans KD, hnw, hns⟩
          rw [hre]
          refine ⟨?_, hIk.wd.kp KD (show ¬ fx.bw = f.b by omega), hIk.sl.kp KD (show ¬ fx.bs = f.b by omega), ⟨hI.nz.1, hIx.nz.2.1, hIx.nz.2.2⟩, ⟨show f.b ≠ fx.bw by omega, show f.b ≠ fx.bs by omega, hIx.ne.2.2⟩⟩
          unfold Ft.cells
          rw [hgl]
          exact hst6
    · have hgg : g = g' := by have := hG.out; rw [if_neg (by simp [ht, hn7])] at this; omega
      subst hgg
      go_enter Tryd.func69, Tryd.ntmps69
      go_wp2_with (first
        | (go_at_call 63; refine hmade.mono ?_; rintro e w1 ⟨fx, rfl, hIx, hEx, hnx⟩)
        | (go_at_call 78; refine (full_w w1 f m (hI.ext hEx) hM).mono ?_; rintro e w2 ⟨sv, rfl, hown, hE2⟩; obtain ⟨p, cap, rfl⟩ := row_shape hown))
      have hszx := hEx.size
      have hs2 := hE2.size
      have hE02 := Ext.trans _ _ _ hEx hE2
      obtain ⟨n, hn⟩ : ∃ n, Hid (m.full.length = n) := ⟨_, Lib.hid rfl⟩
      rw [hn.out] at hown hfl ⊢
      have hI0 : Is w2 fx (relay m 0) := by
        have : relay m 0 = made m.k0 m.k1 g := by rw [← hg'.out]; rfl
        rw [this]; exact hIx.ext hE2
      clear c0 c1 c2 c4 c5
      go_loopw [37] (fun i wr => ∃ k : Nat, k ≤ n ∧ i = .int .i64 k ∧ Is wr fx (relay m k) ∧ Ext w wr ∧ wr.ownsRow w1.heap.size 109 2 (.slice p n cap) n (slotCells enc m.full)) (fun i _ => n - (intOf i).toNat)
      case atStart => exact ⟨0, by omega, rfl, hI0, hE02, hown⟩
      case round =>
        clear hown
        obtain ⟨k, hk, rfl, hIk, hEk, hown⟩ := hrel
        by_cases hlt : k < n
        · obtain ⟨s, hs⟩ : ∃ s, m.full[k]? = some s := ⟨m.full[k]'(by rw [hn.out]; exact hlt), by simp [hn.out, hlt]⟩
          obtain ⟨ks, vv⟩ := s
          have hsk := hKey _ (List.mem_of_getElem? hs)
          have hsa := slotCells_at enc m.full k _ hs
          obtain ⟨bb, rfl, hbb, hrow⟩ := row_at hown (by omega)
          have hs0 := hrow.cell hsa.1
          have hs1 := hrow.cell hsa.2
          unfold enc at hs1
          have hsm := hSm k (by rw [hn.out]; omega)
          have hR1 := Lib.hid (relay_succ m k _ hs)
          have hShk := hSh.kp hEk (fun f => f)
          have hlay := fun W h1 h2 => lay_w W fx (relay m k) h1 hsm h2 ks hsk vv
          unfold enc at hlay
          have hbx : ∀ W', Kp fx.fp (wr.alloc (.cells #[.string ks, Value.string vv] 109)) W' → Ext w W' ∧ W'.ownsRow w1.heap.size 109 2 (.slice (some ⟨bb, 0, none⟩) n cap) n (slotCells enc m.full) := fun W' h =>
            ⟨Kp.join (Kp.alloc hEk _) h (fun b hb e => by have := hnx b e; omega), row_kp (hown.alloc _) h (fun k e hf => by cases e; exact absurd (hIx.lt hf) (by show ¬ bb < w1.heap.size; omega))⟩
          have HBX := Lib.hid hbx
          clear hs hbx hsa
          go_wp2_with (go_at_call 70; refine (hlay _ (hIk.alloc _) (hShk.kp (Ext.alloc _ _) (fun f => f))).mono ?_; rintro e w4 ⟨⟨xv, rfl⟩, hI4, hK4⟩)
          go_roundw
          case rel =>
            obtain ⟨ha, hb⟩ := HBX.out _ hK4
            exact ⟨k + 1, by omega, by go_num, by rw [hR1.out]; exact hI4, ha, hb⟩
          case measure => simp [intOf]; omega
        · obtain rfl : k = n := by omega
          have hgl : (relay m k).ws.length = g := (relay_len m k).trans hg'.out
          have hstx := hIk.st
          unfold Ft.cells at hstx
          rw [hgl] at hstx
          have hstf := At.ext hEk hst
          have x0 : wr.cell? ⟨fx.b, 0, none⟩ = some (.int .u64 (relay m k).k0) := hstx.cell rfl
          have x1 : wr.cell? ⟨fx.b, 1, none⟩ = some (.int .u64 (relay m k).k1) := hstx.cell rfl
          have x2 : wr.cell? ⟨fx.b, 2, none⟩ = some (.slice (some ⟨fx.bw, 0, none⟩) g fx.cw) := hstx.cell rfl
          have x3 : wr.cell? ⟨fx.b, 3, none⟩ = some (.slice (some ⟨fx.bs, 0, none⟩) (8 * g) fx.cs) := hstx.cell rfl
          have x4 : wr.cell? ⟨fx.b, 4, none⟩ = some (.int .i64 (relay m k).n) := hstx.cell rfl
          have x5 : wr.cell? ⟨fx.b, 5, none⟩ = some (.int .i64 (relay m k).t) := hstx.cell rfl
          have y0 : wr.cell? ⟨f.b, 0, none⟩ = some (.int .u64 m.k0) := hstf.cell rfl
          have y1 : wr.cell? ⟨f.b, 1, none⟩ = some (.int .u64 m.k1) := hstf.cell rfl
          have y2 : wr.cell? ⟨f.b, 2, none⟩ = some (.slice (some ⟨f.bw, 0, none⟩) g f.cw) := hstf.cell rfl
          have y3 : wr.cell? ⟨f.b, 3, none⟩ = some (.slice (some ⟨f.bs, 0, none⟩) (8 * g) f.cs) := hstf.cell rfl
          have y4 : wr.cell? ⟨f.b, 4, none⟩ = some (.int .i64 m.n) := hstf.cell rfl
          have y5 : wr.cell? ⟨f.b, 5, none⟩ = some (.int .i64 m.t) := hstf.cell rfl
          have f0 := hstf.frozen 0
          have f1 := hstf.frozen 1
          have f2 := hstf.frozen 2
          have f3 := hstf.frozen 3
          have f4 := hstf.frozen 4
          have f5 := hstf.frozen 5
          go_wp2
          have hre : rehash m = relay m k := by unfold rehash; rw [hn.out]
          have KD := ((((((Kp.refl (fun b => b = f.b) wr).setCell (a := ⟨f.b, 0, none⟩) (.inl rfl) (.int .u64 (relay m k).k0)).setCell (a := ⟨f.b, 1, none⟩) (.inl rfl) (.int .u64 (relay m k).k1)).setCell (a := ⟨f.b, 2, none⟩) (.inl rfl) (.slice (some ⟨fx.bw, 0, none⟩) g fx.cw)).setCell (a := ⟨f.b, 3, none⟩) (.inl rfl) (.slice (some ⟨fx.bs, 0, none⟩) (8 * g) fx.cs)).setCell (a := ⟨f.b, 4, none⟩) (.inl rfl) (.int .i64 (relay m k).n)).setCell (a := ⟨f.b, 5, none⟩) (.inl rfl) (.int .i64 (relay m k).t)
          have hst6 := ((((((hstf).set 0 (.int .u64 (relay m k).k0)).set 1 (.int .u64 (relay m k).k1)).set 2 (.slice (some ⟨fx.bw, 0, none⟩) g fx.cw)).set 3 (.slice (some ⟨fx.bs, 0, none⟩) (8 * g) fx.cs)).set 4 (.int .i64 (relay m k).n)).set 5 (.int .i64 (relay m k).t)
          have hlb := hI.st.lt
          have hnw := hnx fx.bw (.inr (.inl rfl))
          have hns := hnx fx.bs (.inr (.inr rfl))
          go_end0
          refine ⟨⟨_, rfl⟩, ⟨f.b, fx.bw, fx.cw, fx.bs, fx.cs⟩, rfl, ?_, (Ext.kp hEk).trans KD, hnw, hns⟩
          rw [hre]
          refine ⟨?_, hIk.wd.kp KD (show ¬ fx.bw = f.b by omega), hIk.sl.kp KD (show ¬ fx.bs = f.b by omega), ⟨hI.nz.1, hIx.nz.2.1, hIx.nz.2.2⟩, ⟨show f.b ≠ fx.bw by omega, show f.b ≠ fx.bs by omega, hIx.ne.2.2⟩⟩
          unfold Ft.cells
          rw [hgl]
          exact hst6
end Go.Proofs.YtiopkkjcgdcgmaaDoor.s
