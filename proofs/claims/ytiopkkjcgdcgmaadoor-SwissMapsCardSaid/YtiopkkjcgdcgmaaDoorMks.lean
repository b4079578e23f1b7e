/- The map: Keys, Controls. -/
import Derived.Test.YtiopkkjcgdcgmaaDoorMds
import Derived.Test.YtiopkkjcgdcgmaaDoorCl
namespace Go.Proofs.YtiopkkjcgdcgmaaDoor.s
open Go.RowKit Go.Rg Go.Nm Go.Gp Go.Mp
set_option maxHeartbeats 1000000
set_option maxRecDepth 20000
theorem Keys_w (w : World) (f : Ft) (m : M ByteArray) (hI : Is w f m) (hM : Small m) : Calls Tryd.prog 30 #[.pointer (some ⟨f.b, 0, none⟩)] w fun e w' =>
    ∃ v, e = .returned v ∧ w'.ownsRow w.heap.size 9 1 v (keys m).length ((keys m).map strV) ∧ Ext w w' := by
  have hle := hM.pw.le
  have hfl := m.fullTo_len m.ws.length
  change m.full.length ≤ 8 * m.ws.length at hfl
  have hmd := fun w' (h : Is w' f m) => md_w w' f m h hM.pw
  have hfull := full_w w f m hI hM
  have hkl : (keys m).length = m.full.length := by simp [keys]
  rw [hkl]
  obtain ⟨n, hn⟩ : ∃ n, Hid (m.full.length = n) := ⟨_, Lib.hid rfl⟩
  have hfull' : Calls Tryd.prog 78 #[.pointer (some ⟨f.b, 0, none⟩)] w fun e w' => ∃ p cap, e = .returned (.slice p n cap) ∧ w'.ownsRow w.heap.size 109 2 (.slice p n cap) n (slotCells enc m.full) ∧ Ext w w' :=
    hfull.mono fun e w' ⟨sv, he, ho, hE⟩ => by
      obtain ⟨p, cap, rfl⟩ := row_shape ho
      rw [hn.out] at he ho
      exact ⟨p, cap, he, ho, hE⟩
  rw [hn.out] at hfl ⊢
  clear hfull hkl
  go_enter Tryd.func30, Tryd.ntmps30
  go_wp2_with (first
    | (go_at_call 65; refine (hmd _ hI).mono ?_; rintro e w1 ⟨rfl, rfl⟩)
    | (go_at_call 78; refine hfull'.mono ?_; rintro e w2 ⟨p, cap, rfl, hown, hE2⟩))
  have hs2 := hE2.size
  go_loopw [3, 11] (fun v i wr => ∃ k : Nat, k ≤ n ∧ i = .int .i64 k ∧ wr.ownsRow w2.heap.size 9 1 v k ((m.full.take k).map fun s => strV s.1) ∧ wr.ownsRow w.heap.size 109 2 (.slice p n cap) n (slotCells enc m.full) ∧ Ext w wr ∧ Ext w2 wr) (fun _ i _ => n - (intOf i).toNat)
  case atStart => exact ⟨0, by omega, rfl, World.ownsRow_nil _ _ _ _, hown, hE2, Ext.refl _⟩
  case round =>
    have hown2 := hown
    clear hown
    obtain ⟨k, hk, rfl, hv, hown, hE, hE3⟩ := hrel
    by_cases hlt : k < n
    · obtain ⟨s, hs⟩ : ∃ s, m.full[k]? = some s := ⟨m.full[k]'(by rw [hn.out]; exact hlt), by simp [hn.out, hlt]⟩
      obtain ⟨ks, vv⟩ := s
      have hsa := slotCells_at enc m.full k _ hs
      obtain ⟨bb, rfl, hbb, hrow⟩ := row_at hown (by omega)
      have hbl : bb < w2.heap.size := (hown2.lt bb rfl).2
      have hs0 := hrow.cell hsa.1
      have hs1 := hrow.cell hsa.2
      unfold enc at hs1
      have hsz := hE.size
      have hsz3 := hE3.size
      have HS := Lib.hid hs
      clear hs hsa
      have hnew : ((wr.alloc (.cells #[.string ks, Value.string vv] 109)).alloc (.cells #[.string ks] 9)).cell? ⟨wr.heap.size + 1, 0, none⟩ = some (.string ks) := by
        have := (At.new (wr.alloc (.cells #[.string ks, Value.string vv] 109)) #[.string ks] 9).cell (i := 0) (v := .string ks) rfl
        rwa [World.size_alloc] at this
      go_wp2_with (at_builtin; refine appL (z := .string ByteArray.empty) (sz := 1) (bytes := 16) rfl _ _ 30 rfl w2.heap.size 9 info9 Tryd.underlying30 (by rfl) (by decide) (by decide) _ k _ rfl ((hv.alloc _).alloc _) (wr.heap.size + 1) 1 [.string ks] rfl rfl (news1 hnew) (one1 rfl) (by omega) (by simp; omega) ?_; intro g' cap' w4 hown' hk2)
      have hE4 : Ext w w4 := Kp.own (Kp.alloc (Kp.alloc hE _) _) ((hv.alloc _).alloc _) hk2 (by omega)
      have hE5 : Ext w2 w4 := Kp.own (Kp.alloc (Kp.alloc hE3 _) _) ((hv.alloc _).alloc _) hk2 (by omega)
      have hrow4 := row_kp ((hown.alloc _).alloc _) hk2 (fun k e hf => by cases e; exact absurd (hv.lt bb hf).1 (by omega))
      go_roundw
      case rel =>
        refine ⟨k + 1, by omega, by go_num, ?_, hrow4, hE4, hE5⟩
        rw [List.take_add_one, HS.out, List.map_append]; exact hown'
      case measure => simp [intOf]; omega
    · obtain rfl : k = n := by omega
      go_wp2
      go_ret
      refine ⟨_, rfl, ?_, hE⟩
      have := row_base hv hs2
      rw [List.take_of_length_le (by rw [hn.out]; omega)] at this
      simpa [keys, Function.comp_def] using this

theorem Ctl_w (w : World) (f : Ft) (m : M ByteArray) (hI : Is w f m) (hM : Small m) : Calls Tryd.prog 31 #[.pointer (some ⟨f.b, 0, none⟩)] w fun e w' =>
    ∃ v, e = .returned v ∧ w'.ownsRow w.heap.size 22 1 v m.ws.length (m.ws.map u64V) ∧ Ext w w' := by
  have h1 := hM.pw.pos
  have hle := hM.pw.le
  have hmd := fun w' (h : Is w' f m) => md_w w' f m h hM.pw
  have hst := hI.st
  unfold Ft.cells at hst
  have c2 : w.cell? ⟨f.b, 2, none⟩ = some (.slice (some ⟨f.bw, 0, none⟩) m.ws.length f.cw) := hst.cell rfl
  have hcl := fun cw => cloneW_w f.bw m.ws.length cw (m.ws.map u64V) (by simp) (by omega) (by omega) (fun v hv => by obtain ⟨x, _, rfl⟩ := List.mem_map.1 hv; rfl) w hI.wd
  clear hst
  go_enter Tryd.func31, Tryd.ntmps31
  go_wp2_with (first
    | (go_at_call 65; refine (hmd _ hI).mono ?_; rintro e w1 ⟨rfl, rfl⟩)
    | (go_at_call 79; refine (hcl _).mono ?_; rintro e w2 ⟨b, cap, rfl, hown, hE2⟩))
  go_ret
  exact ⟨_, rfl, hown, hE2⟩
end Go.Proofs.YtiopkkjcgdcgmaaDoor.s
