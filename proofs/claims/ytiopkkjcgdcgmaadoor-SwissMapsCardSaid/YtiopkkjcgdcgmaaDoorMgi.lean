/- The map: Get. -/
import Derived.Test.YtiopkkjcgdcgmaaDoorMfi
namespace Go.Proofs.YtiopkkjcgdcgmaaDoor.i
open Go.RowKit Go.Rg Go.Nm Go.Gp Go.Mp
set_option maxHeartbeats 1000000
set_option maxRecDepth 20000
theorem Get_w (w : World) (f : Ft) (m : M Int) (hI : Is w f m) (hM : Small m) (key : ByteArray) (hk : key.size ≤ maxLen) :
    Calls Tryd.prog 55 #[.pointer (some ⟨f.b, 0, none⟩), .string key] w fun e w' => e = .returned (.tuple #[enc (get m key).1, .bool (get m key).2]) ∧ Ext w w' := by
  have hF := find_w w f m hI hM key hk
  change Calls _ _ _ _ (fun e w' => e = .returned (.int .i64 (fnd m key)) ∧ Ext w w') at hF
  have hle := hM.pw.le
  rcases fnd_cases m key with hq | ⟨q, hq, hql⟩
  · have hg : Hid (get m key = (default, false)) := Lib.hid (by unfold get; rw [hq]; rfl)
    rw [hq] at hF
    go_enter Tryd.func55, Tryd.ntmps55
    go_wp2_with (first
      | (go_at_call 90; refine (md_w _ f m hI hM.pw).mono ?_; rintro e w1 ⟨rfl, rfl⟩)
      | (go_at_call 91; refine hF.mono ?_; rintro e w1 ⟨rfl, hE⟩))
    go_ret2
    exact ⟨by rw [hg.out]; rfl, hE⟩
  · have hg : Hid (get m key = ((m.s q).2, true)) := Lib.hid (by unfold get; rw [hq, if_neg (by omega)]; rfl)
    rw [hq] at hF
    obtain ⟨g, hgg⟩ : ∃ g, Hid (m.ws.length = g) := ⟨_, Lib.hid rfl⟩
    have hsc := hI.sl.cell (slotCells_at enc m.sl q _ (hM.sAt (by rw [hgg.out] at hql; exact hql) hgg)).2
    have hst := hI.st
    unfold Ft.cells at hst
    rw [hgg.out] at hst hql hle
    have c3 : w.cell? ⟨f.b, 3, none⟩ = some (.slice (some ⟨f.bs, 0, none⟩) (8 * g) f.cs) := hst.cell rfl
    obtain ⟨v, hv⟩ : ∃ v, Hid ((m.s q).2 = v) := ⟨_, Lib.hid rfl⟩
    rw [hv.out] at hsc hg
    unfold enc at hsc
    clear hst
    go_enter Tryd.func55, Tryd.ntmps55
    go_wp2_with (first
      | (go_at_call 90; refine (md_w _ f m hI hM.pw).mono ?_; rintro e w1 ⟨rfl, rfl⟩)
      | (go_at_call 91; refine hF.mono ?_; rintro e w1 ⟨rfl, hE⟩; have c3' := hE.cell c3; have hsc' := hE.cell hsc))
    go_ret2
    exact ⟨by rw [hg.out]; rfl, hE⟩
end Go.Proofs.YtiopkkjcgdcgmaaDoor.i
