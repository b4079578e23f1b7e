/- Are there few acts? -/
import Derived.Test.YtiopkkjcgdcgmaaDoorAx
namespace Go.Proofs.YtiopkkjcgdcgmaaDoor
open Go.RowKit Go.Rg Go.Nm Go.Gp
set_option maxHeartbeats 1000000
set_option maxRecDepth 20000
def Few5 (l : List Act) : Prop := l.length ≤ 600 ∧ ∀ a ∈ l, a.key.size + a.val.size ≤ 30000
theorem few5_w (l : List Act) (v : Value) (w : World) (hv : Ac w v l) (hll : l.length ≤ maxLen) :
    Calls Tryd.prog 14 #[v] w fun e w' => ∃ b, e = .returned (.bool b) ∧ Ext w w' ∧ Hid (b = true → Few5 l) := by
  obtain ⟨p, ca, rfl, hca⟩ := hv
  unfold maxLen at hll
  obtain ⟨n, hn⟩ : ∃ n, Hid (l.length = n) := ⟨_, Lib.hid rfl⟩
  rw [hn.out] at hll ⊢
  go_enter Tryd.func14, Tryd.ntmps14
  go_wp2
  go_loopw [3, 8] (fun c i wr => ∃ (k : Nat) (q : Int), k ≤ n ∧ i = .int .i64 k ∧ c = .int .i64 q ∧ (k : Int) ≤ q ∧ q ≤ 600 ∧ Ext w wr ∧ Hid (∀ a ∈ l.take k, a.key.size + a.val.size ≤ 30000)) (fun _ i _ => n - (intOf i).toNat)
  case atStart => exact ⟨0, 0, by omega, rfl, rfl, by omega, by omega, Ext.refl _, Lib.hid (fun a ha => by simp at ha)⟩
  case round =>
    obtain ⟨k, q, hk, rfl, rfl, hq1, hq2, hE, HS⟩ := hrel
    by_cases hlt : k < n
    · obtain ⟨a, ha⟩ : ∃ a, l[k]? = some a := ⟨l[k]'(by rw [hn.out]; exact hlt), by simp [hn.out, hlt]⟩
      obtain ⟨h1, h2, b, o, rfl, c0, c1, c2⟩ := hca k a ha
      have d0 := hE.cell c0
      have d1 := hE.cell c1
      have d2 := hE.cell c2
      have HA := Lib.hid ha
      obtain ⟨s1, hs1⟩ : ∃ s, Hid (a.key.size = s) := ⟨_, Lib.hid rfl⟩
      obtain ⟨s2, hs2⟩ : ∃ s, Hid (a.val.size = s) := ⟨_, Lib.hid rfl⟩
      rw [hs1.out] at h1
      rw [hs2.out] at h2
      obtain ⟨⟨kd, ky, vl⟩, hae⟩ : ∃ x : Act, a = x := ⟨_, rfl⟩
      subst hae
      simp only at hs1 hs2 d0 d1 d2
      have hs1' := hs1.out
      have hs2' := hs2.out
      subst hs1' hs2'
      clear ha c0 c1 c2 hs1 hs2
      go_wp2
      · go_ret
        exact ⟨false, rfl, Kp.alloc hE _, Lib.hid (fun h => by cases h)⟩
      · refine ⟨⟨k + 1, _, by omega, by go_num, rfl, ?_, ?_, Kp.alloc hE _, Lib.hid (fun x hx => ?_)⟩, by simp [intOf]; omega⟩
        · omega
        · omega
        · rw [List.take_add_one, HA.out, List.mem_append] at hx
          rcases hx with hx | hx
          · exact HS.out x hx
          · simp at hx; subst hx; show ky.size + vl.size ≤ 30000; omega
    · obtain rfl : k = n := by omega
      go_wp2
      go_ret
      refine ⟨true, rfl, hE, Lib.hid (fun _ => ⟨by rw [hn.out]; omega, ?_⟩)⟩
      have := HS.out
      rwa [List.take_of_length_le (by rw [hn.out]; omega)] at this
end Go.Proofs.YtiopkkjcgdcgmaaDoor
