/- The document's order of groups. -/
import Derived.Test.YtiopkkjcgdcgmaaDoorSe
import Derived.Test.YtiopkkjcgdcgmaaDoorBt
namespace Go.Proofs.YtiopkkjcgdcgmaaDoor
open Go.RowKit Go.Rg Go.Nm Go.Gp
set_option maxHeartbeats 1000000
set_option maxRecDepth 20000

theorem needR_w (n : Int) (w : World) : Calls Tryd.prog 71 #[.int .i64 n] w fun e w' => e = .returned (.int .i64 (need n : Nat)) ∧ w = w' := by
  go_enter Tryd.func71, Tryd.ntmps71
  go_wp2
  go_loop [3] (fun i => ∃ k : Nat, k ≤ 11 ∧ i = .int .i64 (2 ^ k : Nat) ∧ Hid (need n = needF n (11 - k) (2 ^ k))) (fun i => 2048 - (intOf i).toNat)
  case atStart => exact ⟨0, by omega, rfl, rfl⟩
  case round =>
    obtain ⟨k, hk, rfl, H⟩ := hrel
    by_cases h11 : k = 11
    · subst h11
      have hz : Hid (need n = 0) := Lib.hid (by rw [H.out]; rfl)
      go_wp2
      go_ret
      exact ⟨by rw [hz.out]; rfl, rfl⟩
    · have hp : 2 ^ k ≤ 1024 := Nat.pow_le_pow_right (n := 2) (j := 10) (by decide) (by omega)
      have hp1 : 1 ≤ 2 ^ k := Nat.one_le_two_pow
      have HE := Lib.hid (show needF n (11 - k) (2 ^ k) = if n ≤ 7 * ((2 ^ k : Nat) : Int) then 2 ^ k else needF n (10 - k) (2 * 2 ^ k) by
        rw [show 11 - k = (10 - k) + 1 by omega]; rfl)
      have HN := Lib.hid (show (2 : Nat) ^ (k + 1) = 2 * 2 ^ k by rw [Nat.pow_succ]; omega)
      obtain ⟨g, hg⟩ : ∃ g, Hid (2 ^ k = g) := ⟨_, Lib.hid rfl⟩
      rw [hg.out] at hp hp1 ⊢
      rw [hg.out] at H HE HN
      by_cases hlt : n ≤ (7 * (g : Int))
      · have hz : Hid (need n = g) := Lib.hid (by rw [H.out, HE.out, if_pos hlt])
        go_wp2
        go_ret
        exact ⟨by rw [hz.out]; rfl, rfl⟩
      · go_wp2
        refine ⟨⟨k + 1, by omega, by rw [HN.out]; go_num, Lib.hid (by rw [H.out, HE.out, if_neg hlt, HN.out]; congr 1; omega)⟩, by simp [intOf]; omega⟩

theorem need_pw {n : Int} (h : need n ≠ 0) : Pw (need n) := by
  have key : ∀ (f k : Nat), f + k = 11 → needF n f (2 ^ k) ≠ 0 → Pw (needF n f (2 ^ k)) := by
    intro f
    induction f with
    | zero => intro k _ h; exact absurd rfl h
    | succ f ih =>
      intro k hk h
      simp only [needF] at h ⊢
      by_cases hc : n ≤ 7 * ((2 ^ k : Nat) : Int)
      · rw [if_pos hc]; exact ⟨k, by omega, rfl⟩
      · rw [if_neg hc] at h ⊢
        have e : 2 * 2 ^ k = 2 ^ (k + 1) := by rw [Nat.pow_succ]; omega
        rw [e] at h ⊢
        exact ih (k + 1) (by omega) h
  exact key 11 0 rfl h

theorem goodR_w {g : Nat} (h : Pw g) (w : World) : Calls Tryd.prog 122 #[.int .i64 g] w fun e w' => e = .returned (.bool true) ∧ w = w' := by
  have hle := h.le
  obtain ⟨j, hj, hgj⟩ := h
  have HJ := Lib.hid hgj
  clear hgj
  go_enter Tryd.func122, Tryd.ntmps122
  go_wp2
  go_loop [3] (fun i => ∃ k : Nat, k ≤ j ∧ i = .int .i64 (2 ^ k : Nat)) (fun i => g - (intOf i).toNat)
  case atStart => exact ⟨0, by omega, rfl⟩
  case round =>
    obtain ⟨k, hk, rfl⟩ := hrel
    have hp : 2 ^ k ≤ g := by rw [HJ.out]; exact Nat.pow_le_pow_right (by decide) hk
    have hp1 : 1 ≤ 2 ^ k := Nat.one_le_two_pow
    by_cases e : k = j
    · subst e
      rw [← HJ.out] at hp1 ⊢
      go_wp2
      go_ret
      exact ⟨rfl, rfl⟩
    · have hp2 : 2 ^ k ≠ g := fun e' => e (by
        have hlt : 2 ^ k < 2 ^ j := Nat.pow_lt_pow_right (by decide) (by omega)
        rw [← HJ.out] at hlt; omega)
      have HN := Lib.hid (show (2 : Nat) ^ (k + 1) = 2 * 2 ^ k by rw [Nat.pow_succ]; omega)
      have hp3 : 2 * 2 ^ k ≤ g := by rw [← HN.out, HJ.out]; exact Nat.pow_le_pow_right (by decide) (by omega)
      obtain ⟨p, hg⟩ : ∃ p, Hid (2 ^ k = p) := ⟨_, Lib.hid rfl⟩
      rw [hg.out] at hp hp1 hp2 hp3 ⊢
      rw [hg.out] at HN
      have hb : ((p : Int) == (g : Int)) = false := by simp; omega
      go_wp2
      refine ⟨⟨k + 1, by omega, by rw [HN.out]; go_num⟩, by simp [intOf]; omega⟩

theorem at_w {g : Nat} (hP : Pw g) (h i : Nat) (hi : i < g) (w : World) : Calls Tryd.prog 123 #[.int .u64 h, .int .i64 i, .int .i64 g] w fun e w' => e = .returned (.int .i64 (acc h g (i + 1) : Nat)) ∧ w = w' := by
  have h1 := hP.pos; have h2 := hP.le
  have hm : (h : Int) % (g : Int) = ((h % g : Nat) : Int) := by simp
  have hl : h % g < g := Nat.mod_lt _ h1
  have hq : i * (i + 1) ≤ 1048576 := by
    have : i * (i + 1) ≤ 1024 * 1024 := Nat.mul_le_mul (by omega) (by omega)
    omega
  have hmul : (i : Int) * ((i : Int) + 1) = ((i * (i + 1) : Nat) : Int) := by simp
  have hacc := Lib.hid (acc_eq (h := h) (g := g) i)
  generalize h % g = r at *
  generalize hqq : i * (i + 1) = q at *
  have hm2 : ((r : Int) + (q : Int) / 2) % (g : Int) = (((r + q / 2) % g : Nat) : Int) := by simp
  have hl2 : (r + q / 2) % g < g := Nat.mod_lt _ h1
  generalize (r + q / 2) % g = p at *
  clear hqq
  go_enter Tryd.func123, Tryd.ntmps123
  go_wp2_with (go_at_call 122; refine (goodR_w hP _).mono ?_; rintro e w1 ⟨rfl, rfl⟩)
  go_ret
  exact ⟨by rw [hacc.out]; rfl, rfl⟩
end Go.Proofs.YtiopkkjcgdcgmaaDoor
