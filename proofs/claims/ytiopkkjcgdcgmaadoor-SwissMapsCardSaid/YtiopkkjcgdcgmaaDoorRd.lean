/- Sets and probes: of the program, of the document. -/
import Derived.Test.YtiopkkjcgdcgmaaDoorRc
namespace Go.Proofs.YtiopkkjcgdcgmaaDoor
open Go.RowKit Go.Rg Go.Nm Go.Gp
set_option maxHeartbeats 1000000
set_option maxRecDepth 20000

theorem bit_and (s k : Nat) (hs : s < 256) : bits .and .u8 ((s : Int) / 2 ^ k) 1 = ((s / 2 ^ k % 2 : Nat) : Int) := by
  have h1 : s / 2 ^ k < 256 := Nat.lt_of_le_of_lt (Nat.div_le_self _ _) hs
  have := u8_and_nat (s / 2 ^ k) 1 h1 (by decide)
  rw [nat_mask1] at this
  rw [← this]; simp
theorem tz8_first : ∀ s : Fin 256, ∀ k : Fin 8, (∀ j : Fin 8, j.val < k.val → s.val / 2 ^ j.val % 2 = 0) → s.val / 2 ^ k.val % 2 = 1 → tz8 s.val = k.val := by decide +kernel
theorem tz8_none : ∀ s : Fin 256, (∀ j : Fin 8, s.val / 2 ^ j.val % 2 = 0) → tz8 s.val = 8 := by decide +kernel

theorem rfirst_w (s : Nat) (hs : s < 256) (w : World) : Calls Tryd.prog 109 #[.int .u8 s] w fun e w' => e = .returned (.int .i64 (tz8 s : Nat)) ∧ w = w' := by
  go_enter Tryd.func109, Tryd.ntmps109
  go_wp2
  go_loop [3] (fun i => ∃ k : Nat, k ≤ 8 ∧ i = .int .i64 k ∧ Hid (∀ j, j < k → s / 2 ^ j % 2 = 0)) (fun i => 8 - (intOf i).toNat)
  case atStart => exact ⟨0, by omega, rfl, fun j hj => by omega⟩
  case round =>
    obtain ⟨k, hk, rfl, H⟩ := hrel
    by_cases h8 : k < 8
    · have hb := bit_and s k hs
      by_cases h1 : s / 2 ^ k % 2 = 1
      · rw [h1] at hb
        have hf : Hid (tz8 s = k) := Lib.hid (tz8_first ⟨s, hs⟩ ⟨k, h8⟩ (fun j hj => H.out _ hj) h1)
        clear h1
        go_wp2
        go_ret
        exact ⟨by rw [hf.out]; rfl, rfl⟩
      · have h0 : s / 2 ^ k % 2 = 0 := by omega
        rw [h0] at hb
        have H' : Hid (∀ j, j < k + 1 → s / 2 ^ j % 2 = 0) := fun j hj => by
          by_cases e : j = k
          · subst e; exact h0
          · exact H.out j (by omega)
        clear h1 h0
        go_wp2
        refine ⟨⟨k + 1, by omega, by go_num, H'⟩, by simp [intOf]; omega⟩
    · obtain rfl : k = 8 := by omega
      have hf : Hid (tz8 s = 8) := Lib.hid (tz8_none ⟨s, hs⟩ (fun j => H.out _ j.isLt))
      go_wp2
      go_ret
      exact ⟨by rw [hf.out]; rfl, rfl⟩

def cnt8 (s : Nat) : Nat → Nat
  | 0 => 0
  | k + 1 => cnt8 s k + s / 2 ^ k % 2
theorem cnt8_le (s : Nat) : ∀ k, cnt8 s k ≤ k
  | 0 => Nat.le_refl _
  | k + 1 => by have := cnt8_le s k; simp only [cnt8]; omega
theorem cnt8_bits : ∀ s : Fin 256, cnt8 s.val 8 = (bitsOf s.val).length := by decide +kernel
theorem rcount_w (s : Nat) (hs : s < 256) (w : World) : Calls Tryd.prog 32 #[.int .u8 s] w fun e w' => e = .returned (.int .i64 ((bitsOf s).length : Nat)) ∧ w = w' := by
  have HC : Hid (cnt8 s 8 = (bitsOf s).length) := Lib.hid (cnt8_bits ⟨s, hs⟩)
  go_enter Tryd.func32, Tryd.ntmps32
  go_wp2
  go_loop [3, 4] (fun n i => ∃ k : Nat, k ≤ 8 ∧ i = .int .i64 k ∧ n = .int .i64 (cnt8 s k : Nat)) (fun _ i => 8 - (intOf i).toNat)
  case atStart => exact ⟨0, by omega, rfl, rfl⟩
  case round =>
    obtain ⟨k, hk, rfl, rfl⟩ := hrel
    by_cases h8 : k < 8
    · have hb := bit_and s k hs
      have hc := cnt8_le s k
      have hl : s / 2 ^ k % 2 ≤ 1 := by omega
      go_wp2
      refine ⟨⟨k + 1, by omega, by go_num, ?_⟩, by simp [intOf]; omega⟩
      simp [cnt8]
    · obtain rfl : k = 8 := by omega
      go_wp2
      go_ret
      exact ⟨by rw [HC.out]; rfl, rfl⟩

/-- How many groups so many keys need: f more may be tried. -/
def needF (n : Int) : Nat → Nat → Nat
  | 0, _ => 0
  | f + 1, g => if n ≤ 7 * g then g else needF n f (2 * g)
def need (n : Int) : Nat := needF n 11 1
theorem need_w (n : Int) (w : World) : Calls Tryd.prog 62 #[.int .i64 n] w fun e w' => e = .returned (.int .i64 (need n : Nat)) ∧ w = w' := by
  go_enter Tryd.func62, Tryd.ntmps62
  go_wp2
  go_loop [3] (fun i => ∃ k : Nat, k ≤ 10 ∧ i = .int .i64 (2 ^ k : Nat) ∧ Hid (need n = needF n (11 - k) (2 ^ k))) (fun i => 1024 - (intOf i).toNat)
  case atStart => exact ⟨0, by omega, rfl, rfl⟩
  case round =>
    obtain ⟨k, hk, rfl, H⟩ := hrel
    have hp : 2 ^ k ≤ 1024 := Nat.pow_le_pow_right (n := 2) (j := 10) (by decide) hk
    have hp1 : 1 ≤ 2 ^ k := Nat.one_le_two_pow
    have HE := Lib.hid (show needF n (11 - k) (2 ^ k) = if n ≤ 7 * ((2 ^ k : Nat) : Int) then 2 ^ k else needF n (10 - k) (2 * 2 ^ k) by
      rw [show 11 - k = (10 - k) + 1 by omega]; rfl)
    have HN := Lib.hid (show (2 : Nat) ^ (k + 1) = 2 * 2 ^ k by rw [Nat.pow_succ]; omega)
    have HK : Hid (2 ^ k = 1024 → k = 10) := Lib.hid (fun e => by
      have : ∀ k : Fin 11, 2 ^ k.val = 1024 → k.val = 10 := by decide
      exact this ⟨k, by omega⟩ e)
    obtain ⟨g, hg⟩ : ∃ g, Hid (2 ^ k = g) := ⟨_, Lib.hid rfl⟩
    rw [hg.out] at hp hp1 ⊢
    rw [hg.out] at H HE HN HK
    by_cases hlt : (7 * (g : Int)) < n
    · have hgd : ∃ h : Nat, 2 ^ h = g ∧ h ≤ 10 := ⟨k, hg.out, hk⟩
      by_cases hb : 1024 < 2 * (g : Int)
      · have hz : Hid (need n = 0) := Lib.hid (by
          have hg' : g = 1024 := by
            obtain ⟨h, h1, h2⟩ := hgd
            have : ∀ k : Fin 11, 1024 < 2 * 2 ^ k.val → 2 ^ k.val = 1024 := by decide
            rw [← h1]; exact this ⟨h, by omega⟩ (by rw [← h1] at hb; simpa using (by exact_mod_cast hb : 1024 < 2 * 2 ^ h))
          have hk' := HK.out hg'
          rw [H.out, HE.out, if_neg (by omega), hk']; rfl)
        go_wp2
        go_ret
        exact ⟨by rw [hz.out]; rfl, rfl⟩
      · go_wp2
        refine ⟨⟨k + 1, ?_, ?_, ?_⟩, ?_⟩
        · obtain ⟨h, h1, h2⟩ := hgd
          have hk2 : k ≠ 10 := fun e => by
            have := hg.out; rw [e] at this; omega
          omega
        · rw [HN.out]; go_num
        · exact Lib.hid (by rw [H.out, HE.out, if_neg (by omega), HN.out]; congr 1; omega)
        · simp [intOf]; omega
    · have hz : Hid (need n = g) := Lib.hid (by rw [H.out, HE.out, if_pos (by omega)])
      go_wp2
      go_ret
      exact ⟨by rw [hz.out]; rfl, rfl⟩
end Go.Proofs.YtiopkkjcgdcgmaaDoor
