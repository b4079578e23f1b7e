/- Groups and probes of the document. -/
import Derived.Test.YtiopkkjcgdcgmaaDoorGw
namespace Go.Proofs.YtiopkkjcgdcgmaaDoor
open Go.RowKit Go.Rg Go.Nm Go.Gp
set_option maxHeartbeats 1000000

theorem byte_cast (x j : Nat) : ((x : Int) / 2 ^ (8 * j)) % 256 = ((byteAt x j : Nat) : Int) := by
  unfold byteAt
  rw [show (256 : Nat) = 2 ^ 8 from rfl, ← Nat.pow_mul]
  simp
theorem rget_w (x i : Nat) (hi : i < 4611686018427387904) (w : World) : Calls Tryd.prog 80 #[.int .u64 x, .int .i64 i] w fun e w' => e = .returned (.int .u8 (byteAt x (i % 8) : Nat)) ∧ w = w' := by
  have hm : ((i : Int) % 8) = ((i % 8 : Nat) : Int) := by simp
  have hj : i % 8 < 8 := Nat.mod_lt _ (by decide)
  have hb := byte_cast x (i % 8)
  generalize i % 8 = j at *
  go_enter Tryd.func80, Tryd.ntmps80
  go_wp2
  go_ret
  exact ⟨retInt hb, rfl⟩
theorem rset_w (x i c : Nat) (hx : x < U) (hi : i < 4611686018427387904) (hcc : c < 256) (w : World) : Calls Tryd.prog 77 #[.int .u64 x, .int .i64 i, .int .u8 c] w fun e w' => e = .returned (.int .u64 (setN x (i % 8) c : Nat)) ∧ w = w' := by
  have hm : ((i : Int) % 8) = ((i % 8 : Nat) : Int) := by simp
  have hj : i % 8 < 8 := Nat.mod_lt _ (by decide)
  generalize i % 8 = j at *
  go_enter Tryd.func77, Tryd.ntmps77
  go_wp2
  go_ret
  refine ⟨retInt ?_, rfl⟩
  unfold setN
  have e1 : IntKind.u64.wrap (255 * 2 ^ (8 * j)) = ((255 * 2 ^ (8 * j) % U : Nat) : Int) := by
    rw [← wrapU]; simp
  have e2 : IntKind.u64.wrap ((c : Int) * 2 ^ (8 * j)) = ((c * 2 ^ (8 * j) % U : Nat) : Int) := by
    rw [← wrapU]; simp
  have l1 : 255 * 2 ^ (8 * j) % U < U := Nat.mod_lt _ (by decide)
  have l2 : c * 2 ^ (8 * j) % U < U := Nat.mod_lt _ (by decide)
  rw [e1, e2, u64_andNot_nat x _ hx l1]
  exact orU (and_lt hx) l2

/-- A set built slot by slot. -/
def mk (p : Nat → Bool) : Nat → Nat
  | 0 => 0
  | k + 1 => mk p k + (p k).toNat * 2 ^ k
theorem mk_lt (p : Nat → Bool) : ∀ k, mk p k < 2 ^ k
  | 0 => by simp [mk]
  | k + 1 => by
    have := mk_lt p k
    simp only [mk, Nat.pow_succ]
    cases p k <;> simp <;> omega
theorem mk_mask (p : Nat → Bool) : mk p 8 = mask p := by
  simp only [mk, mask]
  omega
theorem mk_no {p : Nat → Bool} {k : Nat} (h : p k = false) : mk p (k + 1) = mk p k := by simp [mk, h]
theorem mk_yes {p : Nat → Bool} {k : Nat} (h : p k = true) (hk : k < 8) : bits .or .u8 ((mk p k : Nat) : Int) ((2 ^ k : Int) % 256) = ((mk p (k + 1) : Nat) : Int) := by
  have h1 := mk_lt p k
  have h2 : 2 ^ k < 2 ^ 8 := Nat.pow_lt_pow_right (by decide) hk
  simp only [show (2 : Nat) ^ 8 = 256 from rfl] at h2
  have e : ((2 ^ k : Int) % 256) = ((2 ^ k : Nat) : Int) := by
    have : ((2 : Int) ^ k) = ((2 ^ k : Nat) : Int) := by simp
    rw [this]; omega
  rw [e, u8_or_nat _ _ (by omega) h2, Nat.or_comm, nat_join k (2 ^ k) _ (by simp) h1]
  simp only [mk, h, Bool.toNat_true, Nat.one_mul]
  congr 1; omega

theorem rmatch_w (x h : Nat) (w : World) : Calls Tryd.prog 35 #[.int .u64 x, .int .u8 h] w fun e w' => e = .returned (.int .u8 (mask (fun i => byteAt x i == h) : Nat)) ∧ w = w' := by
  obtain ⟨p, hp⟩ : ∃ p : Nat → Bool, Hid ((fun i => byteAt x i == h) = p) := ⟨_, rfl⟩
  have hpk : ∀ k, p k = (byteAt x k == h) := fun k => by rw [← hp.out]
  have HP := Lib.hid hpk
  have H8 := Lib.hid (mk_mask p)
  clear hpk
  go_enter Tryd.func35, Tryd.ntmps35
  go_wp2
  go_loop [5, 6] (fun u i => ∃ k : Nat, k ≤ 8 ∧ i = .int .i64 k ∧ u = .int .u8 (mk p k : Nat)) (fun _ i => 8 - (intOf i).toNat)
  case atStart => exact ⟨0, by omega, rfl, rfl⟩
  case round =>
    obtain ⟨k, hk, rfl, rfl⟩ := hrel
    by_cases h8 : k < 8
    · have hm : k % 8 = k := Nat.mod_eq_of_lt h8
      have hg := rget_w x k (by omega) w
      rw [hm] at hg
      clear hm
      have HG := Lib.hid hg
      clear hg
      by_cases hpk : p k = true
      · have hb : ((byteAt x k : Nat) == h) = true := by rw [← HP.out]; exact hpk
        have hb' : (((byteAt x k : Nat) : Int) == (h : Int)) = true := by have := eq_of_beq hb; simp; omega
        have hy := mk_yes hpk h8
        clear hb hpk
        go_wp2_with fail
        refine HG.out.mono ?_
        rintro e w1 ⟨rfl, rfl⟩
        go_wp2
        refine ⟨⟨k + 1, by omega, by go_num, rfl⟩, by simp [intOf]; omega⟩
      · have hb : ((byteAt x k : Nat) == h) = false := by rw [← HP.out]; simpa using hpk
        have hb' : (((byteAt x k : Nat) : Int) == (h : Int)) = false := by have := ne_of_beq_false hb; simp; omega
        have hy := Lib.hid (mk_no (by simpa using hpk : p k = false))
        clear hb hpk
        go_wp2_with fail
        refine HG.out.mono ?_
        rintro e w1 ⟨rfl, rfl⟩
        go_wp2
        refine ⟨⟨k + 1, by omega, by go_num, by rw [hy.out]⟩, by simp [intOf]; omega⟩
    · obtain rfl : k = 8 := by omega
      go_wp2
      go_ret
      exact ⟨by rw [hp.out, ← H8.out]; rfl, rfl⟩
set_option maxRecDepth 20000 in
theorem rfull_w (x : Nat) (w : World) : Calls Tryd.prog 33 #[.int .u64 x] w fun e w' => e = .returned (.int .u8 (mask (fun i => decide (byteAt x i < 128)) : Nat)) ∧ w = w' := by
  obtain ⟨p, hp⟩ : ∃ p : Nat → Bool, Hid ((fun i => decide (byteAt x i < 128)) = p) := ⟨_, rfl⟩
  have hpk : ∀ k, p k = decide (byteAt x k < 128) := fun k => by rw [← hp.out]
  have HP := Lib.hid hpk
  have H8 := Lib.hid (mk_mask p)
  clear hpk
  go_enter Tryd.func33, Tryd.ntmps33
  go_wp2
  go_loop [3, 4] (fun u i => ∃ k : Nat, k ≤ 8 ∧ i = .int .i64 k ∧ u = .int .u8 (mk p k : Nat)) (fun _ i => 8 - (intOf i).toNat)
  case atStart => exact ⟨0, by omega, rfl, rfl⟩
  case round =>
    obtain ⟨k, hk, rfl, rfl⟩ := hrel
    by_cases h8 : k < 8
    · have hm : k % 8 = k := Nat.mod_eq_of_lt h8
      have hg := rget_w x k (by omega) w
      rw [hm] at hg
      clear hm
      obtain ⟨y, hyy⟩ : ∃ y, Hid (byteAt x k = y) := ⟨_, rfl⟩
      rw [hyy.out] at hg
      have HG := Lib.hid hg
      clear hg
      by_cases hpk : p k = true
      · have hb : byteAt x k < 128 := by have := HP.out k; rw [hpk] at this; simpa using this.symm
        have hb' : decide ((y : Int) < 128) = true := by rw [← hyy.out]; simp; omega
        have hy := mk_yes hpk h8
        clear hb hpk
        go_wp2_with fail
        refine HG.out.mono ?_
        rintro e w1 ⟨rfl, rfl⟩
        go_wp2
        refine ⟨⟨k + 1, by omega, by go_num, rfl⟩, by simp [intOf]; omega⟩
      · have hb : ¬ byteAt x k < 128 := by have := HP.out k; rw [Bool.eq_false_iff.2 hpk] at this; simpa using this.symm
        have hb' : decide ((y : Int) < 128) = false := by rw [← hyy.out]; simp; omega
        have hy := Lib.hid (mk_no (by simpa using hpk : p k = false))
        clear hb hpk
        go_wp2_with fail
        refine HG.out.mono ?_
        rintro e w1 ⟨rfl, rfl⟩
        go_wp2
        refine ⟨⟨k + 1, by omega, by go_num, by rw [hy.out]⟩, by simp [intOf]; omega⟩
    · obtain rfl : k = 8 := by omega
      go_wp2
      go_ret
      exact ⟨by rw [hp.out, ← H8.out]; rfl, rfl⟩

theorem mask_lt' (p : Nat → Bool) : mask p < 256 := mask_lt p
theorem rfree_w (x : Nat) (hx : x < U) (w : World) : Calls Tryd.prog 34 #[.int .u64 x] w fun e w' => e = .returned (.int .u8 (freeN x : Nat)) ∧ w = w' := by
  have e1 := rmatch_w x 128 w
  have e2 := rmatch_w x 254 w
  rw [← match_mask hx (by decide)] at e1 e2
  have h1 := u8_or_nat (matchN x 128) (matchN x 254) (matchN_lt _ _) (matchN_lt _ _)
  have l1 := matchN_lt x 128
  have l2 := matchN_lt x 254
  have h2 : Hid (freeN x = matchN x 128 ||| matchN x 254) := rfl
  have E1 := Lib.hid e1
  have E2 := Lib.hid e2
  clear e1 e2
  go_enter Tryd.func34, Tryd.ntmps34
  go_wp2_with fail
  refine E1.out.mono ?_
  rintro e w1 ⟨rfl, rfl⟩
  go_wp2_with fail
  refine E2.out.mono ?_
  rintro e w1 ⟨rfl, rfl⟩
  go_wp2
  go_ret
  exact ⟨by rw [h2.out]; rfl, rfl⟩
end Go.Proofs.YtiopkkjcgdcgmaaDoor
