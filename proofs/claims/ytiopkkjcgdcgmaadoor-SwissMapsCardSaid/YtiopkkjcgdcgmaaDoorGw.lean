/- The groups of slots: the program's functions compute the model's. -/
import Derived.Test.YtiopkkjcgdcgmaaDoorBs
import Derived.Test.YtiopkkjcgdcgmaaDoorGp
import Derived.Test.YtiopkkjcgdcgmaaDoorProg
import Derived.Laws.DeepNot64
import Derived.Lib.Hide
namespace Go.Proofs.YtiopkkjcgdcgmaaDoor
open Go.RowKit Go.Rg Go.Nm Go.Gp
set_option maxHeartbeats 1000000

theorem zerosN_lt (x : Nat) (hx : x < U) : zerosN x < U := by
  unfold zerosN
  refine xor_lt (by decide) (or_lt (or_lt ?_ hx) (by decide))
  have : x &&& 9187201950435737471 ≤ 9187201950435737471 := Nat.and_le_right
  show _ < 18446744073709551616; omega
theorem xor_max (x : Nat) (hx : x < U) : bits .xor .u64 IntKind.u64.max (x : Int) = ((18446744073709551615 ^^^ x : Nat) : Int) := xorU (a := 18446744073709551615) (by decide) hx

theorem zeros_w (x : Nat) (hx : x < U) (w : World) : Calls Tryd.prog 118 #[.int .u64 x] w fun e w' => e = .returned (.int .u64 (zerosN x : Nat)) ∧ w = w' := by
  have hs : IntKind.u64.signed = false := rfl
  go_enter Tryd.func118, Tryd.ntmps118
  go_wp2
  go_ret
  refine ⟨retInt ?_, rfl⟩
  have h1 : bits .and .u64 (x : Int) 9187201950435737471 = ((x &&& 9187201950435737471 : Nat) : Int) := andU hx (by decide)
  have hle : x &&& 9187201950435737471 ≤ 9187201950435737471 := Nat.and_le_right
  have h2 : IntKind.u64.wrap (((x &&& 9187201950435737471 : Nat) : Int) + 9187201950435737471) = (((x &&& 9187201950435737471) + 9187201950435737471 : Nat) : Int) := by
    have := wrapU_add (x &&& 9187201950435737471) 9187201950435737471
    rw [Nat.mod_eq_of_lt (by show _ < 18446744073709551616; omega)] at this
    exact this
  have hb : (x &&& 9187201950435737471) + 9187201950435737471 < U := by show _ < 18446744073709551616; omega
  rw [h1, h2, orU hb hx, show (9187201950435737471 : Int) = ((9187201950435737471 : Nat) : Int) from rfl, orU (or_lt hb hx) (by decide), xor_max _ (or_lt (or_lt hb hx) (by decide))]
  rfl

theorem gather_w (x : Nat) (hx : x < U) (w : World) : Calls Tryd.prog 117 #[.int .u64 x] w fun e w' => e = .returned (.int .u8 (gatherN x : Nat)) ∧ w = w' := by
  go_enter Tryd.func117, Tryd.ntmps117
  go_wp2
  go_ret
  refine ⟨retInt ?_, rfl⟩
  rw [show (9259542123273814144 : Int) = ((9259542123273814144 : Nat) : Int) from rfl, andU hx (by decide)]
  unfold gatherN
  have := wrapU ((x &&& 9259542123273814144) / 128 * 72624976668147840)
  rw [show ((x &&& 9259542123273814144 : Nat) : Int) / 128 * 72624976668147840 = (((x &&& 9259542123273814144) / 128 * 72624976668147840 : Nat) : Int) by simp, this]
  simp

def onesN (h : Nat) : Nat := 72340172838076673 * h % U
theorem onesN_lt (h : Nat) : onesN h < U := Nat.mod_lt _ (by decide)
theorem matchN_eq (x h : Nat) : matchN x h = gatherN (zerosN (x ^^^ onesN h)) := by unfold matchN onesN; rfl
theorem ones_cast (h : Nat) (hh : h < 256) : ((onesN h : Nat) : Int) = 72340172838076673 * (h : Int) := by
  have : onesN h = 72340172838076673 * h := by unfold onesN; exact Nat.mod_eq_of_lt (by show _ < 18446744073709551616; omega)
  rw [this]; simp
theorem ones_xor (x h : Nat) (hx : x < U) (hh : h < 256) : bits .xor .u64 (x : Int) (72340172838076673 * (h : Int)) = ((x ^^^ onesN h : Nat) : Int) := by
  rw [← ones_cast h hh, xorU hx (onesN_lt h)]
theorem match_w (x h : Nat) (hx : x < U) (hh : h < 256) (w : World) : Calls Tryd.prog 101 #[.int .u64 x, .int .u8 h] w fun e w' => e = .returned (.int .u8 (matchN x h : Nat)) ∧ w = w' := by
  have h2 := ones_xor x h hx hh
  have h3 := xor_lt hx (onesN_lt h)
  have h4 := Lib.hid (matchN_eq x h)
  generalize x ^^^ onesN h = y at *
  go_enter Tryd.func101, Tryd.ntmps101
  go_wp2_with fail
  refine (zeros_w y h3 w).mono ?_
  rintro e w1 ⟨rfl, rfl⟩
  have h5 := zerosN_lt y h3
  go_wp2_with fail
  refine (gather_w _ h5 w).mono ?_
  rintro e w1 ⟨rfl, rfl⟩
  go_wp2
  go_ret
  exact ⟨by rw [h4.out]; rfl, rfl⟩
def tzTab : ByteArray := ⟨#[8, 0, 1, 0, 2, 0, 1, 0, 3, 0, 1, 0, 2, 0, 1, 0, 4, 0, 1, 0, 2, 0, 1, 0, 3, 0, 1, 0, 2, 0, 1, 0, 5, 0, 1, 0, 2, 0, 1, 0, 3, 0, 1, 0, 2, 0, 1, 0, 4, 0, 1, 0, 2, 0, 1, 0, 3, 0, 1, 0, 2, 0, 1, 0, 6, 0, 1, 0, 2, 0, 1, 0, 3, 0, 1, 0, 2, 0, 1, 0, 4, 0, 1, 0, 2, 0, 1, 0, 3, 0, 1, 0, 2, 0, 1, 0, 5, 0, 1, 0, 2, 0, 1, 0, 3, 0, 1, 0, 2, 0, 1, 0, 4, 0, 1, 0, 2, 0, 1, 0, 3, 0, 1, 0, 2, 0, 1, 0, 7, 0, 1, 0, 2, 0, 1, 0, 3, 0, 1, 0, 2, 0, 1, 0, 4, 0, 1, 0, 2, 0, 1, 0, 3, 0, 1, 0, 2, 0, 1, 0, 5, 0, 1, 0, 2, 0, 1, 0, 3, 0, 1, 0, 2, 0, 1, 0, 4, 0, 1, 0, 2, 0, 1, 0, 3, 0, 1, 0, 2, 0, 1, 0, 6, 0, 1, 0, 2, 0, 1, 0, 3, 0, 1, 0, 2, 0, 1, 0, 4, 0, 1, 0, 2, 0, 1, 0, 3, 0, 1, 0, 2, 0, 1, 0, 5, 0, 1, 0, 2, 0, 1, 0, 3, 0, 1, 0, 2, 0, 1, 0, 4, 0, 1, 0, 2, 0, 1, 0, 3, 0, 1, 0, 2, 0, 1, 0]⟩
theorem tzTab_size : tzTab.size = 256 := by decide +kernel
theorem tzTab_at : ∀ s : Fin 256, (tzTab.data.getD s.val 0).toNat = tz8 s.val := by decide +kernel
theorem tz8_lt9 : ∀ s : Fin 256, tz8 s.val < 9 := by decide +kernel
set_option maxRecDepth 100000 in
theorem tz8_w (s : Nat) (hs : s < 256) (w : World) : Calls Tryd.prog 119 #[.int .u8 s] w fun e w' => e = .returned (.int .i64 (tz8 s : Nat)) ∧ w = w' := by
  go_enter Tryd.func119, Tryd.ntmps119
  go_wp2
  go_ret
  refine ⟨retInt ?_, rfl⟩
  have hsz : s < tzTab.size := by rw [tzTab_size]; exact hs
  show wrap64 ((tzTab[s]'hsz).toNat : Int) = _
  have h1 := tzTab_at ⟨s, hs⟩
  have h2 : tzTab.data.getD s 0 = tzTab[s]'hsz := by
    simp [Array.getD]; rw [dif_pos hsz]; rfl
  simp only at h1
  rw [h2] at h1
  rw [h1]
  have := tz8_lt9 ⟨s, hs⟩
  simp only at this
  unfold wrap64; omega
theorem next_w (s : Nat) (hs : s < 256) (w : World) : Calls Tryd.prog 102 #[.int .u8 s] w fun e w' => e = .returned (.int .u8 (nextN s : Nat)) ∧ w = w' := by
  go_enter Tryd.func102, Tryd.ntmps102
  go_wp2
  go_ret
  refine ⟨retInt ?_, rfl⟩
  rw [show ((s : Int) - 1) % 256 = (((s + 255) % 256 : Nat) : Int) by omega, u8_and_nat s _ hs (by omega)]
  rfl

theorem empties_w (x : Nat) (hx : x < U) (w : World) : Calls Tryd.prog 67 #[.int .u64 x] w fun e w' => e = .returned (.int .u8 (matchN x 128 : Nat)) ∧ w = w' := by
  go_enter Tryd.func67, Tryd.ntmps67
  go_wp2_with fail
  refine (match_w x 128 hx (by decide) w).mono ?_
  rintro e w1 ⟨rfl, rfl⟩
  go_wp2
  go_ret
  exact ⟨rfl, rfl⟩
theorem full_w (x : Nat) (hx : x < U) (w : World) : Calls Tryd.prog 110 #[.int .u64 x] w fun e w' => e = .returned (.int .u8 (fullN x : Nat)) ∧ w = w' := by
  have hs : IntKind.u64.signed = false := rfl
  have h1 := xor_max x hx
  have h2 : Hid (fullN x = gatherN (18446744073709551615 ^^^ x)) := rfl
  have h3 : 18446744073709551615 ^^^ x < U := xor_lt (by decide) hx
  generalize 18446744073709551615 ^^^ x = y at *
  go_enter Tryd.func110, Tryd.ntmps110
  go_wp2_with fail
  refine (gather_w y h3 w).mono ?_
  rintro e w1 ⟨rfl, rfl⟩
  go_wp2
  go_ret
  exact ⟨by rw [h2.out]; rfl, rfl⟩
theorem gatherN_lt (x : Nat) : gatherN x < 256 := Nat.mod_lt _ (by decide)
theorem matchN_lt (x h : Nat) : matchN x h < 256 := gatherN_lt _
def freeN (x : Nat) : Nat := matchN x 128 ||| matchN x 254
theorem freeN_lt (x : Nat) : freeN x < 256 := Nat.or_lt_two_pow (n := 8) (matchN_lt _ _) (matchN_lt _ _)
theorem free_w (x : Nat) (hx : x < U) (w : World) : Calls Tryd.prog 104 #[.int .u64 x] w fun e w' => e = .returned (.int .u8 (freeN x : Nat)) ∧ w = w' := by
  have h1 := u8_or_nat (matchN x 128) (matchN x 254) (matchN_lt _ _) (matchN_lt _ _)
  have l1 := matchN_lt x 128
  have l2 := matchN_lt x 254
  have h2 : Hid (freeN x = matchN x 128 ||| matchN x 254) := rfl
  go_enter Tryd.func104, Tryd.ntmps104
  go_wp2_with fail
  refine (match_w x 128 hx (by decide) w).mono ?_
  rintro e w1 ⟨rfl, rfl⟩
  go_wp2_with fail
  refine (match_w x 254 hx (by decide) w).mono ?_
  rintro e w1 ⟨rfl, rfl⟩
  go_wp2
  go_ret
  exact ⟨by rw [h2.out]; rfl, rfl⟩
theorem first_w (s : Nat) (hs : s < 256) (w : World) : Calls Tryd.prog 103 #[.int .u8 s] w fun e w' => e = .returned (.int .i64 (tz8 s : Nat)) ∧ w = w' := by
  go_enter Tryd.func103, Tryd.ntmps103
  go_wp2_with fail
  refine (tz8_w s hs w).mono ?_
  rintro e w1 ⟨rfl, rfl⟩
  go_wp2
  go_ret
  exact ⟨rfl, rfl⟩

/-- The table of shifts. -/
def Sh (w : World) : Prop := ∀ i, i < 8 → w.cell? ⟨0, i, none⟩ = some (.int .u64 ((8 * i : Nat) : Int))
theorem Sh.kp {S : Nat → Prop} {x y : World} (h : Sh x) (hk : Kp S x y) (h0 : ¬ S 0) : Sh y := fun i hi => hk.cell (h i hi) h0
theorem and7 (i : Nat) (hi : i < 9223372036854775808) : bits .and .i64 (i : Int) 7 = ((i % 8 : Nat) : Int) := by
  have e1 : (BitVec.ofInt 64 (i : Int)).toNat = i := by rw [BitVec.ofInt_natCast, BitVec.toNat_ofNat]; exact Nat.mod_eq_of_lt (by omega)
  have e2 : (BitVec.ofInt 64 (7 : Int)).toNat = 7 := by decide
  show IntKind.i64.wrap ((BitVec.ofInt 64 (i : Int) &&& BitVec.ofInt 64 (7 : Int)).toNat : Int) = _
  rw [BitVec.toNat_and, e1, e2, nat_mask3, IntKind.wrap_i64]
  omega
theorem get_w (x i : Nat) (hi : i < 8) (w : World) (hw : Sh w) : Calls Tryd.prog 105 #[.int .u64 x, .int .i64 i] w fun e w' => e = .returned (.int .u8 (byteAt x i : Nat)) ∧ w = w' := by
  have h7 := and7 i (by omega)
  rw [Nat.mod_eq_of_lt hi] at h7
  have hc := hw i hi
  go_enter Tryd.func105, Tryd.ntmps105
  go_wp2
  go_ret
  refine ⟨retInt ?_, rfl⟩
  unfold byteAt
  rw [show (256 : Nat) = 2 ^ 8 from rfl, ← Nat.pow_mul]
  simp
theorem set_w (x i c : Nat) (hx : x < U) (hi : i < 9223372036854775808) (hcc : c < 256) (w : World) (hw : Sh w) : Calls Tryd.prog 68 #[.int .u64 x, .int .i64 i, .int .u8 c] w fun e w' => e = .returned (.int .u64 (setN x (i % 8) c : Nat)) ∧ w = w' := by
  have h7 := and7 i (by omega)
  have hj : i % 8 < 8 := Nat.mod_lt _ (by decide)
  have hc := hw (i % 8) hj
  generalize i % 8 = j at *
  go_enter Tryd.func68, Tryd.ntmps68
  go_wp2
  go_ret
  refine ⟨retInt ?_, rfl⟩
  unfold setN
  have e1 : IntKind.u64.wrap (255 * 2 ^ (8 * j)) = ((255 * 2 ^ (8 * j) % U : Nat) : Int) := by
    rw [← wrapU]; simp
  have e2 : IntKind.u64.wrap ((c : Int) * 2 ^ (8 * j)) = ((c * 2 ^ (8 * j) % U : Nat) : Int) := by
    rw [← wrapU]; simp
  have l1 : 255 * 2 ^ (8 * j) % U < U := Nat.mod_lt _ (by decide)
  have l2 : c * 2 ^ (8 * j) % U < U := Nat.mod_lt _ (by decide)
  rw [e1, e2, u64_andNot_nat x _ hx l1]
  exact orU (and_lt hx) l2
end Go.Proofs.YtiopkkjcgdcgmaaDoor
