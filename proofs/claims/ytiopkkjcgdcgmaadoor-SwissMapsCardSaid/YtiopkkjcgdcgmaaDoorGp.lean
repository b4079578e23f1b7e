/- Eight bytes of a word: the bit tricks and what they are, in plain numbers. -/
import Derived.Test.YtiopkkjcgdcgmaaDoorNm
namespace Go.Gp
open Go.Nm

theorem split256 (x : Nat) : x = x % 256 + 256 * (x / 256) := by omega
theorem xor_b {a b A B : Nat} (ha : a < 256) (hb : b < 256) : (a + 256 * A) ^^^ (b + 256 * B) = (a ^^^ b) + 256 * (A ^^^ B) := by
  have h1 := Nat.xor_mod_two_pow (a := a + 256 * A) (b := b + 256 * B) (n := 8)
  have h2 := Nat.xor_div_two_pow (a := a + 256 * A) (b := b + 256 * B) (n := 8)
  simp only [show (2 : Nat) ^ 8 = 256 from rfl] at h1 h2
  rw [show (a + 256 * A) % 256 = a by omega, show (b + 256 * B) % 256 = b by omega] at h1
  rw [show (a + 256 * A) / 256 = A by omega, show (b + 256 * B) / 256 = B by omega] at h2
  rw [split256 ((a + 256 * A) ^^^ (b + 256 * B)), h1, h2]
theorem and_b {a b A B : Nat} (ha : a < 256) (hb : b < 256) : (a + 256 * A) &&& (b + 256 * B) = (a &&& b) + 256 * (A &&& B) := by
  have h1 := Nat.and_mod_two_pow (a := a + 256 * A) (b := b + 256 * B) (n := 8)
  have h2 := Nat.and_div_two_pow (a := a + 256 * A) (b := b + 256 * B) (n := 8)
  simp only [show (2 : Nat) ^ 8 = 256 from rfl] at h1 h2
  rw [show (a + 256 * A) % 256 = a by omega, show (b + 256 * B) % 256 = b by omega] at h1
  rw [show (a + 256 * A) / 256 = A by omega, show (b + 256 * B) / 256 = B by omega] at h2
  rw [split256 ((a + 256 * A) &&& (b + 256 * B)), h1, h2]
theorem or_b {a b A B : Nat} (ha : a < 256) (hb : b < 256) : (a + 256 * A) ||| (b + 256 * B) = (a ||| b) + 256 * (A ||| B) := by
  have h1 := Nat.or_mod_two_pow (a := a + 256 * A) (b := b + 256 * B) (n := 8)
  have h2 := Nat.or_div_two_pow (a := a + 256 * A) (b := b + 256 * B) (n := 8)
  simp only [show (2 : Nat) ^ 8 = 256 from rfl] at h1 h2
  rw [show (a + 256 * A) % 256 = a by omega, show (b + 256 * B) % 256 = b by omega] at h1
  rw [show (a + 256 * A) / 256 = A by omega, show (b + 256 * B) / 256 = B by omega] at h2
  rw [split256 ((a + 256 * A) ||| (b + 256 * B)), h1, h2]

/-- A word of eight bytes. -/
def B8 (a b c d e f g h : Nat) : Nat := a + 256 * (b + 256 * (c + 256 * (d + 256 * (e + 256 * (f + 256 * (g + 256 * h))))))
def byteAt (w i : Nat) : Nat := w / 256 ^ i % 256
theorem byteAt_lt (w i : Nat) : byteAt w i < 256 := Nat.mod_lt _ (by decide)
theorem B8_of {w : Nat} (hw : w < U) : w = B8 (byteAt w 0) (byteAt w 1) (byteAt w 2) (byteAt w 3) (byteAt w 4) (byteAt w 5) (byteAt w 6) (byteAt w 7) := by
  unfold B8 byteAt
  have : w < 18446744073709551616 := hw
  simp only [Nat.reducePow]
  omega
theorem byteAt_B8 {a b c d e f g h : Nat} (ha : a < 256) (hb : b < 256) (hc : c < 256) (hd : d < 256) (he : e < 256) (hf : f < 256) (hg : g < 256) (hh : h < 256) :
    byteAt (B8 a b c d e f g h) 0 = a ∧ byteAt (B8 a b c d e f g h) 1 = b ∧ byteAt (B8 a b c d e f g h) 2 = c ∧ byteAt (B8 a b c d e f g h) 3 = d ∧
    byteAt (B8 a b c d e f g h) 4 = e ∧ byteAt (B8 a b c d e f g h) 5 = f ∧ byteAt (B8 a b c d e f g h) 6 = g ∧ byteAt (B8 a b c d e f g h) 7 = h := by
  unfold B8 byteAt
  simp only [Nat.reducePow]
  refine ⟨by omega, by omega, by omega, by omega, by omega, by omega, by omega, by omega⟩
theorem B8_lt {a b c d e f g h : Nat} (ha : a < 256) (hb : b < 256) (hc : c < 256) (hd : d < 256) (he : e < 256) (hf : f < 256) (hg : g < 256) (hh : h < 256) : B8 a b c d e f g h < U := by
  unfold B8; show _ < 18446744073709551616; omega

/-- The set of the slots for which p holds. -/
def mask (p : Nat → Bool) : Nat :=
  (p 0).toNat + 2 * ((p 1).toNat + 2 * ((p 2).toNat + 2 * ((p 3).toNat + 2 * ((p 4).toNat + 2 * ((p 5).toNat + 2 * ((p 6).toNat + 2 * (p 7).toNat))))))
theorem mask_lt (p : Nat → Bool) : mask p < 256 := by
  unfold mask
  have h : ∀ i, (p i).toNat ≤ 1 := fun i => by cases p i <;> decide
  have := h 0; have := h 1; have := h 2; have := h 3; have := h 4; have := h 5; have := h 6; have := h 7
  omega

def zerosN (x : Nat) : Nat := 18446744073709551615 ^^^ ((((x &&& 9187201950435737471) + 9187201950435737471) ||| x) ||| 9187201950435737471)
def gatherN (x : Nat) : Nat := ((x &&& 9259542123273814144) / 128 * 72624976668147840 % U) / 72057594037927936 % 256

theorem zero_digit : ∀ b : Fin 256, 255 ^^^ ((((b.val &&& 127) + 127) ||| b.val) ||| 127) = if b.val = 0 then 128 else 0 := by decide +kernel
theorem zeros_b8 {a b c d e f g h : Nat} (ha : a < 256) (hb : b < 256) (hc : c < 256) (hd : d < 256) (he : e < 256) (hf : f < 256) (hg : g < 256) (hh : h < 256) :
    zerosN (B8 a b c d e f g h) = B8 (if a = 0 then 128 else 0) (if b = 0 then 128 else 0) (if c = 0 then 128 else 0) (if d = 0 then 128 else 0)
      (if e = 0 then 128 else 0) (if f = 0 then 128 else 0) (if g = 0 then 128 else 0) (if h = 0 then 128 else 0) := by
  have z := fun (x : Nat) (hx : x < 256) => zero_digit ⟨x, hx⟩
  have hl : ∀ x : Nat, x &&& 127 < 128 := fun x => Nat.lt_of_le_of_lt Nat.and_le_right (by decide)
  have ho : ∀ x y : Nat, x < 256 → y < 256 → x ||| y < 256 := fun x y hx hy => Nat.or_lt_two_pow (n := 8) hx hy
  unfold zerosN
  have e1 : (9187201950435737471 : Nat) = B8 127 127 127 127 127 127 127 127 := by decide
  have e2 : (18446744073709551615 : Nat) = B8 255 255 255 255 255 255 255 255 := by decide
  have hand : B8 a b c d e f g h &&& B8 127 127 127 127 127 127 127 127 = B8 (a &&& 127) (b &&& 127) (c &&& 127) (d &&& 127) (e &&& 127) (f &&& 127) (g &&& 127) (h &&& 127) := by
    unfold B8
    rw [and_b ha (by decide), and_b hb (by decide), and_b hc (by decide), and_b hd (by decide), and_b he (by decide), and_b hf (by decide), and_b hg (by decide)]
  have hadd : B8 (a &&& 127) (b &&& 127) (c &&& 127) (d &&& 127) (e &&& 127) (f &&& 127) (g &&& 127) (h &&& 127) + B8 127 127 127 127 127 127 127 127 =
      B8 ((a &&& 127) + 127) ((b &&& 127) + 127) ((c &&& 127) + 127) ((d &&& 127) + 127) ((e &&& 127) + 127) ((f &&& 127) + 127) ((g &&& 127) + 127) ((h &&& 127) + 127) := by
    unfold B8; omega
  rw [e1, e2, hand, hadd]
  have ha' := hl a; have hb' := hl b; have hc' := hl c; have hd' := hl d; have he' := hl e; have hf' := hl f; have hg' := hl g; have hh' := hl h
  unfold B8
  rw [or_b (by omega) ha, or_b (by omega) hb, or_b (by omega) hc, or_b (by omega) hd, or_b (by omega) he, or_b (by omega) hf, or_b (by omega) hg]
  rw [or_b (ho _ _ (by omega) ha) (by decide), or_b (ho _ _ (by omega) hb) (by decide), or_b (ho _ _ (by omega) hc) (by decide), or_b (ho _ _ (by omega) hd) (by decide), or_b (ho _ _ (by omega) he) (by decide), or_b (ho _ _ (by omega) hf) (by decide), or_b (ho _ _ (by omega) hg) (by decide)]
  rw [xor_b (by decide) (ho _ _ (ho _ _ (by omega) ha) (by decide)), xor_b (by decide) (ho _ _ (ho _ _ (by omega) hb) (by decide)), xor_b (by decide) (ho _ _ (ho _ _ (by omega) hc) (by decide)), xor_b (by decide) (ho _ _ (ho _ _ (by omega) hd) (by decide)), xor_b (by decide) (ho _ _ (ho _ _ (by omega) he) (by decide)), xor_b (by decide) (ho _ _ (ho _ _ (by omega) hf) (by decide)), xor_b (by decide) (ho _ _ (ho _ _ (by omega) hg) (by decide))]
  rw [z a ha, z b hb, z c hc, z d hd, z e he, z f hf, z g hg, z h hh]

theorem gather_bits : ∀ a b c d e f g h : Bool, (B8 a.toNat b.toNat c.toNat d.toNat e.toNat f.toNat g.toNat h.toNat * 72624976668147840 % U) / 72057594037927936 % 256 =
    a.toNat + 2 * (b.toNat + 2 * (c.toNat + 2 * (d.toNat + 2 * (e.toNat + 2 * (f.toNat + 2 * (g.toNat + 2 * h.toNat)))))) := by decide +kernel
theorem and128 : ∀ b : Fin 256, b.val &&& 128 = (decide (128 ≤ b.val)).toNat * 128 := by decide +kernel
theorem gather_b8 {a b c d e f g h : Nat} (ha : a < 256) (hb : b < 256) (hc : c < 256) (hd : d < 256) (he : e < 256) (hf : f < 256) (hg : g < 256) (hh : h < 256) :
    gatherN (B8 a b c d e f g h) = mask fun i => decide (128 ≤ byteAt (B8 a b c d e f g h) i) := by
  obtain ⟨b0, b1, b2, b3, b4, b5, b6, b7⟩ := byteAt_B8 ha hb hc hd he hf hg hh
  unfold gatherN mask
  simp only [b0, b1, b2, b3, b4, b5, b6, b7]
  have z := fun (x : Nat) (hx : x < 256) => and128 ⟨x, hx⟩
  simp only at z
  rw [show (9259542123273814144 : Nat) = B8 128 128 128 128 128 128 128 128 by decide]
  have hand : B8 a b c d e f g h &&& B8 128 128 128 128 128 128 128 128 = B8 (a &&& 128) (b &&& 128) (c &&& 128) (d &&& 128) (e &&& 128) (f &&& 128) (g &&& 128) (h &&& 128) := by
    unfold B8
    rw [and_b ha (by decide), and_b hb (by decide), and_b hc (by decide), and_b hd (by decide), and_b he (by decide), and_b hf (by decide), and_b hg (by decide)]
  rw [hand, z a ha, z b hb, z c hc, z d hd, z e he, z f hf, z g hg, z h hh]
  rw [← gather_bits]
  have hdiv : ∀ a b c d e f g h : Nat, B8 (a * 128) (b * 128) (c * 128) (d * 128) (e * 128) (f * 128) (g * 128) (h * 128) / 128 = B8 a b c d e f g h := by
    intro a b c d e f g h; unfold B8; omega
  rw [hdiv]

theorem gather_mask {w : Nat} (hw : w < U) : gatherN w = mask fun i => decide (128 ≤ byteAt w i) := by
  have h := B8_of hw
  have := gather_b8 (byteAt_lt w 0) (byteAt_lt w 1) (byteAt_lt w 2) (byteAt_lt w 3) (byteAt_lt w 4) (byteAt_lt w 5) (byteAt_lt w 6) (byteAt_lt w 7)
  rw [← h] at this; exact this

theorem xor_eq_zero' {a b : Nat} : a ^^^ b = 0 ↔ a = b := by
  constructor
  · intro h
    have : a ^^^ b ^^^ b = 0 ^^^ b := by rw [h]
    rwa [Nat.xor_assoc, Nat.xor_self, Nat.xor_zero, Nat.zero_xor] at this
  · rintro rfl; exact Nat.xor_self _
/-- Match: the slots whose byte is h. -/
def matchN (w h : Nat) : Nat := gatherN (zerosN (w ^^^ (72340172838076673 * h) % U))
theorem match_mask {w h : Nat} (hw : w < U) (hh : h < 256) : matchN w h = mask fun i => byteAt w i == h := by
  have hx : ∀ x, x < 256 → x ^^^ h < 256 := fun x hx => Nat.xor_lt_two_pow (n := 8) hx hh
  have e1 : 72340172838076673 * h % U = B8 h h h h h h h h := by unfold B8; show _ % 18446744073709551616 = _; omega
  unfold matchN
  rw [e1]
  have hb := fun i => byteAt_lt w i
  have hxor : w ^^^ B8 h h h h h h h h = B8 (byteAt w 0 ^^^ h) (byteAt w 1 ^^^ h) (byteAt w 2 ^^^ h) (byteAt w 3 ^^^ h) (byteAt w 4 ^^^ h) (byteAt w 5 ^^^ h) (byteAt w 6 ^^^ h) (byteAt w 7 ^^^ h) := by
    conv => lhs; rw [B8_of hw]
    unfold B8
    rw [xor_b (hb 0) hh, xor_b (hb 1) hh, xor_b (hb 2) hh, xor_b (hb 3) hh, xor_b (hb 4) hh, xor_b (hb 5) hh, xor_b (hb 6) hh]
  rw [hxor, zeros_b8 (hx _ (hb 0)) (hx _ (hb 1)) (hx _ (hb 2)) (hx _ (hb 3)) (hx _ (hb 4)) (hx _ (hb 5)) (hx _ (hb 6)) (hx _ (hb 7))]
  have h128 : ∀ (c : Prop) [Decidable c], (if c then 128 else 0) < 256 := fun c _ => by split <;> omega
  rw [gather_b8 (h128 _) (h128 _) (h128 _) (h128 _) (h128 _) (h128 _) (h128 _) (h128 _)]
  obtain ⟨b0, b1, b2, b3, b4, b5, b6, b7⟩ := byteAt_B8 (h128 (byteAt w 0 ^^^ h = 0)) (h128 (byteAt w 1 ^^^ h = 0)) (h128 (byteAt w 2 ^^^ h = 0)) (h128 (byteAt w 3 ^^^ h = 0)) (h128 (byteAt w 4 ^^^ h = 0)) (h128 (byteAt w 5 ^^^ h = 0)) (h128 (byteAt w 6 ^^^ h = 0)) (h128 (byteAt w 7 ^^^ h = 0))
  unfold mask
  simp only [b0, b1, b2, b3, b4, b5, b6, b7]
  have key : ∀ x, decide (128 ≤ if x ^^^ h = 0 then 128 else 0) = (x == h) := fun x => by
    rw [Bool.eq_iff_iff]
    simp only [decide_eq_true_eq, beq_iff_eq, xor_eq_zero']
    split <;> simp_all
  simp only [key]
/-- Full: the slots whose byte is below 128. -/
def fullN (w : Nat) : Nat := gatherN (18446744073709551615 ^^^ w)
theorem full_mask {w : Nat} (hw : w < U) : fullN w = mask fun i => decide (byteAt w i < 128) := by
  have hb := fun i => byteAt_lt w i
  unfold fullN
  have hxor : (18446744073709551615 : Nat) ^^^ w = B8 (255 ^^^ byteAt w 0) (255 ^^^ byteAt w 1) (255 ^^^ byteAt w 2) (255 ^^^ byteAt w 3) (255 ^^^ byteAt w 4) (255 ^^^ byteAt w 5) (255 ^^^ byteAt w 6) (255 ^^^ byteAt w 7) := by
    conv => lhs; rw [B8_of hw, show (18446744073709551615 : Nat) = B8 255 255 255 255 255 255 255 255 by decide]
    unfold B8
    rw [xor_b (by decide) (hb 0), xor_b (by decide) (hb 1), xor_b (by decide) (hb 2), xor_b (by decide) (hb 3), xor_b (by decide) (hb 4), xor_b (by decide) (hb 5), xor_b (by decide) (hb 6)]
  have hx : ∀ x, x < 256 → 255 ^^^ x < 256 := fun x hx => Nat.xor_lt_two_pow (n := 8) (by decide) hx
  rw [hxor, gather_b8 (hx _ (hb 0)) (hx _ (hb 1)) (hx _ (hb 2)) (hx _ (hb 3)) (hx _ (hb 4)) (hx _ (hb 5)) (hx _ (hb 6)) (hx _ (hb 7))]
  obtain ⟨b0, b1, b2, b3, b4, b5, b6, b7⟩ := byteAt_B8 (hx _ (hb 0)) (hx _ (hb 1)) (hx _ (hb 2)) (hx _ (hb 3)) (hx _ (hb 4)) (hx _ (hb 5)) (hx _ (hb 6)) (hx _ (hb 7))
  unfold mask
  simp only [b0, b1, b2, b3, b4, b5, b6, b7]
  have key : ∀ i, decide (128 ≤ 255 ^^^ byteAt w i) = decide (byteAt w i < 128) := fun i => by
    have : ∀ b : Fin 256, decide (128 ≤ 255 ^^^ b.val) = decide (b.val < 128) := by decide +kernel
    exact this ⟨byteAt w i, hb i⟩
  simp only [key]

/-! ### sets of slots -/
def tz8 (s : Nat) : Nat := if s % 2 = 1 then 0 else if s / 2 % 2 = 1 then 1 else if s / 4 % 2 = 1 then 2 else if s / 8 % 2 = 1 then 3 else if s / 16 % 2 = 1 then 4 else if s / 32 % 2 = 1 then 5 else if s / 64 % 2 = 1 then 6 else if s / 128 % 2 = 1 then 7 else 8
def nextN (s : Nat) : Nat := s &&& ((s + 255) % 256)
def bitsOf (s : Nat) : List Nat := (List.range 8).filter fun i => s / 2 ^ i % 2 == 1
theorem bits_step : ∀ s : Fin 256, s.val ≠ 0 → bitsOf s.val = tz8 s.val :: bitsOf (nextN s.val) ∧ tz8 s.val < 8 ∧ nextN s.val < s.val := by decide +kernel
theorem bits_nil : ∀ s : Fin 256, s.val = 0 ↔ bitsOf s.val = [] := by decide +kernel
theorem bits_mask_all : ∀ a b c d e f g h : Bool, bitsOf (a.toNat + 2 * (b.toNat + 2 * (c.toNat + 2 * (d.toNat + 2 * (e.toNat + 2 * (f.toNat + 2 * (g.toNat + 2 * h.toNat))))))) =
    (List.range 8).filter fun i => #[a, b, c, d, e, f, g, h].getD i false := by decide +kernel
theorem bits_mask (p : Nat → Bool) : bitsOf (mask p) = (List.range 8).filter p := by
  unfold mask
  rw [bits_mask_all]
  refine List.filter_congr fun i hi => ?_
  have := List.mem_range.1 hi
  match i, this with
  | 0, _ => rfl
  | 1, _ => rfl
  | 2, _ => rfl
  | 3, _ => rfl
  | 4, _ => rfl
  | 5, _ => rfl
  | 6, _ => rfl
  | 7, _ => rfl

/-! ### a byte set -/
def setN (w j c : Nat) : Nat := (w &&& (18446744073709551615 - 255 * 2 ^ (8 * j) % U)) ||| c * 2 ^ (8 * j) % U
theorem set_spec {w c : Nat} (hw : w < U) (hc : c < 256) (j : Nat) (hj : j < 8) : setN w j c < U ∧ ∀ i, i < 8 → byteAt (setN w j c) i = if i = j then c else byteAt w i := by
  have hb := fun i => byteAt_lt w i
  have and0 : ∀ x : Nat, x &&& 0 = 0 := fun x => Nat.and_zero x
  have and255 : ∀ x : Nat, x < 256 → x &&& 255 = x := fun x hx => by
    have := Nat.and_two_pow_sub_one_eq_mod x 8
    simp only [show (2 : Nat) ^ 8 - 1 = 255 from rfl, show (2 : Nat) ^ 8 = 256 from rfl] at this
    rw [this]; omega
  have or0 : ∀ x : Nat, x ||| 0 = x := fun x => Nat.or_zero x
  have zor : ∀ x : Nat, 0 ||| x = x := fun x => Nat.zero_or x
  have main : ∀ (k0 k1 k2 k3 k4 k5 k6 k7 c0 c1 c2 c3 c4 c5 c6 c7 : Nat), k0 < 256 → k1 < 256 → k2 < 256 → k3 < 256 → k4 < 256 → k5 < 256 → k6 < 256 → k7 < 256 →
      c0 < 256 → c1 < 256 → c2 < 256 → c3 < 256 → c4 < 256 → c5 < 256 → c6 < 256 → c7 < 256 →
      (w &&& B8 k0 k1 k2 k3 k4 k5 k6 k7) ||| B8 c0 c1 c2 c3 c4 c5 c6 c7 = B8 ((byteAt w 0 &&& k0) ||| c0) ((byteAt w 1 &&& k1) ||| c1) ((byteAt w 2 &&& k2) ||| c2) ((byteAt w 3 &&& k3) ||| c3)
        ((byteAt w 4 &&& k4) ||| c4) ((byteAt w 5 &&& k5) ||| c5) ((byteAt w 6 &&& k6) ||| c6) ((byteAt w 7 &&& k7) ||| c7) := by
    intro k0 k1 k2 k3 k4 k5 k6 k7 c0 c1 c2 c3 c4 c5 c6 c7 hk0 hk1 hk2 hk3 hk4 hk5 hk6 hk7 hc0 hc1 hc2 hc3 hc4 hc5 hc6 hc7
    have hl : ∀ i k, byteAt w i &&& k < 256 := fun i k => Nat.lt_of_le_of_lt Nat.and_le_left (hb i)
    conv => lhs; rw [B8_of hw]
    unfold B8
    rw [and_b (hb 0) hk0, and_b (hb 1) hk1, and_b (hb 2) hk2, and_b (hb 3) hk3, and_b (hb 4) hk4, and_b (hb 5) hk5, and_b (hb 6) hk6]
    rw [or_b (hl _ _) hc0, or_b (hl _ _) hc1, or_b (hl _ _) hc2, or_b (hl _ _) hc3, or_b (hl _ _) hc4, or_b (hl _ _) hc5, or_b (hl _ _) hc6]
  have fin : ∀ (x : Nat), (∃ a b c' d e f g h, x = B8 a b c' d e f g h ∧ a < 256 ∧ b < 256 ∧ c' < 256 ∧ d < 256 ∧ e < 256 ∧ f < 256 ∧ g < 256 ∧ h < 256 ∧
      a = (if 0 = j then c else byteAt w 0) ∧ b = (if 1 = j then c else byteAt w 1) ∧ c' = (if 2 = j then c else byteAt w 2) ∧ d = (if 3 = j then c else byteAt w 3) ∧
      e = (if 4 = j then c else byteAt w 4) ∧ f = (if 5 = j then c else byteAt w 5) ∧ g = (if 6 = j then c else byteAt w 6) ∧ h = (if 7 = j then c else byteAt w 7)) →
      x < U ∧ ∀ i, i < 8 → byteAt x i = if i = j then c else byteAt w i := by
    rintro x ⟨a, b, c', d, e, f, g, h, rfl, ha, hb', hc', hd, he, hf, hg, hh, e0, e1, e2, e3, e4, e5, e6, e7⟩
    refine ⟨B8_lt ha hb' hc' hd he hf hg hh, fun i hi => ?_⟩
    obtain ⟨b0, b1, b2, b3, b4, b5, b6, b7⟩ := byteAt_B8 ha hb' hc' hd he hf hg hh
    match i, hi with
    | 0, _ => rw [b0]; exact e0
    | 1, _ => rw [b1]; exact e1
    | 2, _ => rw [b2]; exact e2
    | 3, _ => rw [b3]; exact e3
    | 4, _ => rw [b4]; exact e4
    | 5, _ => rw [b5]; exact e5
    | 6, _ => rw [b6]; exact e6
    | 7, _ => rw [b7]; exact e7
  refine fin _ ?_
  unfold setN
  match j, hj with
  | 0, _ =>
    rw [show (18446744073709551615 - 255 * 2 ^ (8 * 0) % U) = B8 0 255 255 255 255 255 255 255 by decide, show c * 2 ^ (8 * 0) % U = B8 c 0 0 0 0 0 0 0 by unfold B8; show c * 1 % 18446744073709551616 = _; omega,
      main _ _ _ _ _ _ _ _ _ _ _ _ _ _ _ _ (by decide) (by decide) (by decide) (by decide) (by decide) (by decide) (by decide) (by decide) hc (by decide) (by decide) (by decide) (by decide) (by decide) (by decide) (by decide)]
    simp only [and0, and255 _ (hb _), or0, zor]
    exact ⟨_, _, _, _, _, _, _, _, rfl, hc, hb _, hb _, hb _, hb _, hb _, hb _, hb _, rfl, rfl, rfl, rfl, rfl, rfl, rfl, rfl⟩
  | 1, _ =>
    rw [show (18446744073709551615 - 255 * 2 ^ (8 * 1) % U) = B8 255 0 255 255 255 255 255 255 by decide, show c * 2 ^ (8 * 1) % U = B8 0 c 0 0 0 0 0 0 by unfold B8; show c * 256 % 18446744073709551616 = _; omega,
      main _ _ _ _ _ _ _ _ _ _ _ _ _ _ _ _ (by decide) (by decide) (by decide) (by decide) (by decide) (by decide) (by decide) (by decide) (by decide) hc (by decide) (by decide) (by decide) (by decide) (by decide) (by decide)]
    simp only [and0, and255 _ (hb _), or0, zor]
    exact ⟨_, _, _, _, _, _, _, _, rfl, hb _, hc, hb _, hb _, hb _, hb _, hb _, hb _, rfl, rfl, rfl, rfl, rfl, rfl, rfl, rfl⟩
  | 2, _ =>
    rw [show (18446744073709551615 - 255 * 2 ^ (8 * 2) % U) = B8 255 255 0 255 255 255 255 255 by decide, show c * 2 ^ (8 * 2) % U = B8 0 0 c 0 0 0 0 0 by unfold B8; show c * 65536 % 18446744073709551616 = _; omega,
      main _ _ _ _ _ _ _ _ _ _ _ _ _ _ _ _ (by decide) (by decide) (by decide) (by decide) (by decide) (by decide) (by decide) (by decide) (by decide) (by decide) hc (by decide) (by decide) (by decide) (by decide) (by decide)]
    simp only [and0, and255 _ (hb _), or0, zor]
    exact ⟨_, _, _, _, _, _, _, _, rfl, hb _, hb _, hc, hb _, hb _, hb _, hb _, hb _, rfl, rfl, rfl, rfl, rfl, rfl, rfl, rfl⟩
  | 3, _ =>
    rw [show (18446744073709551615 - 255 * 2 ^ (8 * 3) % U) = B8 255 255 255 0 255 255 255 255 by decide, show c * 2 ^ (8 * 3) % U = B8 0 0 0 c 0 0 0 0 by unfold B8; show c * 16777216 % 18446744073709551616 = _; omega,
      main _ _ _ _ _ _ _ _ _ _ _ _ _ _ _ _ (by decide) (by decide) (by decide) (by decide) (by decide) (by decide) (by decide) (by decide) (by decide) (by decide) (by decide) hc (by decide) (by decide) (by decide) (by decide)]
    simp only [and0, and255 _ (hb _), or0, zor]
    exact ⟨_, _, _, _, _, _, _, _, rfl, hb _, hb _, hb _, hc, hb _, hb _, hb _, hb _, rfl, rfl, rfl, rfl, rfl, rfl, rfl, rfl⟩
  | 4, _ =>
    rw [show (18446744073709551615 - 255 * 2 ^ (8 * 4) % U) = B8 255 255 255 255 0 255 255 255 by decide, show c * 2 ^ (8 * 4) % U = B8 0 0 0 0 c 0 0 0 by unfold B8; show c * 4294967296 % 18446744073709551616 = _; omega,
      main _ _ _ _ _ _ _ _ _ _ _ _ _ _ _ _ (by decide) (by decide) (by decide) (by decide) (by decide) (by decide) (by decide) (by decide) (by decide) (by decide) (by decide) (by decide) hc (by decide) (by decide) (by decide)]
    simp only [and0, and255 _ (hb _), or0, zor]
    exact ⟨_, _, _, _, _, _, _, _, rfl, hb _, hb _, hb _, hb _, hc, hb _, hb _, hb _, rfl, rfl, rfl, rfl, rfl, rfl, rfl, rfl⟩
  | 5, _ =>
    rw [show (18446744073709551615 - 255 * 2 ^ (8 * 5) % U) = B8 255 255 255 255 255 0 255 255 by decide, show c * 2 ^ (8 * 5) % U = B8 0 0 0 0 0 c 0 0 by unfold B8; show c * 1099511627776 % 18446744073709551616 = _; omega,
      main _ _ _ _ _ _ _ _ _ _ _ _ _ _ _ _ (by decide) (by decide) (by decide) (by decide) (by decide) (by decide) (by decide) (by decide) (by decide) (by decide) (by decide) (by decide) (by decide) hc (by decide) (by decide)]
    simp only [and0, and255 _ (hb _), or0, zor]
    exact ⟨_, _, _, _, _, _, _, _, rfl, hb _, hb _, hb _, hb _, hb _, hc, hb _, hb _, rfl, rfl, rfl, rfl, rfl, rfl, rfl, rfl⟩
  | 6, _ =>
    rw [show (18446744073709551615 - 255 * 2 ^ (8 * 6) % U) = B8 255 255 255 255 255 255 0 255 by decide, show c * 2 ^ (8 * 6) % U = B8 0 0 0 0 0 0 c 0 by unfold B8; show c * 281474976710656 % 18446744073709551616 = _; omega,
      main _ _ _ _ _ _ _ _ _ _ _ _ _ _ _ _ (by decide) (by decide) (by decide) (by decide) (by decide) (by decide) (by decide) (by decide) (by decide) (by decide) (by decide) (by decide) (by decide) (by decide) hc (by decide)]
    simp only [and0, and255 _ (hb _), or0, zor]
    exact ⟨_, _, _, _, _, _, _, _, rfl, hb _, hb _, hb _, hb _, hb _, hb _, hc, hb _, rfl, rfl, rfl, rfl, rfl, rfl, rfl, rfl⟩
  | 7, _ =>
    rw [show (18446744073709551615 - 255 * 2 ^ (8 * 7) % U) = B8 255 255 255 255 255 255 255 0 by decide, show c * 2 ^ (8 * 7) % U = B8 0 0 0 0 0 0 0 c by unfold B8; show c * 72057594037927936 % 18446744073709551616 = _; omega,
      main _ _ _ _ _ _ _ _ _ _ _ _ _ _ _ _ (by decide) (by decide) (by decide) (by decide) (by decide) (by decide) (by decide) (by decide) (by decide) (by decide) (by decide) (by decide) (by decide) (by decide) (by decide) hc]
    simp only [and0, and255 _ (hb _), or0, zor]
    exact ⟨_, _, _, _, _, _, _, _, rfl, hb _, hb _, hb _, hb _, hb _, hb _, hb _, hc, rfl, rfl, rfl, rfl, rfl, rfl, rfl, rfl⟩
end Go.Gp
