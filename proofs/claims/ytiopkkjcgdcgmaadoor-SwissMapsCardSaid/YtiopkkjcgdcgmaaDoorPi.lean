/- The map's invariant, in plain Lean: what each operation keeps, and which keys and values the map has behind it. -/
import Derived.Test.YtiopkkjcgdcgmaaDoorMo
import Derived.Test.YtiopkkjcgdcgmaaDoorSs
namespace Go.Proofs.YtiopkkjcgdcgmaaDoor
open Go.RowKit Go.Rg Go.Nm Go.Gp Go.Mp

theorem countP_upd (f g : Nat → Bool) (i : Nat) (h : ∀ j, j ≠ i → f j = g j) : ∀ n, i < n → (List.range n).countP f + (g i).toNat = (List.range n).countP g + (f i).toNat := by
  intro n
  have hlt : ∀ k, k ≤ i → (List.range k).countP f = (List.range k).countP g := by
    intro k hk
    refine List.countP_congr fun x hx => ?_
    rw [h x (by have := List.mem_range.1 hx; omega)]
  induction n with
  | zero => omega
  | succ n ih =>
    intro hn
    rw [List.range_succ, List.countP_append, List.countP_append]
    by_cases e : i = n
    · subst e; rw [hlt i (Nat.le_refl _)]
      simp only [List.countP_cons, List.countP_nil]
      cases f i <;> cases g i <;> simp
    · have := ih (by omega)
      simp only [List.countP_cons, List.countP_nil, h n (fun e' => e e'.symm)]
      omega
theorem mask_zero (p : Nat → Bool) : mask p = 0 ↔ ∀ i, i < 8 → p i = false := by
  have h := bits_nil ⟨mask p, mask_lt p⟩
  simp only at h
  rw [h, Go.Gp.bits_mask, List.filter_eq_nil_iff]
  constructor
  · intro h i hi
    have := h i (List.mem_range.2 hi)
    simpa using this
  · intro h i hi
    simp [h i (List.mem_range.1 hi)]
theorem match_zero {w c : Nat} (hw : w < U) (hc : c < 256) : matchN w c = 0 ↔ ∀ i, i < 8 → byteAt w i ≠ c := by
  rw [match_mask hw hc, mask_zero]
  constructor <;> intro h i hi <;> have := h i hi <;> simpa using this
theorem fr_zero {w : Nat} (hw : w < U) : fr w = 0 ↔ ∀ i, i < 8 → byteAt w i ≠ 128 ∧ byteAt w i ≠ 254 := by
  unfold fr
  rw [Nat.or_eq_zero_iff, match_zero hw (by decide), match_zero hw (by decide)]
  exact ⟨fun h i hi => ⟨h.1 i hi, h.2 i hi⟩, fun h => ⟨fun i hi => (h i hi).1, fun i hi => (h i hi).2⟩⟩
theorem bit_mask (p : Nat → Bool) {i : Nat} (hi : i < 8) : (mask p).testBit i = p i := by
  have h : i ∈ bitsOf (mask p) ↔ i ∈ (List.range 8).filter p := by rw [Go.Gp.bits_mask]
  unfold bitsOf at h
  simp only [List.mem_filter, List.mem_range, hi, true_and, beq_iff_eq] at h
  have e : (mask p).testBit i = decide ((mask p) / 2 ^ i % 2 = 1) := by rw [Nat.testBit_eq_decide_div_mod_eq]
  rw [e, Bool.eq_iff_iff, decide_eq_true_eq, h]
theorem fr_first {w : Nat} (hw : w < U) (h : fr w ≠ 0) : tz8 (fr w) < 8 ∧ (byteAt w (tz8 (fr w)) = 128 ∨ byteAt w (tz8 (fr w)) = 254) := by
  have hl : fr w < 256 := by
    unfold fr
    rw [match_mask hw (by decide), match_mask hw (by decide)]
    exact Nat.or_lt_two_pow (n := 8) (mask_lt _) (mask_lt _)
  obtain ⟨h1, h2, _⟩ := bits_step ⟨fr w, hl⟩ h
  simp only at h1 h2
  refine ⟨h2, ?_⟩
  have hm : tz8 (fr w) ∈ bitsOf (fr w) := by rw [h1]; exact List.mem_cons_self
  unfold bitsOf at hm
  simp only [List.mem_filter, beq_iff_eq] at hm
  have hb : (fr w).testBit (tz8 (fr w)) = true := by rw [Nat.testBit_eq_decide_div_mod_eq]; simp [hm.2]
  generalize tz8 (fr w) = i at *
  unfold fr at hb
  rw [match_mask hw (by decide), match_mask hw (by decide), Nat.testBit_or, bit_mask _ h2, bit_mask _ h2] at hb
  simpa using hb

/-! ### the order of groups holds each group once -/
theorem acc_inj {k h : Nat} {i j : Nat} (_ : i < 2 ^ k) (hj : j < 2 ^ k) (hij : i < j) : acc h (2 ^ k) (i + 1) ≠ acc h (2 ^ k) (j + 1) := by
  rw [acc_eq, acc_eq]
  intro e
  have tri : ∀ n : Nat, n * (n + 1) % 2 = 0 := fun n => by
    rcases Nat.mod_two_eq_zero_or_one n with h | h
    · rw [Nat.mul_mod, h]; simp
    · rw [Nat.mul_mod, show (n + 1) % 2 = 0 by omega]; simp
  have ti := tri i
  have tj := tri j
  have hle : i * (i + 1) ≤ j * (j + 1) := Nat.mul_le_mul (by omega) (by omega)
  -- the difference of the two is a multiple of 2^k
  have hd : (j * (j + 1) / 2 - i * (i + 1) / 2) % 2 ^ k = 0 := by
    have h1 := Nat.sub_mod_eq_zero_of_mod_eq e.symm
    rwa [show h % 2 ^ k + j * (j + 1) / 2 - (h % 2 ^ k + i * (i + 1) / 2) = j * (j + 1) / 2 - i * (i + 1) / 2 by omega] at h1
  have hf : j * (j + 1) - i * (i + 1) = (j - i) * (j + i + 1) := by
    obtain ⟨d, rfl⟩ : ∃ d, j = i + d := ⟨j - i, by omega⟩
    rw [show i + d - i = d by omega]
    simp only [Nat.mul_add, Nat.add_mul, Nat.mul_one]
    have := Nat.mul_comm i d
    omega
  have hdv : 2 ^ (k + 1) ∣ (j - i) * (j + i + 1) := by
    rw [← hf]
    obtain ⟨q, hq⟩ := Nat.dvd_of_mod_eq_zero hd
    refine ⟨q, ?_⟩
    rw [Nat.pow_succ, Nat.mul_assoc, Nat.mul_comm 2 q, ← Nat.mul_assoc]
    omega
  rcases Nat.mod_two_eq_zero_or_one (j - i) with hp | hp
  · -- j + i + 1 is odd
    have hc : Nat.Coprime (2 ^ (k + 1)) (j + i + 1) := by
      refine Nat.Coprime.pow_left _ ?_
      rw [Nat.coprime_iff_gcd_eq_one, Nat.gcd_rec, show (j + i + 1) % 2 = 1 by omega]; rfl
    have := Nat.le_of_dvd (by omega) (hc.dvd_of_dvd_mul_right hdv)
    rw [Nat.pow_succ] at this; omega
  · have hc : Nat.Coprime (2 ^ (k + 1)) (j - i) := by
      refine Nat.Coprime.pow_left _ ?_
      rw [Nat.coprime_iff_gcd_eq_one, Nat.gcd_rec, hp]; rfl
    have := Nat.le_of_dvd (by omega) (hc.dvd_of_dvd_mul_left hdv)
    rw [Nat.pow_succ] at this; omega
theorem seq_length (h g : Nat) : (seq h g).length = g := by simp [seq]
theorem seq_nodup {g : Nat} (hP : Pw g) (h : Nat) : (seq h g).Nodup := by
  obtain ⟨k, _, rfl⟩ := hP
  unfold seq List.Nodup
  rw [List.pairwise_map]
  refine List.Pairwise.imp_of_mem ?_ List.pairwise_lt_range
  intro a b ha hb hab
  exact acc_inj (List.mem_range.1 ha) (List.mem_range.1 hb) hab
theorem nodup_le : ∀ (n : Nat) (l : List Nat), l.Nodup → (∀ x ∈ l, x < n) → l.length ≤ n
  | 0, l, _, h => by
    cases l with
    | nil => simp
    | cons x l => exact absurd (h x List.mem_cons_self) (by omega)
  | n + 1, l, hn, h => by
    have h1 := nodup_le n (l.erase n) (hn.erase n) (fun x hx => by
      have h2 := h x (List.mem_of_mem_erase hx)
      have h3 : x ≠ n := fun e => by subst e; exact (List.Nodup.not_mem_erase hn) hx
      omega)
    rw [List.length_erase] at h1
    split at h1 <;> omega
theorem mem_of_nodup_lt (n : Nat) (l : List Nat) (hn : l.Nodup) (hl : ∀ x ∈ l, x < n) (hlen : l.length = n) (x : Nat) (hx : x < n) : x ∈ l := by
  refine Classical.byContradiction fun hni => ?_
  have := nodup_le n (x :: l) (List.nodup_cons.2 ⟨hni, hn⟩) (fun y hy => by
    rcases List.mem_cons.1 hy with rfl | hy
    · exact hx
    · exact hl y hy)
  simp at this
  omega
theorem seq_all {g : Nat} (hP : Pw g) (h : Nat) {x : Nat} (hx : x < g) : x ∈ seq h g :=
  mem_of_nodup_lt g _ (seq_nodup hP h) (fun _ hy => seq_lt hy) (seq_length h g) x hx
end Go.Proofs.YtiopkkjcgdcgmaaDoor
