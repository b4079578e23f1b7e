/- Numbers below 2^64 and below 2^8: what the model's operations on them are. -/
import Derived.Laws.BitsAllLaws
import Derived.WalkKit
namespace Go.Nm
abbrev U : Nat := 18446744073709551616

theorem retInt {k : IntKind} {a b : Int} (h : a = b) : Ending.returned (.int k a) = .returned (.int k b) := by rw [h]
theorem retInt2 {k j : IntKind} {a b c d : Int} (h : a = b) (g : c = d) : Ending.returned (.tuple #[.int k a, .int j c]) = .returned (.tuple #[.int k b, .int j d]) := by rw [h, g]

theorem wrapU (n : Nat) : IntKind.u64.wrap (n : Int) = ((n % U : Nat) : Int) := by
  rw [IntKind.wrap_u64]; show (n : Int) % 18446744073709551616 = ((n % 18446744073709551616 : Nat) : Int); omega
theorem wrapU_add (a b : Nat) : IntKind.u64.wrap ((a : Int) + (b : Int)) = (((a + b) % U : Nat) : Int) := by rw [← wrapU]; simp
theorem wrapU_mul (a b : Nat) : IntKind.u64.wrap ((a : Int) * (b : Int)) = (((a * b) % U : Nat) : Int) := by rw [← wrapU]; simp
theorem orU {a b : Nat} (ha : a < U) (hb : b < U) : bits .or .u64 (a : Int) (b : Int) = ((a ||| b : Nat) : Int) := u64_or_nat a b ha hb
theorem andU {a b : Nat} (ha : a < U) (hb : b < U) : bits .and .u64 (a : Int) (b : Int) = ((a &&& b : Nat) : Int) := u64_and_nat a b ha hb
theorem xorU {a b : Nat} (ha : a < U) (hb : b < U) : bits .xor .u64 (a : Int) (b : Int) = ((a ^^^ b : Nat) : Int) := u64_xor_nat a b ha hb
theorem or_lt {a b : Nat} (ha : a < U) (hb : b < U) : a ||| b < U := Nat.or_lt_two_pow (n := 64) ha hb
theorem xor_lt {a b : Nat} (ha : a < U) (hb : b < U) : a ^^^ b < U := Nat.xor_lt_two_pow (n := 64) ha hb
theorem and_lt {a b : Nat} (ha : a < U) : a &&& b < U := Nat.lt_of_le_of_lt Nat.and_le_left ha

def uadd (a b : Nat) : Nat := (a + b) % U
theorem uadd_lt (a b : Nat) : uadd a b < U := Nat.mod_lt _ (by decide)
theorem uadd_eq (a b : Nat) : IntKind.u64.wrap ((a : Int) + (b : Int)) = ((uadd a b : Nat) : Int) := wrapU_add a b

def rotl (x k : Nat) : Nat := x * 2 ^ k % U ||| x / 2 ^ (64 - k)
theorem shr_lt {x : Nat} (hx : x < U) (k : Nat) : x / 2 ^ k < U := Nat.lt_of_le_of_lt (Nat.div_le_self _ _) hx
theorem rotl_lt {x : Nat} (hx : x < U) (k : Nat) : rotl x k < U := or_lt (Nat.mod_lt _ (by decide)) (shr_lt hx _)
theorem rotl_eq {x : Nat} (hx : x < U) (k : Nat) : bits .or .u64 (IntKind.u64.wrap ((x : Int) * 2 ^ k)) ((x : Int) / 2 ^ (64 - k)) = ((rotl x k : Nat) : Int) := by
  have h1 : ((x : Int) * 2 ^ k) = (x : Int) * ((2 ^ k : Nat) : Int) := by simp
  have h2 : ((x : Int) / 2 ^ (64 - k)) = ((x / 2 ^ (64 - k) : Nat) : Int) := by simp
  rw [h1, wrapU_mul, h2, orU (Nat.mod_lt _ (by decide)) (shr_lt hx _)]; rfl
end Go.Nm
