/- SipHash: the program's functions compute the model's. -/
import Derived.Test.YtiopkkjcgdcgmaaDoorBs
import Derived.Test.YtiopkkjcgdcgmaaDoorNm
import Derived.Test.YtiopkkjcgdcgmaaDoorProg
namespace Go.Proofs.YtiopkkjcgdcgmaaDoor
open Go.RowKit Go.Rg Go.Nm
set_option maxHeartbeats 1000000

structure V4 where
  a : Nat
  b : Nat
  c : Nat
  d : Nat
def V4.ok (v : V4) : Prop := v.a < U ∧ v.b < U ∧ v.c < U ∧ v.d < U
def V4.cs (v : V4) : Array Value := #[.int .u64 v.a, .int .u64 v.b, .int .u64 v.c, .int .u64 v.d]
def V4.val (v : V4) : Value := .agg v.cs
def hf2 (a b k : Nat) : Nat := rotl b k ^^^ uadd a b
theorem hf2_lt {b : Nat} (hb : b < U) (a k : Nat) : hf2 a b k < U := xor_lt (rotl_lt hb _) (uadd_lt _ _)
def V4.round (v : V4) : V4 :=
  let a := uadd v.a v.b
  let b := hf2 v.a v.b 13
  let a := rotl a 32
  let c := uadd v.c v.d
  let d := hf2 v.c v.d 16
  let a' := uadd a d
  let d' := hf2 a d 21
  let c' := uadd c b
  let b' := hf2 c b 17
  ⟨a', b', rotl c' 32, d'⟩
theorem V4.round_ok {v : V4} (h : v.ok) : v.round.ok := by
  obtain ⟨h1, h2, h3, h4⟩ := h
  exact ⟨uadd_lt _ _, hf2_lt (hf2_lt h2 _ _) _ _, rotl_lt (uadd_lt _ _) _, hf2_lt (hf2_lt h4 _ _) _ _⟩

theorem rot_w (x k : Nat) (hx : x < U) (h0 : 0 < k) (hk : k < 64) (w : World) : Calls Tryd.prog 127 #[.int .u64 x, .int .i64 k] w fun e w' => e = .returned (.int .u64 (rotl x k : Nat)) ∧ w = w' := by
  have hb : bits .and .u64 (k : Int) 63 = (k : Int) := by
    have := u64_and_nat k 63 (by omega) (by omega)
    rw [nat_mask6] at this
    rw [show (63 : Int) = ((63 : Nat) : Int) from rfl, this, Nat.mod_eq_of_lt hk]
  go_enter Tryd.func127, Tryd.ntmps127
  go_wp2
  go_ret
  exact ⟨retInt (rotl_eq hx k), rfl⟩

theorem half_w (a b k : Nat) (hb : b < U) (h0 : 0 < k) (hk : k < 64) (w : World) :
    Calls Tryd.prog 126 #[.int .u64 a, .int .u64 b, .int .i64 k] w fun e w' => e = .returned (.tuple #[.int .u64 (uadd a b : Nat), .int .u64 (hf2 a b k : Nat)]) ∧ w = w' := by
  go_enter Tryd.func126, Tryd.ntmps126
  go_wp2_with (go_at_call 127; refine (rot_w b k hb h0 hk _).mono ?_; rintro e w' ⟨rfl, rfl⟩)
  go_ret2
  refine ⟨retInt2 (uadd_eq a b) ?_, rfl⟩
  rw [uadd_eq a b]
  exact xorU (rotl_lt hb _) (uadd_lt _ _)

theorem split_w (h : Nat) (hh : h < U) (w : World) :
    Calls Tryd.prog 98 #[.int .u64 h] w fun e w' => e = .returned (.tuple #[.int .u64 (h / 128 : Nat), .int .u8 (h % 128 : Nat)]) ∧ w = w' := by
  go_enter Tryd.func98, Tryd.ntmps98
  go_wp2
  go_ret2
  refine ⟨retInt2 (by simp) ?_, rfl⟩
  have := andU (a := h) (b := 127) hh (by decide)
  rw [nat_mask7] at this
  rw [show (127 : Int) = ((127 : Nat) : Int) from rfl, this]; omega

theorem round_w (v : V4) (hv : v.ok) (w : World) : Calls Tryd.prog 113 #[v.val] w fun e w' => e = .returned v.round.val ∧ Ext w w' := by
  obtain ⟨a, b, c, d⟩ := v
  obtain ⟨ha, hb, hc, hd⟩ := hv
  simp only at ha hb hc hd
  unfold V4.val V4.cs
  go_enter Tryd.func113, Tryd.ntmps113
  go_wp2_with fail
  refine (half_w a b 13 hb (by omega) (by omega) _).mono ?_
  rintro e w1 ⟨rfl, rfl⟩
  go_wp2_with fail
  refine (rot_w (uadd a b) 32 (uadd_lt _ _) (by omega) (by omega) _).mono ?_
  rintro e w1 ⟨rfl, rfl⟩
  go_wp2_with fail
  refine (half_w c d 16 hd (by omega) (by omega) _).mono ?_
  rintro e w1 ⟨rfl, rfl⟩
  go_wp2_with fail
  refine (half_w (rotl (uadd a b) 32) (hf2 c d 16) 21 (hf2_lt hd _ _) (by omega) (by omega) _).mono ?_
  rintro e w1 ⟨rfl, rfl⟩
  go_wp2_with fail
  refine (half_w (uadd c d) (hf2 a b 13) 17 (hf2_lt hb _ _) (by omega) (by omega) _).mono ?_
  rintro e w1 ⟨rfl, rfl⟩
  go_wp2_with fail
  refine (rot_w (uadd (uadd c d) (hf2 a b 13)) 32 (uadd_lt _ _) (by omega) (by omega) _).mono ?_
  rintro e w1 ⟨rfl, rfl⟩
  go_wp2
  refine bodyPost_ret (v := V4.val (V4.round ⟨a, b, c, d⟩)) (by simp [results, Tryd.results113, go_sem]; rfl) rfl ⟨rfl, ?_⟩
  exact Kp.alloc (Ext.alloc _ _) _

/-- The same, its four numbers by name. -/
theorem round_n (v : V4) (hv : v.ok) (w : World) : Calls Tryd.prog 113 #[v.val] w fun e w' =>
    ∃ a b c d : Nat, Hid (V4.mk a b c d = v.round) ∧ (a < U ∧ b < U ∧ c < U ∧ d < U) ∧ e = .returned (.agg #[.int .u64 a, .int .u64 b, .int .u64 c, .int .u64 d]) ∧ Ext w w' :=
  (round_w v hv w).mono fun _ _ ⟨he, hE⟩ => ⟨v.round.a, v.round.b, v.round.c, v.round.d, rfl, V4.round_ok hv, he, hE⟩

def wordL : List UInt8 → Nat
  | [] => 0
  | b :: l => b.toNat + 256 * wordL l
theorem wordL_lt : ∀ l : List UInt8, wordL l < 256 ^ l.length
  | [] => by simp [wordL]
  | b :: l => by
    have := wordL_lt l
    have hb := b.toNat_lt
    simp only [wordL, List.length_cons, Nat.pow_succ]
    omega
theorem word_step {u b : Nat} (hu : u < 72057594037927936) (hb : b < 256) : bits .or .u64 ((u : Int) * 256) (b : Int) = ((b + 256 * u : Nat) : Int) := by
  rw [show ((u : Int) * 256) = ((u * 256 : Nat) : Int) by simp, orU (by show _ < 18446744073709551616; omega) (by show _ < 18446744073709551616; omega)]
  rw [nat_join 8 (u * 256) b (by omega) (by omega)]; omega

theorem word_w (s : ByteArray) (hs : s.size ≤ 8) (w : World) : Calls Tryd.prog 114 #[.string s] w fun e w' => e = .returned (.int .u64 (wordL s.data.toList : Nat)) ∧ w = w' := by
  have hsl : s.data.toList.length = s.size := by simp
  go_enter Tryd.func114, Tryd.ntmps114
  go_wp2
  go_loop [3, 4] (fun u i => ∃ k : Nat, k ≤ s.size ∧ i = .int .i64 ((k : Int) - 1) ∧ u = .int .u64 (wordL (s.data.toList.drop k) : Nat)) (fun _ i => (intOf i + 1).toNat)
  case atStart => exact ⟨s.size, Nat.le_refl _, rfl, by rw [← hsl, List.drop_length]; rfl⟩
  case round =>
    obtain ⟨k, hk, rfl, rfl⟩ := hrel
    cases k with
    | zero =>
      go_wp2
      go_ret
      exact ⟨rfl, rfl⟩
    | succ k =>
      have hlt : k < s.size := by omega
      have hw := wordL_lt (s.data.toList.drop (k + 1))
      have hu : wordL (s.data.toList.drop (k + 1)) < 72057594037927936 := by
        refine Nat.lt_of_lt_of_le hw ?_
        rw [List.length_drop, hsl]
        exact Nat.pow_le_pow_right (n := 256) (j := 7) (by decide) (by omega)
      clear hw
      have H : Hid (wordL (s.data.toList.drop k) = s[k].toNat + 256 * wordL (s.data.toList.drop (k + 1))) := by
        rw [List.drop_eq_getElem_cons (by rw [hsl]; exact hlt)]; rfl
      go_wp2
      refine ⟨⟨k, by omega, rfl, ?_⟩, by simp [intOf]⟩
      rw [H.out, wrapU, Nat.mod_eq_of_lt (Nat.lt_trans (UInt8.toNat_lt _) (by decide)), word_step hu (UInt8.toNat_lt _)]

def V4.take (v : V4) (m : Nat) : V4 :=
  let r := (V4.round (V4.round { v with d := v.d ^^^ m }))
  { r with a := r.a ^^^ m }
theorem V4.take_ok {v : V4} (h : v.ok) {m : Nat} (hm : m < U) : (v.take m).ok := by
  obtain ⟨h1, h2, h3, h4⟩ := h
  obtain ⟨k1, k2, k3, k4⟩ := V4.round_ok (V4.round_ok (v := { v with d := v.d ^^^ m }) ⟨h1, h2, h3, xor_lt h4 hm⟩)
  exact ⟨xor_lt k1 hm, k2, k3, k4⟩
theorem cs_get (v : V4) : v.cs[0]? = some (.int .u64 v.a) ∧ v.cs[1]? = some (.int .u64 v.b) ∧ v.cs[2]? = some (.int .u64 v.c) ∧ v.cs[3]? = some (.int .u64 v.d) := ⟨rfl, rfl, rfl, rfl⟩

theorem take_w (v : V4) (hv : v.ok) (m : Nat) (hm : m < U) (bv : Nat) (w : World) (hA : At w bv v.cs 152) :
    Calls Tryd.prog 112 #[.int .u64 m, .int .i64 0, .int .i64 3, .pointer (some ⟨bv, 0, none⟩)] w fun e w' => e = .returned (.tuple #[]) ∧ Kp (· = bv) w w' ∧ At w' bv (v.take m).cs 152 := by
  obtain ⟨a, b, c, d⟩ := v
  obtain ⟨ha, hb, hc, hd⟩ := hv
  simp only at ha hb hc hd
  have c0 : w.cell? ⟨bv, 0, none⟩ = some (.int .u64 a) := hA.cell rfl
  have c1 : w.cell? ⟨bv, 1, none⟩ = some (.int .u64 b) := hA.cell rfl
  have c2 : w.cell? ⟨bv, 2, none⟩ = some (.int .u64 c) := hA.cell rfl
  have c3 : w.cell? ⟨bv, 3, none⟩ = some (.int .u64 d) := hA.cell rfl
  have f0 := hA.frozen 0
  have f1 := hA.frozen 1
  have f2 := hA.frozen 2
  have f3 := hA.frozen 3
  have hx : bits .xor .u64 (d : Int) (m : Int) = ((d ^^^ m : Nat) : Int) := xorU hd hm
  go_enter Tryd.func112, Tryd.ntmps112
  go_wp2_with fail
  have hA1 : At (w.setCell ⟨bv, 3, none⟩ (.int .u64 ((d ^^^ m : Nat) : Int))) bv (V4.cs ⟨a, b, c, d ^^^ m⟩) 152 := hA.set 3 _
  refine (round_n ⟨a, b, c, d ^^^ m⟩ ⟨ha, hb, hc, xor_lt hd hm⟩ _).mono ?_
  rintro e w1 ⟨p1, q1, r1, s1, H1, ⟨ha1, hb1, hr1, hs1⟩, rfl, hE1⟩
  go_wp2_with fail
  refine (round_n ⟨p1, q1, r1, s1⟩ ⟨ha1, hb1, hr1, hs1⟩ _).mono ?_
  rintro e w2 ⟨p2, q2, r2, s2, H2, ⟨hp2, hq2, hr2, hs2⟩, rfl, hE2⟩
  have hA2 := At.ext hE2 (At.ext hE1 hA1)
  have hK : Kp (fun k => k = bv) w w2 := ((Kp.refl (fun k => k = bv) w).setCell (a := ⟨bv, 3, none⟩) (.inl rfl) _).trans ((Ext.trans _ _ _ hE1 hE2).kp)
  clear hA hA1 hE1 hE2 c0 c1 c2 c3 f0 f1 f2 f3 hx
  have c0 : w2.cell? ⟨bv, 0, none⟩ = some (.int .u64 a) := hA2.cell rfl
  have c1 : w2.cell? ⟨bv, 1, none⟩ = some (.int .u64 b) := hA2.cell rfl
  have c2 : w2.cell? ⟨bv, 2, none⟩ = some (.int .u64 c) := hA2.cell rfl
  have c3 : w2.cell? ⟨bv, 3, none⟩ = some (.int .u64 (d ^^^ m : Nat)) := hA2.cell rfl
  have f0 := hA2.frozen 0
  have f1 := hA2.frozen 1
  have f2 := hA2.frozen 2
  have f3 := hA2.frozen 3
  have hx : bits .xor .u64 (p2 : Int) (m : Int) = ((p2 ^^^ m : Nat) : Int) := xorU hp2 hm
  go_wp2
  go_end0
  have ht : V4.take ⟨a, b, c, d⟩ m = ⟨p2 ^^^ m, q2, r2, s2⟩ := by
    unfold V4.take; simp only; rw [← H1.out, ← H2.out]
  rw [ht]
  exact ⟨rfl, ((((hK.setCell (.inl rfl) _).setCell (.inl rfl) _).setCell (.inl rfl) _).setCell (.inl rfl) _).setCell (.inl rfl) _, ((((hA2.set 0 _).set 1 _).set 2 _).set 3 _).set 0 _⟩
end Go.Proofs.YtiopkkjcgdcgmaaDoor
