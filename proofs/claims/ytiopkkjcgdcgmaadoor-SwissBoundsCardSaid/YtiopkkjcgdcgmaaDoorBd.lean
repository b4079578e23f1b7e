/- SwissBounds: the plain law and the walk. -/
import Derived.Test.YtiopkkjcgdcgmaaDoorLw
import Derived.Test.YtiopkkjcgdcgmaaDoorFw5
namespace Go.Proofs.YtiopkkjcgdcgmaaDoor.s
open Go.RowKit Go.Rg Go.Nm Go.Gp Go.Mp
set_option maxHeartbeats 1000000
set_option maxRecDepth 20000
/-- How many slots of the first k groups have such a byte. -/
def cntTo (m : M ByteArray) (p : Nat → Bool) (k : Nat) : Nat := (List.range (8 * k)).countP fun i => p (m.ctl i)
theorem cntTo_succ (m : M ByteArray) (p : Nat → Bool) (k : Nat) : cntTo m p (k + 1) = cntTo m p k + ((List.range 8).filter fun i => p (byteAt (m.w k) i)).length := by
  unfold cntTo
  rw [show 8 * (k + 1) = 8 * k + 8 by omega, List.range_add, List.countP_append]
  congr 1
  rw [List.countP_map, List.countP_eq_length_filter]
  congr 1
  refine List.filter_congr fun i hi => ?_
  simp only [Function.comp_apply, ctl_eq m k i (List.mem_range.1 hi)]
theorem cntTo_le (m : M ByteArray) (p : Nat → Bool) (k : Nat) : cntTo m p k ≤ 8 * k := by
  unfold cntTo
  have := List.countP_le_length (p := fun i => p (m.ctl i)) (l := List.range (8 * k))
  simpa using this
theorem countP_or {α : Type} (p q : α → Bool) (l : List α) (h : ∀ x ∈ l, p x = true → q x = false) : l.countP (fun x => p x || q x) = l.countP p + l.countP q := by
  induction l with
  | nil => rfl
  | cons x l ih =>
    have := ih fun y hy => h y (List.mem_cons_of_mem _ hy)
    simp only [List.countP_cons]
    have hx := h x List.mem_cons_self
    cases hp : p x <;> cases hq : q x <;> simp_all <;> omega
theorem cnt_free (m : M ByteArray) (k : Nat) : cntTo m (fun x => x == 128 || x == 254) k = cntTo m (fun x => x == 128) k + cntTo m (fun x => x == 254) k := by
  unfold cntTo
  exact countP_or (fun i => m.ctl i == 128) (fun i => m.ctl i == 254) _ fun i _ h => by simp at h ⊢; omega
theorem bits_free {x : Nat} (hx : x < U) : bitsOf (freeN x) = (List.range 8).filter fun i => byteAt x i == 128 || byteAt x i == 254 := by
  unfold bitsOf
  refine List.filter_congr fun i hi => ?_
  have h8 := List.mem_range.1 hi
  have : (freeN x / 2 ^ i % 2 == 1) = (freeN x).testBit i := by rw [Nat.testBit_eq_decide_div_mod_eq]; rfl
  rw [this]
  show (matchN x 128 ||| matchN x 254).testBit i = _
  rw [Nat.testBit_or, match_mask hx (by decide), match_mask hx (by decide), bit_mask _ h8, bit_mask _ h8]
theorem freeN_lt {x : Nat} (hx : x < U) : freeN x < 256 := by
  show matchN x 128 ||| matchN x 254 < 256
  rw [match_mask hx (by decide), match_mask hx (by decide)]
  exact Nat.or_lt_two_pow (n := 8) (mask_lt _) (mask_lt _)
theorem bits_le (s : Nat) : (bitsOf s).length ≤ 8 := List.length_filter_le _ _
theorem cnt_full (m : M ByteArray) (j : Nat) : Hid (cntTo m (fun x => decide (x < 128)) (j + 1) = cntTo m (fun x => decide (x < 128)) j + (bitsOf (mask fun i => decide (byteAt (m.w j) i < 128))).length) :=
  Lib.hid (by rw [cntTo_succ, Go.Gp.bits_mask])
theorem cnt_empty (m : M ByteArray) (j : Nat) : Hid (cntTo m (fun x => x == 128) (j + 1) = cntTo m (fun x => x == 128) j + (bitsOf (mask fun i => byteAt (m.w j) i == 128)).length) :=
  Lib.hid (by rw [cntTo_succ, Go.Gp.bits_mask])
theorem cnt_fre (m : M ByteArray) (j : Nat) (h : m.w j < U) : Hid (cntTo m (fun x => x == 128) (j + 1) + cntTo m (fun x => x == 254) (j + 1) = cntTo m (fun x => x == 128) j + cntTo m (fun x => x == 254) j + (bitsOf (freeN (m.w j))).length) :=
  Lib.hid (by rw [bits_free h, ← cnt_free, ← cnt_free, cntTo_succ])
theorem SwissBounds_w (k0 k1 : Nat) (h0 : k0 < U) (h1 : k1 < U) (l : List Act) (hll : l.length ≤ maxLen) (v : Value) (w : World) (hv : Ac w v l) (hSh : Sh w) :
    Calls Tryd.prog 6 #[.agg #[.int .u64 k0, .int .u64 k1], v] w fun e w' => e = .returned (.bool true) ∧ Ext w w' := by
  have hL := fun w' (h : Ext w w') => i.lives_w w' (hSh.kp h (fun f => f))
  have hfew := fun w1 (h : Ext w w1) => few5_w l v w1 (hv.ext h) hll
  obtain ⟨p, ca, rfl, hca⟩ := id hv
  unfold maxLen at hll
  obtain ⟨n, hn⟩ : ∃ n, Hid (l.length = n) := ⟨_, Lib.hid rfl⟩
  rw [hn.out] at hll hfew ⊢
  have hN := fun w => New_w k0 k1 0 w
  rw [show need 0 = 1 from rfl] at hN
  have hm0 := made_inv (α := ByteArray) h0 h1 i.pw1
  have hn0 : (made (α := ByteArray) k0 k1 1).n = 0 := rfl
  have hk0 : (w.alloc (.cells #[.int .u64 k0, .int .u64 k1] 24)).cell? ⟨w.heap.size, 0, none⟩ = some (.int .u64 k0) := (At.new _ _ _).cell rfl
  have hk1 : (w.alloc (.cells #[.int .u64 k0, .int .u64 k1] 24)).cell? ⟨w.heap.size, 1, none⟩ = some (.int .u64 k1) := (At.new _ _ _).cell rfl
  have hE0 := Ext.alloc w (.cells #[.int .u64 k0, .int .u64 k1] 24)
  generalize (made k0 k1 1 : M ByteArray) = m0 at *
  have HN0 := Lib.hid hn0
  clear hn0 hv
  go_enter Tryd.func6, Tryd.ntmps6
  go_wp2_with (go_at_call 13; refine (hN _).mono ?_; rintro e w1 (⟨h, _⟩ | ⟨_, f0, rfl, hI, hNw⟩); exact absurd h (by decide); have hO := new_o hE0 hI hm0 hNw; clear hN hk0 hk1 hE0 hI hNw)
  have hfw := hfew _ hO.ext
  refine hfw.mono ?_
  rintro e w2 ⟨bb, rfl, hE2, HF⟩
  clear hfw hfew
  have hO1 := hO.next hE2
  clear hO hE2
  cases bb with
  | false =>
    go_wp2_with (go_at_call 15; refine (hL _ hO1.ext).mono ?_; rintro e w3 ⟨rfl, hE3⟩)
    go_ret
    exact ⟨rfl, Ext.trans _ _ _ hO1.ext hE3⟩
  | true =>
    obtain ⟨hl6, hsz⟩ := HF.out rfl
    rw [hn.out] at hl6
    clear HF hll
    go_wp2_with fail
    obtain ⟨b, hb⟩ : ∃ b, f0.b = b := ⟨_, rfl⟩
    rw [hb]
    have HB := Lib.hid hb
    clear hb
    have HSZ := Lib.hid hsz
    clear hsz
    go_loopw [36] (fun i wr => ∃ (k : Nat) (f : Ft) (m : M ByteArray), k ≤ n ∧ i = .int .i64 k ∧ Hid (f.b = b) ∧ Ow w wr f m ∧ m.n ≤ k) (fun i _ => n - (intOf i).toNat)
    case atStart => exact ⟨0, f0, m0, by omega, rfl, HB, hO1, by rw [HN0.out]; decide⟩
    case round =>
      clear hO1 HB HN0
      obtain ⟨k, f, m, hk, rfl, HB, hO, hmn⟩ := hrel
      by_cases hlt : k < n
      · obtain ⟨a, ha⟩ : ∃ a, l[k]? = some a := ⟨l[k]'(by rw [hn.out]; exact hlt), by simp [hn.out, hlt]⟩
        obtain ⟨hs1, hs2, b1, o1, rfl, c0, c1, c2⟩ := hca k a ha
        have d0 := hO.ext.cell c0
        have d1 := hO.ext.cell c1
        have d2 := hO.ext.cell c2
        clear ha c0 c1 c2 hca
        obtain ⟨kd, ky, vl⟩ := a
        simp only at hs1 hs2 d0 d1 d2
        have hky : ky.size ≤ maxLen := Nat.le_trans hs1 (by decide)
        have hOa := hO.alloc (.cells #[.int .i64 kd, .string ky, .string vl] 32)
        clear hO
        by_cases hkd : kd = 1
        · subst hkd
          have hdel := del_o hOa hSh ky hky
          rw [HB.out] at hdel
          go_wp2_with (go_at_call 16; refine hdel.mono ?_; rintro e w4 ⟨rfl, hO2, hp, _⟩)
          have hn2 : (del m ky).1.n ≤ (k : Int) + 1 := by rw [hp.n]; split <;> omega
          have HB2 := HB
          generalize (del m ky).1 = m2 at *
          generalize f = f2 at *
          clear hp hdel hOa
          have hsz2 := hO2.ext.size
          have hctl := ctl_o hO2
          have hlen := fun w1 (h : Ow w w1 f2 m2) => len_o h
          have htom := fun w1 (h : Ow w w1 f2 m2) => tombs_o h
          have hctl2 := fun w1 (h : Ow w w1 f2 m2) => ctl_o h
          have hkey := fun w1 (h : Ow w w1 f2 m2) => keys_o h
          have hkl := keys_length hO2.inv
          have hb2' := HB2.out
          rw [hb2'] at hctl hlen htom hctl2 hkey
          clear hb2'
          have hwU := hO2.inv.w
          have hroom := hO2.inv.room
          have hpl := hO2.inv.pw.le
          have hnF : m2.n = (cntTo m2 (fun x => decide (x < 128)) m2.ws.length : Nat) := hO2.inv.n
          have hnT : m2.t = (cntTo m2 (fun x => x == 254) m2.ws.length : Nat) := hO2.inv.t
          obtain ⟨G, hG⟩ : ∃ G, Hid (m2.ws.length = G) := ⟨_, Lib.hid rfl⟩
          rw [hG.out] at hctl hctl2 hroom hpl hnF hnT
          have HnF := Lib.hid hnF
          have HnT := Lib.hid hnT
          have HKL := Lib.hid hkl
          clear hnF hnT hkl hroom
          go_wp2_with (go_at_call 31; refine hctl.mono ?_; rintro e w3 ⟨pc, cc, rfl, hown, hO3, hE3⟩)
          have hSl : Sl w3 (.slice pc G cc) (m2.ws.map u64V) := Sl.row hown
          clear hown hctl
          go_loopw [8, 9, 10, 54] (fun v8 v9 v10 i wr => ∃ (j a e r : Nat), j ≤ G ∧ i = .int .i64 j ∧ a ≤ 8192 ∧ e ≤ 8192 ∧ r ≤ 16384 ∧ v8 = .int .i64 a ∧ v9 = .int .i64 r ∧ v10 = .int .i64 e ∧
              Hid (a = cntTo m2 (fun x => decide (x < 128)) j ∧ e = cntTo m2 (fun x => x == 128) j ∧ r = cntTo m2 (fun x => x == 128) j + cntTo m2 (fun x => x == 254) j) ∧ Ow w wr f2 m2 ∧ Ext w3 wr) (fun _ _ _ i _ => G - (intOf i).toNat)
          case atStart => exact ⟨0, 0, 0, 0, by omega, rfl, by omega, by omega, by omega, rfl, rfl, rfl, Lib.hid ⟨rfl, rfl, rfl⟩, hO3, Ext.refl _⟩
          case round =>
            clear hO3
            obtain ⟨j, a, e, r, hj, rfl, ha8, he8, hr8, rfl, rfl, rfl, HC, hO4, hE4⟩ := hrel
            by_cases hlj : j < G
            · have hws : m2.ws[j]? = some (m2.w j) := by
                unfold M.w
                rw [List.getD_eq_getElem?_getD, List.getElem?_eq_getElem (by rw [hG.out]; exact hlj)]; rfl
              obtain ⟨p', c', ee, hc⟩ := id hSl
              obtain rfl : pc = p' := by injection ee
              obtain ⟨b3, o3, rfl, hc3⟩ := hc j (u64V (m2.w j)) (by rw [List.getElem?_map, hws]; rfl)
              clear hc ee hws
              unfold u64V at hc3
              have hc4 := hE4.cell hc3
              have hxU := M.w_lt hwU j
              have HS3 := Lib.hid (cntTo_succ m2 (fun x => x == 254) j)
              obtain ⟨x, hx⟩ : ∃ x, Hid (m2.w j = x) := ⟨_, Lib.hid rfl⟩
              have HS1 := cnt_full m2 j
              have HS2 := cnt_empty m2 j
              have HS4 := cnt_fre m2 j hxU
              rw [hx.out] at hc4 hxU HS1 HS2 HS3 HS4
              have r1 := rfull_w x
              have r2 := rfree_w x hxU
              have r3 := rmatch_w x 128
              have z1 := mask_lt (fun i => decide (byteAt x i < 128))
              have z2 := mask_lt (fun i => byteAt x i == 128)
              have z3 := freeN_lt hxU
              generalize (mask fun i => decide (byteAt x i < 128)) = mF at *
              generalize (mask fun i => byteAt x i == 128) = mE at *
              generalize freeN x = mR at *
              have q1 := bits_le mF
              have q2 := bits_le mE
              have q3 := bits_le mR
              obtain ⟨nF, hnF⟩ : ∃ z, Hid ((bitsOf mF).length = z) := ⟨_, Lib.hid rfl⟩
              obtain ⟨nE, hnE⟩ : ∃ z, Hid ((bitsOf mE).length = z) := ⟨_, Lib.hid rfl⟩
              obtain ⟨nR, hnR⟩ : ∃ z, Hid ((bitsOf mR).length = z) := ⟨_, Lib.hid rfl⟩
              have hF := rcount_w mF z1
              have hE := rcount_w mE z2
              have hR := rcount_w mR z3
              rw [hnF.out] at hF q1 HS1
              rw [hnE.out] at hE q2 HS2
              rw [hnR.out] at hR q3 HS4
              go_wp2_with (first
                | (go_at_call 33; refine (r1 _).mono ?_; rintro e5 w5 ⟨rfl, rfl⟩)
                | (go_at_call 34; refine (r2 _).mono ?_; rintro e5 w5 ⟨rfl, rfl⟩)
                | (go_at_call 35; refine (r3 _).mono ?_; rintro e5 w5 ⟨rfl, rfl⟩)
                | (go_at_call 32; (with_reducible refine (hF _).mono ?_); rintro e5 w5 ⟨rfl, rfl⟩)
                | (go_at_call 32; (with_reducible refine (hE _).mono ?_); rintro e5 w5 ⟨rfl, rfl⟩)
                | (go_at_call 32; (with_reducible refine (hR _).mono ?_); rintro e5 w5 ⟨rfl, rfl⟩))
              have k1 := cntTo_le m2 (fun x => decide (x < 128)) (j + 1)
              have k2 := cntTo_le m2 (fun x => x == 128) (j + 1)
              have k3 := cntTo_le m2 (fun x => x == 254) (j + 1)
              have e1 := HS1.out
              have e2 := HS2.out
              have e4 := HS4.out
              obtain ⟨ca1, ca2, ca3⟩ := HC.out
              refine ⟨⟨j + 1, a + nF, e + nE, r + nR, by omega, by go_num, by omega, by omega, by omega, by go_num, by go_num, by go_num, Lib.hid ⟨by omega, by omega, by omega⟩, hO4, hE4⟩, by simp [intOf]; omega⟩
            · obtain rfl : j = G := by omega
              obtain ⟨ca1, ca2, ca3⟩ := HC.out
              have hna : m2.n = (a : Nat) := by rw [HnF.out, ← ca1]
              have hkla : (keys m2).length = a := by have := HKL.out; omega
              have hle := hO4.inv.room
              rw [hG.out] at hle
              obtain ⟨tt, htt⟩ : ∃ tt, Hid (cntTo m2 (fun x => x == 254) j = tt) := ⟨_, Lib.hid rfl⟩
              have hta : m2.t = (tt : Nat) := by rw [HnT.out, htt.out]
              rw [htt.out] at ca3
              rw [hna] at hlen hle hn2
              rw [hta] at htom hle
              rw [hkla] at hkey
              have hre : ((r : Int) - (e : Int)) = (tt : Int) := by omega
              have HNA := Lib.hid hna
              clear ca1 ca2 ca3 hna hkla hta HC hSl
              go_wp2_with (first
                | (go_at_call 18; refine (hlen _ hO4).mono ?_; rintro e5 w5 ⟨rfl, rfl⟩)
                | (go_at_call 36; refine (htom _ hO4).mono ?_; rintro e5 w5 ⟨rfl, rfl⟩)
                | (go_at_call 31; refine (hctl2 _ hO4).mono ?_; rintro e5 w5 ⟨p5, c5, rfl, _, hO5, _⟩; clear hO4)
                | (go_at_call 30; refine (hkey _ hO5).mono ?_; rintro e6 w6 ⟨p6, c6, rfl, _, hO6, _⟩; clear hO5))
              exact ⟨⟨k + 1, f2, m2, by omega, by go_num, HB2, hO6, by rw [HNA.out]; exact hn2⟩, by simp [intOf]; omega⟩
        · have hkb : ((kd : Int) == 1) = false := by simpa using hkd
          have hput := put_o hOa hSh ky hky ByteArray.empty (by omega)
          rw [HB.out] at hput
          unfold enc at hput
          go_wp2_with (go_at_call 17; refine hput.mono ?_; rintro e w4 ⟨rfl, f2, hF2, hO2, hp, _⟩)
          have hn2 : (put m ky ByteArray.empty).1.n ≤ (k : Int) + 1 := by rw [hp.n]; split <;> omega
          have HB2 := Lib.hid (hF2.1.trans HB.out)
          generalize (put m ky ByteArray.empty).1 = m2 at *
          clear hp hput hOa hF2
          have hsz2 := hO2.ext.size
          have hctl := ctl_o hO2
          have hlen := fun w1 (h : Ow w w1 f2 m2) => len_o h
          have htom := fun w1 (h : Ow w w1 f2 m2) => tombs_o h
          have hctl2 := fun w1 (h : Ow w w1 f2 m2) => ctl_o h
          have hkey := fun w1 (h : Ow w w1 f2 m2) => keys_o h
          have hkl := keys_length hO2.inv
          have hb2' := HB2.out
          rw [hb2'] at hctl hlen htom hctl2 hkey
          clear hb2'
          have hwU := hO2.inv.w
          have hroom := hO2.inv.room
          have hpl := hO2.inv.pw.le
          have hnF : m2.n = (cntTo m2 (fun x => decide (x < 128)) m2.ws.length : Nat) := hO2.inv.n
          have hnT : m2.t = (cntTo m2 (fun x => x == 254) m2.ws.length : Nat) := hO2.inv.t
          obtain ⟨G, hG⟩ : ∃ G, Hid (m2.ws.length = G) := ⟨_, Lib.hid rfl⟩
          rw [hG.out] at hctl hctl2 hroom hpl hnF hnT
          have HnF := Lib.hid hnF
          have HnT := Lib.hid hnT
          have HKL := Lib.hid hkl
          clear hnF hnT hkl hroom
          go_wp2_with (go_at_call 31; refine hctl.mono ?_; rintro e w3 ⟨pc, cc, rfl, hown, hO3, hE3⟩)
          have hSl : Sl w3 (.slice pc G cc) (m2.ws.map u64V) := Sl.row hown
          clear hown hctl
          go_loopw [8, 9, 10, 54] (fun v8 v9 v10 i wr => ∃ (j a e r : Nat), j ≤ G ∧ i = .int .i64 j ∧ a ≤ 8192 ∧ e ≤ 8192 ∧ r ≤ 16384 ∧ v8 = .int .i64 a ∧ v9 = .int .i64 r ∧ v10 = .int .i64 e ∧
              Hid (a = cntTo m2 (fun x => decide (x < 128)) j ∧ e = cntTo m2 (fun x => x == 128) j ∧ r = cntTo m2 (fun x => x == 128) j + cntTo m2 (fun x => x == 254) j) ∧ Ow w wr f2 m2 ∧ Ext w3 wr) (fun _ _ _ i _ => G - (intOf i).toNat)
          case atStart => exact ⟨0, 0, 0, 0, by omega, rfl, by omega, by omega, by omega, rfl, rfl, rfl, Lib.hid ⟨rfl, rfl, rfl⟩, hO3, Ext.refl _⟩
          case round =>
            clear hO3
            obtain ⟨j, a, e, r, hj, rfl, ha8, he8, hr8, rfl, rfl, rfl, HC, hO4, hE4⟩ := hrel
            by_cases hlj : j < G
            · have hws : m2.ws[j]? = some (m2.w j) := by
                unfold M.w
                rw [List.getD_eq_getElem?_getD, List.getElem?_eq_getElem (by rw [hG.out]; exact hlj)]; rfl
              obtain ⟨p', c', ee, hc⟩ := id hSl
              obtain rfl : pc = p' := by injection ee
              obtain ⟨b3, o3, rfl, hc3⟩ := hc j (u64V (m2.w j)) (by rw [List.getElem?_map, hws]; rfl)
              clear hc ee hws
              unfold u64V at hc3
              have hc4 := hE4.cell hc3
              have hxU := M.w_lt hwU j
              have HS3 := Lib.hid (cntTo_succ m2 (fun x => x == 254) j)
              obtain ⟨x, hx⟩ : ∃ x, Hid (m2.w j = x) := ⟨_, Lib.hid rfl⟩
              have HS1 := cnt_full m2 j
              have HS2 := cnt_empty m2 j
              have HS4 := cnt_fre m2 j hxU
              rw [hx.out] at hc4 hxU HS1 HS2 HS3 HS4
              have r1 := rfull_w x
              have r2 := rfree_w x hxU
              have r3 := rmatch_w x 128
              have z1 := mask_lt (fun i => decide (byteAt x i < 128))
              have z2 := mask_lt (fun i => byteAt x i == 128)
              have z3 := freeN_lt hxU
              generalize (mask fun i => decide (byteAt x i < 128)) = mF at *
              generalize (mask fun i => byteAt x i == 128) = mE at *
              generalize freeN x = mR at *
              have q1 := bits_le mF
              have q2 := bits_le mE
              have q3 := bits_le mR
              obtain ⟨nF, hnF⟩ : ∃ z, Hid ((bitsOf mF).length = z) := ⟨_, Lib.hid rfl⟩
              obtain ⟨nE, hnE⟩ : ∃ z, Hid ((bitsOf mE).length = z) := ⟨_, Lib.hid rfl⟩
              obtain ⟨nR, hnR⟩ : ∃ z, Hid ((bitsOf mR).length = z) := ⟨_, Lib.hid rfl⟩
              have hF := rcount_w mF z1
              have hE := rcount_w mE z2
              have hR := rcount_w mR z3
              rw [hnF.out] at hF q1 HS1
              rw [hnE.out] at hE q2 HS2
              rw [hnR.out] at hR q3 HS4
              go_wp2_with (first
                | (go_at_call 33; refine (r1 _).mono ?_; rintro e5 w5 ⟨rfl, rfl⟩)
                | (go_at_call 34; refine (r2 _).mono ?_; rintro e5 w5 ⟨rfl, rfl⟩)
                | (go_at_call 35; refine (r3 _).mono ?_; rintro e5 w5 ⟨rfl, rfl⟩)
                | (go_at_call 32; (with_reducible refine (hF _).mono ?_); rintro e5 w5 ⟨rfl, rfl⟩)
                | (go_at_call 32; (with_reducible refine (hE _).mono ?_); rintro e5 w5 ⟨rfl, rfl⟩)
                | (go_at_call 32; (with_reducible refine (hR _).mono ?_); rintro e5 w5 ⟨rfl, rfl⟩))
              have k1 := cntTo_le m2 (fun x => decide (x < 128)) (j + 1)
              have k2 := cntTo_le m2 (fun x => x == 128) (j + 1)
              have k3 := cntTo_le m2 (fun x => x == 254) (j + 1)
              have e1 := HS1.out
              have e2 := HS2.out
              have e4 := HS4.out
              obtain ⟨ca1, ca2, ca3⟩ := HC.out
              refine ⟨⟨j + 1, a + nF, e + nE, r + nR, by omega, by go_num, by omega, by omega, by omega, by go_num, by go_num, by go_num, Lib.hid ⟨by omega, by omega, by omega⟩, hO4, hE4⟩, by simp [intOf]; omega⟩
            · obtain rfl : j = G := by omega
              obtain ⟨ca1, ca2, ca3⟩ := HC.out
              have hna : m2.n = (a : Nat) := by rw [HnF.out, ← ca1]
              have hkla : (keys m2).length = a := by have := HKL.out; omega
              have hle := hO4.inv.room
              rw [hG.out] at hle
              obtain ⟨tt, htt⟩ : ∃ tt, Hid (cntTo m2 (fun x => x == 254) j = tt) := ⟨_, Lib.hid rfl⟩
              have hta : m2.t = (tt : Nat) := by rw [HnT.out, htt.out]
              rw [htt.out] at ca3
              rw [hna] at hlen hle hn2
              rw [hta] at htom hle
              rw [hkla] at hkey
              have hre : ((r : Int) - (e : Int)) = (tt : Int) := by omega
              have HNA := Lib.hid hna
              clear ca1 ca2 ca3 hna hkla hta HC hSl
              go_wp2_with (first
                | (go_at_call 18; refine (hlen _ hO4).mono ?_; rintro e5 w5 ⟨rfl, rfl⟩)
                | (go_at_call 36; refine (htom _ hO4).mono ?_; rintro e5 w5 ⟨rfl, rfl⟩)
                | (go_at_call 31; refine (hctl2 _ hO4).mono ?_; rintro e5 w5 ⟨p5, c5, rfl, _, hO5, _⟩; clear hO4)
                | (go_at_call 30; refine (hkey _ hO5).mono ?_; rintro e6 w6 ⟨p6, c6, rfl, _, hO6, _⟩; clear hO5))
              exact ⟨⟨k + 1, f2, m2, by omega, by go_num, HB2, hO6, by rw [HNA.out]; exact hn2⟩, by simp [intOf]; omega⟩
      · obtain rfl : k = n := by omega
        have hkey := keys_o hO
        have hnd := keys_nodup hO.inv
        have hkz := keys_size hO.inv
        have hmk := fun x => (mem_keys hO.inv (key := x)).1
        rw [HB.out] at hkey
        have hkn : ((keys m).length : Int) ≤ 600 := by rw [keys_length hO.inv]; omega
        generalize keys m = ks at *
        obtain ⟨q, hq⟩ : ∃ q, Hid (ks.length = q) := ⟨_, Lib.hid rfl⟩
        rw [hq.out] at hkey hkn
        have HND := Lib.hid hnd
        have HMK := Lib.hid hmk
        have HKZ := Lib.hid hkz
        clear hnd hmk hkz hca
        go_wp2_with (go_at_call 30; refine hkey.mono ?_; rintro e w3 ⟨pk, ck, rfl, hown, hO3, hE3⟩)
        have hSl : Sl w3 (.slice pk q ck) (ks.map strV) := Sl.row hown
        have hcap := own_cap hown
        have hc1 := hcap.1
        have hc2 := hcap.2
        unfold maxLen at hc2
        clear hown hcap hkey hO hmn
        go_loopw [109] (fun i wr => ∃ j : Nat, j ≤ q ∧ i = .int .i64 j ∧ Ow w wr f m ∧ Ext w3 wr) (fun i _ => q - (intOf i).toNat)
        case atStart => exact ⟨0, by omega, rfl, hO3, Ext.refl _⟩
        case round =>
          clear hO3
          obtain ⟨j, hj, rfl, hO3, hE4⟩ := hrel
          by_cases hlj : j < q
          · obtain ⟨x, hx⟩ : ∃ x, ks[j]? = some x := ⟨ks[j]'(by rw [hq.out]; exact hlj), List.getElem?_eq_getElem _⟩
            obtain ⟨p', c', ee, hc⟩ := id hSl
            obtain rfl : pk = p' := by injection ee
            obtain ⟨b3, o3, rfl, hc3⟩ := hc j (strV x) (by rw [List.getElem?_map, hx]; rfl)
            unfold strV at hc3
            have hc4 := hE4.cell hc3
            have hxm := List.mem_of_getElem? hx
            obtain ⟨vx, hvx⟩ := Option.isSome_iff_exists.1 (HMK.out x hxm)
            have hget := get_o hO3 x (HKZ.out x hxm)
            rw [hvx, HB.out] at hget
            unfold enc at hget
            have hcells := fun i (hi : i < q) => hc i (strV (ks.getD i ByteArray.empty)) (by rw [List.getElem?_map, List.getD_eq_getElem?_getD, List.getElem?_eq_getElem (by rw [hq.out]; exact hi)]; rfl)
            have HCE := Lib.hid hcells
            have HX := Lib.hid hx
            clear hcells hc ee hx hvx hc3
            rename_i wr1 _
            go_wp2_with (go_at_call 19; refine hget.mono ?_; rintro e4 w4 ⟨rfl, hO4, hE5⟩)
            have hE6 := Ext.trans _ _ _ hE4 hE5
            clear hO3 hE4 hE5 hget hc4
            go_loop [126] (fun i => ∃ d : Nat, d ≤ j ∧ i = .int .i64 d) (fun i => j - (intOf i).toNat)
            case atStart => exact ⟨0, by omega, rfl⟩
            case round =>
              obtain ⟨d, hd, rfl⟩ := hrel
              by_cases hdj : d < j
              · obtain ⟨b4, o4, e4, hc5⟩ := HCE.out d (by omega)
                cases e4
                unfold strV at hc5
                have hc6 := hE6.cell hc5
                have hne : (x.toList == (ks.getD d ByteArray.empty).toList) = false := ba_ne (fun e => by
                  have hjq : j < ks.length := by rw [hq.out]; exact hlj
                  have hdq : d < ks.length := by omega
                  have h1 := (List.pairwise_iff_getElem.1 HND.out) d j hdq hjq hdj
                  have h2 := HX.out
                  rw [List.getElem?_eq_getElem hjq] at h2
                  rw [List.getD_eq_getElem?_getD, List.getElem?_eq_getElem hdq] at e
                  exact h1 (e.symm.trans (Option.some.inj h2).symm))
                generalize ks.getD d ByteArray.empty = y at *
                clear hc5
                go_wp2
                exact ⟨⟨d + 1, by omega, by go_num⟩, by simp [intOf]; omega⟩
              · obtain rfl : d = j := by omega
                go_wp2
                exact ⟨⟨d + 1, by omega, by go_num, hO4, hE6⟩, by simp [intOf]; omega⟩
          · obtain rfl : j = q := by omega
            go_wp2_with (go_at_call 15; refine (hL _ hO3.ext).mono ?_; rintro e w5 ⟨rfl, hE5⟩)
            go_ret
            exact ⟨rfl, Ext.trans _ _ _ hO3.ext hE5⟩
end Go.Proofs.YtiopkkjcgdcgmaaDoor.s
