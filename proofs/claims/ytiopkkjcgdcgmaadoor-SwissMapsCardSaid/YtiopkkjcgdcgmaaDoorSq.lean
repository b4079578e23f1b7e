/- SipHash, whole: the program's Sum. -/
import Derived.Test.YtiopkkjcgdcgmaaDoorSp
import Derived.Deep.LoopGhost
import Derived.Lib.Hide
import Derived.ChangeKeysEq
namespace Go.Proofs.YtiopkkjcgdcgmaaDoor
open Go.RowKit Go.Rg Go.Nm
set_option maxHeartbeats 1000000

def sip (v : V4) (l : List UInt8) : V4 × List UInt8 :=
  if 8 ≤ l.length then sip (v.take (wordL (l.take 8))) (l.drop 8) else (v, l)
termination_by l.length
decreasing_by simp; omega
def sip0 (k0 k1 : Nat) : V4 := ⟨k0 ^^^ 8317987319222330741, k1 ^^^ 7237128888997146477, k0 ^^^ 7816392313619706465, k1 ^^^ 8387220255154660723⟩
def sipEnd (v : V4) : V4 := V4.round (V4.round (V4.round (V4.round { v with c := v.c ^^^ 255 })))
def sum (k0 k1 : Nat) (l : List UInt8) : Nat :=
  let r := sip (sip0 k0 k1) l
  let v := sipEnd (r.1.take (wordL r.2 ||| l.length % 256 * 72057594037927936))
  v.a ^^^ v.b ^^^ v.c ^^^ v.d
def strLen : Value → Nat
  | .string s => s.size
  | _ => 0

theorem extract_list (s : ByteArray) (a b : Nat) : (s.extract a b).data.toList = (s.data.toList.take b).drop a := by
  rw [ByteArray.data_extract]; simp [List.extract_eq_take_drop, List.drop_take]
theorem wordL_ltU {l : List UInt8} (h : l.length ≤ 8) : wordL l < U := Nat.lt_of_lt_of_le (wordL_lt l) (Nat.pow_le_pow_right (n := 256) (j := 8) (by decide) h)
theorem round_n' (v : V4) (hv : v.ok) (w : World) : Calls Tryd.prog 113 #[v.val] w fun e w' =>
    ∃ v' : V4, Hid (v' = v.round) ∧ v'.ok ∧ e = .returned v'.val ∧ Ext w w' :=
  (round_w v hv w).mono fun _ _ ⟨he, hE⟩ => ⟨v.round, rfl, V4.round_ok hv, he, hE⟩

theorem cells22 : Tryd.prog.cellsOf 22 = 1 := by kernel_rfl
theorem inf22 : (Tryd.prog.info? 22).isSome = true := by kernel_rfl
theorem eql_arr4 (w : World) (a b c d : Nat) : (binOp .eql 152 (.agg #[.int .u64 a, .int .u64 b, .int .u64 c, .int .u64 d]) (.agg #[.int .u64 0, .int .u64 0, .int .u64 0, .int .u64 0])).run Tryd.prog w = .ok (.bool (a == 0 && b == 0 && c == 0 && d == 0)) w := by
  obtain ⟨i, hi⟩ := Option.isSome_iff_exists.1 inf22
  simp only [binOp]
  simp only [Op.equal, Sem.run_bind]
  rw [show Op.maxDepth = 9998 + 1 + 1 from rfl, run_equalIn_array w _ _ _ Tryd.underlying152 hi, cells22]
  simp only [List.range, List.range.loop, Op.eqItems, Sem.run_bind]
  simp [part, run_equalIn_int]
  by_cases ha : a = 0 <;> by_cases hb : b = 0 <;> by_cases hc : c = 0 <;> by_cases hd : d = 0 <;> simp [ha, hb, hc, hd]

theorem sum_w (k0 k1 : Nat) (hk0 : k0 < U) (hk1 : k1 < U) (s : ByteArray) (hs : s.size ≤ maxLen) (w : World) :
    Calls Tryd.prog 99 #[.agg #[.int .u64 k0, .int .u64 k1], .string s] w fun e w' => e = .returned (.int .u64 (sum k0 k1 s.data.toList : Nat)) ∧ Ext w w' := by
  have hx0 : bits .xor .u64 (k0 : Int) 8317987319222330741 = ((k0 ^^^ 8317987319222330741 : Nat) : Int) := xorU hk0 (by decide)
  have hx1 : bits .xor .u64 (k1 : Int) 7237128888997146477 = ((k1 ^^^ 7237128888997146477 : Nat) : Int) := xorU hk1 (by decide)
  have hx2 : bits .xor .u64 (k0 : Int) 7816392313619706465 = ((k0 ^^^ 7816392313619706465 : Nat) : Int) := xorU hk0 (by decide)
  have hx3 : bits .xor .u64 (k1 : Int) 8387220255154660723 = ((k1 ^^^ 8387220255154660723 : Nat) : Int) := xorU hk1 (by decide)
  unfold maxLen at hs
  go_enter Tryd.func99, Tryd.ntmps99
  go_wp2
  clear hx0 hx1 hx2 hx3
  obtain ⟨W0, hW0⟩ : ∃ W0, (w.alloc (.cells #[.int .u64 k0, .int .u64 k1] 24)).alloc (.cells (sip0 k0 k1).cs 152) = W0 := ⟨_, rfl⟩
  have hE0 : Ext w W0 := by rw [← hW0]; exact Kp.alloc (Ext.alloc _ _) _
  have hA0 : At W0 (w.heap.size + 1) (sip0 k0 k1).cs 152 := by
    rw [← hW0]; have := At.new (w.alloc (.cells #[.int .u64 k0, .int .u64 k1] 24)) (sip0 k0 k1).cs 152
    simpa using this
  have hv0 : (sip0 k0 k1).ok := ⟨xor_lt hk0 (by decide), xor_lt hk1 (by decide), xor_lt hk0 (by decide), xor_lt hk1 (by decide)⟩
  unfold V4.cs sip0 at hW0
  simp only at hW0
  rw [hW0]
  clear hW0
  obtain ⟨v0, hv00⟩ : ∃ v0, Hid (sip0 k0 k1 = v0) := ⟨_, rfl⟩
  rw [hv00.out] at hA0 hv0
  go_loopw [1] (fun x wr => ∃ (s' : ByteArray) (v : V4), x = .string s' ∧ s'.size ≤ s.size ∧ v.ok ∧ At wr (w.heap.size + 1) v.cs 152 ∧ Kp (fun k => k = w.heap.size + 1) W0 wr ∧ Hid (sip v s'.data.toList = sip v0 s.data.toList)) (fun x _ => strLen x)
  case atStart => exact ⟨s, v0, rfl, Nat.le_refl _, hv0, hA0, Kp.refl _ _, rfl⟩
  case round =>
    obtain ⟨s', v, rfl, hle, hv, hA, hK, H⟩ := hrel
    by_cases h8 : 8 ≤ s'.size
    · have hsz : (s'.extract 0 8).size ≤ 8 := by simp; omega
      have hl : (s'.extract 0 8).data.toList = s'.data.toList.take 8 := by rw [extract_list]; rfl
      have hm := wordL_ltU (l := (s'.extract 0 8).data.toList) (by simpa using hsz)
      go_wp2_with fail
      refine (word_w _ hsz _).mono ?_
      rintro e w1 ⟨rfl, rfl⟩
      have hsip : sip v s'.data.toList = sip (v.take (wordL (s'.extract 0 8).data.toList)) (s'.data.toList.drop 8) := by
        rw [sip, if_pos (by simpa using h8), hl]
      clear hl
      generalize wordL (s'.extract 0 8).data.toList = m at *
      have HS := Lib.hid hsip
      clear hsip
      go_wp2_with fail
      refine (take_w v hv m hm _ _ hA).mono ?_
      rintro e w1 ⟨rfl, hK1, hA1⟩
      go_wp2
      refine ⟨⟨_, _, rfl, by simp; omega, V4.take_ok hv hm, hA1, hK.trans hK1, ?_⟩, by simp [strLen]; omega⟩
      show _ = _
      have hl : (s'.extract 8 s'.size).data.toList = s'.data.toList.drop 8 := by rw [extract_list, List.take_of_length_le (by simp)]
      rw [hl, ← HS.out]; exact H.out
    · have hsz : s'.size ≤ 8 := by omega
      have hm := wordL_ltU (l := s'.data.toList) (by simpa using hsz)
      have hsip : sip v0 s.data.toList = (v, s'.data.toList) := by rw [← H.out, sip, if_neg (by simpa using h8)]
      have hfin : sum k0 k1 s.data.toList = (let v := sipEnd (v.take (wordL s'.data.toList ||| s.size % 256 * 72057594037927936)); v.a ^^^ v.b ^^^ v.c ^^^ v.d) := by
        unfold sum
        rw [hv00.out, hsip]; simp
      clear hsip H
      go_wp2_with fail
      refine (word_w _ hsz _).mono ?_
      rintro e w1 ⟨rfl, rfl⟩
      generalize wordL s'.data.toList = m at *
      have HF := Lib.hid hfin
      clear hfin
      have hn : s.size % 256 * 72057594037927936 < U := by show _ < 18446744073709551616; omega
      have hor : bits .or .u64 (m : Int) (IntKind.u64.wrap ((s.size : Int) * 72057594037927936)) = ((m ||| s.size % 256 * 72057594037927936 : Nat) : Int) := by
        rw [show ((s.size : Int) * 72057594037927936) = ((s.size * 72057594037927936 : Nat) : Int) by simp, wrapU, show s.size * 72057594037927936 % U = s.size % 256 * 72057594037927936 by show _ % 18446744073709551616 = _; omega]
        exact orU hm hn
      have hm2 := or_lt hm hn
      generalize m ||| s.size % 256 * 72057594037927936 = m2 at *
      go_wp2_with fail
      refine (take_w v hv m2 hm2 _ _ hA).mono ?_
      have hv2 := V4.take_ok hv hm2
      have hHF : Hid (sum k0 k1 s.data.toList = (let v := sipEnd (v.take m2); v.a ^^^ v.b ^^^ v.c ^^^ v.d)) := HF.out
      clear HF
      generalize v.take m2 = u at *
      obtain ⟨a, b, c, d⟩ := u
      obtain ⟨ha, hb, hc, hd⟩ := hv2
      simp only at ha hb hc hd
      rintro e w1 ⟨rfl, hK1, hA1⟩
      have hK2 := hK.trans hK1
      clear hK hK1 hA hv hm2 hm hor hn
      have c0 : w1.cell? ⟨w.heap.size + 1, 0, none⟩ = some (.int .u64 a) := hA1.cell rfl
      have c1 : w1.cell? ⟨w.heap.size + 1, 1, none⟩ = some (.int .u64 b) := hA1.cell rfl
      have c2 : w1.cell? ⟨w.heap.size + 1, 2, none⟩ = some (.int .u64 c) := hA1.cell rfl
      have c3 : w1.cell? ⟨w.heap.size + 1, 3, none⟩ = some (.int .u64 d) := hA1.cell rfl
      have f2 := hA1.frozen 2
      have hx : bits .xor .u64 (c : Int) 255 = ((c ^^^ 255 : Nat) : Int) := xorU hc (by decide)
      go_wp2
      have hA3 := hA1.set 2 (.int .u64 (c ^^^ 255 : Nat))
      have hK3 := hK2.setCell (a := ⟨w.heap.size + 1, 2, none⟩) (.inl rfl) (.int .u64 (c ^^^ 255 : Nat))
      have hA4 : At (w1.setCell ⟨w.heap.size + 1, 2, none⟩ (.int .u64 (c ^^^ 255 : Nat))) (w.heap.size + 1) (V4.cs ⟨a, b, c ^^^ 255, d⟩) 152 := hA3
      clear hA1 hA3 hK2 c0 c1 c2 c3 f2 hx
      obtain ⟨v1, hv1⟩ : ∃ v1, Hid (V4.mk a b (c ^^^ 255) d = v1) := ⟨_, rfl⟩
      have hv1o : v1.ok := by rw [← hv1.out]; exact ⟨ha, hb, xor_lt hc (by decide), hd⟩
      rw [hv1.out] at hA4
      generalize w1.setCell ⟨w.heap.size + 1, 2, none⟩ (.int .u64 (c ^^^ 255 : Nat)) = w2 at *
      go_loopw [46] (fun x wr => ∃ (k : Nat) (v : V4), x = .int .i64 k ∧ k ≤ 4 ∧ v.ok ∧ At wr (w.heap.size + 1) v.cs 152 ∧ Kp (fun k => k = w.heap.size + 1) W0 wr ∧ Hid (v = Nat.repeat V4.round k v1)) (fun x _ => 4 - (intOf x).toNat)
      case atStart => exact ⟨0, v1, rfl, by omega, hv1o, hA4, hK3, rfl⟩
      case round =>
        obtain ⟨k, v, rfl, hk, hv, hA, hK, H⟩ := hrel
        have c0 : wr.cell? ⟨w.heap.size + 1, 0, none⟩ = some (.int .u64 v.a) := hA.cell rfl
        have c1 : wr.cell? ⟨w.heap.size + 1, 1, none⟩ = some (.int .u64 v.b) := hA.cell rfl
        have c2 : wr.cell? ⟨w.heap.size + 1, 2, none⟩ = some (.int .u64 v.c) := hA.cell rfl
        have c3 : wr.cell? ⟨w.heap.size + 1, 3, none⟩ = some (.int .u64 v.d) := hA.cell rfl
        by_cases h4 : k < 4
        · go_wp2_with fail
          refine (round_n v hv _).mono ?_
          rintro e w3 ⟨p, q, r, x, H1, ⟨hp, hq, hr, hx⟩, rfl, hE⟩
          have hA' := At.ext hE hA
          have hK' := hK.trans hE.kp
          clear c0 c1 c2 c3
          have c0 : w3.cell? ⟨w.heap.size + 1, 0, none⟩ = some (.int .u64 v.a) := hA'.cell rfl
          have c1 : w3.cell? ⟨w.heap.size + 1, 1, none⟩ = some (.int .u64 v.b) := hA'.cell rfl
          have c2 : w3.cell? ⟨w.heap.size + 1, 2, none⟩ = some (.int .u64 v.c) := hA'.cell rfl
          have c3 : w3.cell? ⟨w.heap.size + 1, 3, none⟩ = some (.int .u64 v.d) := hA'.cell rfl
          have f0 := hA'.frozen 0
          have f1 := hA'.frozen 1
          have f2 := hA'.frozen 2
          have f3 := hA'.frozen 3
          go_wp2
          go_roundw
          case rel =>
            refine ⟨k + 1, ⟨p, q, r, x⟩, by go_num, by omega, ⟨hp, hq, hr, hx⟩, (((hA'.set 0 _).set 1 _).set 2 _).set 3 _, (((hK'.setCell (.inl rfl) _).setCell (.inl rfl) _).setCell (.inl rfl) _).setCell (.inl rfl) _, ?_⟩
            show _ = V4.round (Nat.repeat V4.round k v1)
            rw [← H.out]; exact H1.out
          case measure => simp [intOf]; omega
        · obtain rfl : k = 4 := by omega
          have hfin : sum k0 k1 s.data.toList = v.a ^^^ v.b ^^^ v.c ^^^ v.d := by
            rw [hHF.out]
            have : sipEnd ⟨a, b, c, d⟩ = v := by
              rw [H.out, ← hv1.out]; rfl
            simp only [this]
          have HFIN := Lib.hid hfin
          clear hHF H hfin hv1
          obtain ⟨va, vb, vc, vd⟩ := v
          obtain ⟨ha, hb, hc, hd⟩ := hv
          simp only at ha hb hc hd c0 c1 c2 c3 ⊢
          have hE : Ext w wr := Kp.join hE0 hK (fun b hb e => by omega)
          have he := fun w => eql_arr4 w va vb vc vd
          have x1 : bits .xor .u64 (va : Int) (vb : Int) = ((va ^^^ vb : Nat) : Int) := xorU ha hb
          have x2 : bits .xor .u64 ((va ^^^ vb : Nat) : Int) (vc : Int) = ((va ^^^ vb ^^^ vc : Nat) : Int) := xorU (xor_lt ha hb) hc
          have x3 : bits .xor .u64 ((va ^^^ vb ^^^ vc : Nat) : Int) (vd : Int) = ((va ^^^ vb ^^^ vc ^^^ vd : Nat) : Int) := xorU (xor_lt (xor_lt ha hb) hc) hd
          by_cases hz : (va == 0 && vb == 0 && vc == 0 && vd == 0) = true
          · have he' : ∀ w, (binOp .eql 152 (.agg #[.int .u64 va, .int .u64 vb, .int .u64 vc, .int .u64 vd]) (.agg #[.int .u64 0, .int .u64 0, .int .u64 0, .int .u64 0])).run Tryd.prog w = .ok (.bool true) w := fun w => by rw [he, hz]
            have hZ : va ^^^ vb ^^^ vc ^^^ vd = 0 := by
              simp only [Bool.and_eq_true, beq_iff_eq] at hz
              obtain ⟨⟨⟨rfl, rfl⟩, rfl⟩, rfl⟩ := hz
              rfl
            have HF2 : Hid (sum k0 k1 s.data.toList = 0) := by rw [HFIN.out]; exact hZ
            clear he hz hZ x1 x2 x3 HFIN
            go_wp2
            go_ret
            exact ⟨by rw [HF2.out]; rfl, hE⟩
          · have he' : ∀ w, (binOp .eql 152 (.agg #[.int .u64 va, .int .u64 vb, .int .u64 vc, .int .u64 vd]) (.agg #[.int .u64 0, .int .u64 0, .int .u64 0, .int .u64 0])).run Tryd.prog w = .ok (.bool false) w := fun w => by rw [he, Bool.eq_false_iff.2 hz]
            clear he hz
            go_wp2
            go_ret
            exact ⟨by rw [HFIN.out]; rfl, hE⟩
end Go.Proofs.YtiopkkjcgdcgmaaDoor
