/- SwissCopies: the walk. -/
import Derived.Test.YtiopkkjcgdcgmaaDoorWk
import Derived.Test.YtiopkkjcgdcgmaaDoorLv
import Derived.Test.YtiopkkjcgdcgmaaDoorFw5
import Derived.Test.YtiopkkjcgdcgmaaDoorMcs
namespace Go.Proofs.YtiopkkjcgdcgmaaDoor.s
open Go.RowKit Go.Rg Go.Nm Go.Gp Go.Mp
set_option maxHeartbeats 2000000
set_option maxRecDepth 20000
theorem keys_many {m : M ByteArray} (I : Inv m) : ((keys m).length : Int) = m.n := by
  rw [← full_len I]; simp [keys]
/-- A slice that reads so, apart from a map's blocks. -/
structure Sd (w : World) (g : Ft) (sl : Value) (xs : List Value) : Prop where
  rd : Sl w sl xs
  ns : ∀ k, sl.ownBlock = some k → ¬ g.fp k ∧ k < w.heap.size
theorem Sd.next {w w' : World} {g : Ft} {sl : Value} {xs : List Value} (h : Sd w g sl xs) (hE : Ext w w') : Sd w' g sl xs := ⟨h.rd.ext hE, fun k hk => ⟨(h.ns k hk).1, Nat.lt_of_lt_of_le (h.ns k hk).2 hE.size⟩⟩
theorem Sd.map {w w' : World} {g g' : Ft} {sl : Value} {xs : List Value} (h : Sd w g sl xs) (hF : From w g g') (hK : Kp g.fp w w') : Sd w' g' sl xs := by
  refine ⟨h.rd.kp hK fun k hk => (h.ns k hk).1, fun k hk => ⟨fun hb => ?_, Nat.lt_of_lt_of_le (h.ns k hk).2 hK.size⟩⟩
  rcases hF.2 k hb with h1 | h1
  · exact (h.ns k hk).1 h1
  · have := (h.ns k hk).2; omega
theorem Sd.new {w w' : World} {g : Ft} {n sz : Nat} {e : TypeId} {sl : Value} {xs : List Value} (h : w'.ownsRow w.heap.size e sz sl n xs) (hs : sz = 1) (hg : ∀ k, g.fp k → k < w.heap.size) : Sd w' g sl xs := by
  subst hs
  exact ⟨Sl.row h, fun k hk => ⟨fun hb => by have := (h.lt k hk).1; have := hg k hb; omega, (h.lt k hk).2⟩⟩
/-- Two maps that share no block. -/
def Dj (f g : Ft) : Prop := ∀ k, f.fp k → ¬ g.fp k
theorem Dj.map {w : World} {f g g' : Ft} (h : Dj f g) (hF : From w g g') (hf : ∀ k, f.fp k → k < w.heap.size) : Dj f g' := fun k hk hb => by
  rcases hF.2 k hb with h1 | h1
  · exact h k hk h1
  · have := hf k hk; omega
theorem copy_o {w0 w : World} {f : Ft} {m : M ByteArray} (h : Ow w0 w f m) : Calls Tryd.prog 44 #[.pointer (some ⟨f.b, 0, none⟩)] w fun e w' => ∃ g, e = .returned (.pointer (some ⟨g.b, 0, none⟩)) ∧ Ow w0 w' f m ∧ Ow w0 w' g m ∧ Dj f g ∧ Ext w w' :=
  (Copy_w w f m h.is h.inv.small).mono fun e w' ⟨g, he, hI, hN⟩ => ⟨g, he, h.next hN.1, new_o h.ext hI h.inv hN, fun k hk hb => by have := h.is.lt hk; have := hN.2 k hb; omega, hN.1⟩

theorem SwissCopies_w (k0 k1 : Nat) (h0 : k0 < U) (h1 : k1 < U) (l l2 : List Act) (hll : l.length ≤ maxLen) (hll2 : l2.length ≤ maxLen) (v v2 : Value) (w : World) (hv : Ac w v l) (hv2 : Ac w v2 l2) (hSh : Sh w) :
    Calls Tryd.prog 8 #[.agg #[.int .u64 k0, .int .u64 k1], v, v2] w fun e w' => e = .returned (.bool true) ∧ Ext w w' := by
  have hL := fun w' (h : Ext w w') => i.lives_w w' (hSh.kp h (fun f => f))
  have hfew := fun w1 (h : Ext w w1) => few5_w l v w1 (hv.ext h) hll
  have hfew2 := fun w1 (h : Ext w w1) => few5_w l2 v2 w1 (hv2.ext h) hll2
  obtain ⟨p, ca, rfl, hca⟩ := id hv
  obtain ⟨p2, ca2, rfl, hca2⟩ := id hv2
  unfold maxLen at hll hll2
  obtain ⟨n, hn⟩ : ∃ n, Hid (l.length = n) := ⟨_, Lib.hid rfl⟩
  obtain ⟨n2, hn2⟩ : ∃ n, Hid (l2.length = n) := ⟨_, Lib.hid rfl⟩
  rw [hn.out] at hll hfew ⊢
  rw [hn2.out] at hll2 hfew2 ⊢
  have hN := fun w => New_w k0 k1 0 w
  rw [show need 0 = 1 from rfl] at hN
  have hm0 := made_inv (α := ByteArray) h0 h1 i.pw1
  have hn0 : (made (α := ByteArray) k0 k1 1).n = 0 := rfl
  have hk0 : (w.alloc (.cells #[.int .u64 k0, .int .u64 k1] 24)).cell? ⟨w.heap.size, 0, none⟩ = some (.int .u64 k0) := (At.new _ _ _).cell rfl
  have hk1 : (w.alloc (.cells #[.int .u64 k0, .int .u64 k1] 24)).cell? ⟨w.heap.size, 1, none⟩ = some (.int .u64 k1) := (At.new _ _ _).cell rfl
  have hE0 := Ext.alloc w (.cells #[.int .u64 k0, .int .u64 k1] 24)
  generalize (made k0 k1 1 : M ByteArray) = m0 at *
  have HN0 := Lib.hid hn0
  clear hn0 hv hv2
  go_enter Tryd.func8, Tryd.ntmps8
  go_wp2_with (go_at_call 13; refine (hN _).mono ?_; rintro e w1 (⟨h, _⟩ | ⟨_, f0, rfl, hI, hNw⟩); exact absurd h (by decide); have hO := new_o hE0 hI hm0 hNw; clear hN hk0 hk1 hE0 hI hNw)
  have hfw := hfew _ hO.ext
  refine hfw.mono ?_
  rintro e w2 ⟨bb, rfl, hE2, HF⟩
  clear hfw hfew
  have hO1 := hO.next hE2
  clear hO hE2
  cases bb with
  | false =>
    go_wp2_with (go_at_call 15; refine (hL _ hO1.ext).mono ?_; rintro e w3 ⟨rfl, hE3⟩)
    go_ret
    exact ⟨rfl, Ext.trans _ _ _ hO1.ext hE3⟩
  | true =>
    obtain ⟨hl6, hsz⟩ := HF.out rfl
    rw [hn.out] at hl6
    clear HF hll
    go_wp2_with fail
    have hfw := hfew2 _ hO1.ext
    refine hfw.mono ?_
    rintro e w2 ⟨bb, rfl, hE2, HF⟩
    clear hfw hfew2
    have hO := hO1.next hE2
    clear hO1 hE2
    cases bb with
    | false =>
      go_wp2_with (go_at_call 15; refine (hL _ hO.ext).mono ?_; rintro e w3 ⟨rfl, hE3⟩)
      go_ret
      exact ⟨rfl, Ext.trans _ _ _ hO.ext hE3⟩
    | true =>
      obtain ⟨hl62, hsz2⟩ := HF.out rfl
      rw [hn2.out] at hl62
      clear HF hll2
      go_wp2_with fail
      obtain ⟨b, hb⟩ : ∃ b, f0.b = b := ⟨_, rfl⟩
      rw [hb]
      have HB := Lib.hid hb
      clear hb
      have HSZ2 := Lib.hid hsz2
      clear hsz hsz2
      go_loopw [45] (fun i wr => ∃ (k : Nat) (f : Ft) (m : M ByteArray), k ≤ n ∧ i = .int .i64 k ∧ Hid (f.b = b) ∧ Ow w wr f m ∧ m.n ≤ k) (fun i _ => n - (intOf i).toNat)
      case atStart => exact ⟨0, f0, m0, by omega, rfl, HB, hO, by rw [HN0.out]; decide⟩
      case round =>
        clear hO HB HN0
        obtain ⟨k, f, m, hk, rfl, HB, hO, hmn⟩ := hrel
        by_cases hlt : k < n
        · obtain ⟨a, ha⟩ : ∃ a, l[k]? = some a := ⟨l[k]'(by rw [hn.out]; exact hlt), by simp [hn.out, hlt]⟩
          obtain ⟨hs1, hs2, b1, o1, rfl, c0, c1, c2⟩ := hca k a ha
          have d0 := hO.ext.cell c0
          have d1 := hO.ext.cell c1
          have d2 := hO.ext.cell c2
          clear ha c0 c1 c2 hca hca2
          obtain ⟨kd, ky, vl⟩ := a
          simp only at hs1 hs2 d0 d1 d2
          have hky : ky.size ≤ maxLen := Nat.le_trans hs1 (by decide)
          have hOa := hO.alloc (.cells #[.int .i64 kd, .string ky, .string vl] 32)
          clear hO
          by_cases hkd : kd = 1
          · subst hkd
            have hdel := del_o hOa hSh ky hky
            rw [HB.out] at hdel
            go_wp2_with (go_at_call 16; refine hdel.mono ?_; rintro e w4 ⟨rfl, hO2, hp, _⟩)
            exact ⟨⟨k + 1, f, _, by omega, by go_num, HB, hO2, by rw [hp.n]; split <;> omega⟩, by simp [intOf]; omega⟩
          · have hkb : ((kd : Int) == 1) = false := by simpa using hkd
            have hput := put_o hOa hSh ky hky vl (by omega)
            rw [HB.out] at hput
            unfold enc at hput
            go_wp2_with (go_at_call 17; refine hput.mono ?_; rintro e w4 ⟨rfl, f2, hF2, hO2, hp, _⟩)
            exact ⟨⟨k + 1, f2, _, by omega, by go_num, Lib.hid (hF2.1.trans HB.out), hO2, by rw [hp.n]; split <;> omega⟩, by simp [intOf]; omega⟩
        · obtain rfl : k = n := by omega
          clear hca
          have hcp := copy_o hO
          rw [HB.out] at hcp
          have hle := hO.inv.pw.le
          have hkl := keys_many hO.inv
          have hkz := keys_size hO.inv
          have hmk := fun x => (mem_keys hO.inv (key := x)).1
          have hkn : ((keys m).length : Int) ≤ 600 := by rw [hkl]; omega
          have hctl := fun w1 f1 (h : Ow w w1 f1 m) => ctl_o h
          have hkey := fun w1 f1 (h : Ow w w1 f1 m) => keys_o h
          obtain ⟨G, hG⟩ : ∃ G, Hid (m.ws.length = G) := ⟨_, Lib.hid rfl⟩
          rw [hG.out] at hle hctl
          generalize hks : keys m = ks at *
          have HKS := Lib.hid hks
          obtain ⟨q, hq⟩ : ∃ q, Hid (ks.length = q) := ⟨_, Lib.hid rfl⟩
          rw [hq.out] at hkn hkey
          clear hks hkl
          go_wp2_with (go_at_call 44; refine hcp.mono ?_; rintro e w3 ⟨g, rfl, hO3, hC3, hD, hE3⟩)
          obtain ⟨b2, hb2⟩ : ∃ b2, g.b = b2 := ⟨_, rfl⟩
          rw [hb2]
          have HB2 := Lib.hid hb2
          clear hb2 hcp hO
          have t1 := hctl w3 g hC3
          rw [HB2.out] at t1
          go_wp2_with fail
          refine t1.mono ?_
          rintro e w4 ⟨pa, cca, rfl, ho4, hC4, hE4⟩
          go_wp2_with fail
          have hO4 := hO3.next hE4
          clear t1 hC3 hO3
          have t1 := hctl w4 f hO4
          rw [HB.out] at t1
          refine t1.mono ?_
          rintro e w5 ⟨pb, cb, rfl, ho5, hO5, hE5⟩
          have hC5 := hC4.next hE5
          clear t1 hC4 hO4
          have t1 := words_w _ _ m.ws m.ws w5 ((Sl.row ho4).ext hE5) (Sl.row ho5) (by rw [hG.out]; omega)
          simp only [beq_self_eq_true] at t1
          clear ho4 ho5
          go_wp2_with fail
          refine t1.mono ?_
          rintro e w6 ⟨rfl, hE6⟩
          have hO6 := hO5.next hE6
          have hC6 := hC5.next hE6
          clear t1 hO5 hC5
          have t1 := hkey w6 g hC6
          rw [HB2.out] at t1
          go_wp2_with fail
          refine t1.mono ?_
          rintro e w7 ⟨pa7, cc7, rfl, ho7, hC7, hE7⟩
          have hO7 := hO6.next hE7
          clear t1 hO6 hC6
          go_wp2_with fail
          have t1 := hkey w7 f hO7
          rw [HB.out] at t1
          refine t1.mono ?_
          rintro e w8 ⟨pa8, cc8, rfl, ho8, hO8, hE8⟩
          have hC8 := hC7.next hE8
          clear t1 hO7 hC7
          go_wp2_with fail
          have t1 := texts_w _ _ ks ks w8 ((Sl.row ho7).ext hE8) (Sl.row ho8) (by rw [hq.out]; omega)
          simp only [decide_true] at t1
          clear ho7 ho8
          refine t1.mono ?_
          rintro e w9 ⟨rfl, hE9⟩
          have hO9 := hO8.next hE9
          have hC9 := hC8.next hE9
          clear t1 hO8 hC8
          have t1 := hctl w9 f hO9
          rw [HB.out] at t1
          go_wp2_with fail
          refine t1.mono ?_
          rintro e w10 ⟨pw, cw, rfl, ho10, hO10, hE10⟩
          have hC10 := hC9.next hE10
          have hSw := Sd.new ho10 rfl (fun k hk => hC9.is.lt hk)
          clear t1 hO9 hC9 ho10
          have t1 := hkey w10 f hO10
          rw [HB.out] at t1
          go_wp2_with fail
          refine t1.mono ?_
          rintro e w11 ⟨pk, ck, rfl, ho11, hO11, hE11⟩
          have hC11 := hC10.next hE11
          have hSk := Sd.new ho11 rfl (fun k hk => hC10.is.lt hk)
          have hSw11 := hSw.next hE11
          clear t1 hO10 hC10 ho11 hSw
          go_wp2_with fail
          have HMK := Lib.hid hmk
          have HKZ := Lib.hid hkz
          clear hmk hkz
          have HV : Hid (∀ s ∈ ks, ∃ x, look m s = some x) := Lib.hid (fun s hs => Option.isSome_iff_exists.1 (HMK.out s hs))
          have hSkr : Sl w11 (.slice pk q ck) (ks.map strV) := hSk.rd
          go_loopw [13, 89] (fun v i wr => ∃ j : Nat, j ≤ q ∧ i = .int .i64 j ∧ wr.ownsRow w11.heap.size 9 1 v j ((ks.take j).map fun s => strV ((look m s).getD default)) ∧ Ext w11 wr) (fun _ i _ => q - (intOf i).toNat)
          case atStart => exact ⟨0, by omega, rfl, World.ownsRow_nil _ _ _ _, Ext.refl _⟩
          case round =>
            obtain ⟨j, hj, rfl, hv, hE⟩ := hrel
            by_cases hlj : j < q
            · obtain ⟨x, hx⟩ : ∃ x, ks[j]? = some x := ⟨ks[j]'(by rw [hq.out]; exact hlj), List.getElem?_eq_getElem _⟩
              obtain ⟨p', c', ee, hc⟩ := id hSkr
              obtain rfl : pk = p' := by injection ee
              obtain ⟨b3, o3, rfl, hc3⟩ := hc j (strV x) (by rw [List.getElem?_map, hx]; rfl)
              unfold strV at hc3
              have hc4 := hE.cell hc3
              have hxm := List.mem_of_getElem? hx
              obtain ⟨vx, hvx⟩ := HV.out x hxm
              have hget := get_o (hO11.next hE) x (HKZ.out x hxm)
              rw [hvx, HB.out] at hget
              unfold enc at hget
              have HX := Lib.hid hx
              have HVX := Lib.hid hvx
              clear hc ee hx hvx hc3 hO11 hC11 hca2 hSkr hSk hSw11
              have hsz := hE.size
              go_wp2_with fail
              refine hget.mono ?_
              rintro e4 w12 ⟨rfl, _, hE12⟩
              have hv12 := row_ext hv hE12
              have hE13 : Ext w11 w12 := Ext.trans _ _ _ hE hE12
              have hs12 := hE13.size
              clear hE hE12 hget hv hc4
              have hnew : (w12.alloc (.cells #[.string vx] 9)).cell? ⟨w12.heap.size, 0, none⟩ = some (.string vx) := (At.new _ _ _).cell rfl
              go_wp2_with (at_builtin; refine appL (z := .string ByteArray.empty) (sz := 1) (bytes := 16) rfl _ _ 30 rfl w11.heap.size 9 info9 Tryd.underlying30 (by rfl) (by decide) (by decide) _ j _ rfl (hv12.alloc _) w12.heap.size 1 [.string vx] rfl rfl (news1 hnew) (one1 rfl) (by omega) (by simp; omega) ?_; intro g' cap' w13 hown' hk2)
              have hE14 : Ext w11 w13 := Kp.own (Kp.alloc hE13 _) (hv12.alloc _) hk2 (Nat.le_refl _)
              go_roundw
              case rel =>
                refine ⟨j + 1, by omega, by go_num, ?_, hE14⟩
                rw [List.take_add_one, HX.out, List.map_append]
                have : [x].map (fun s => strV ((look m s).getD default)) = [.string vx] := by simp [HVX.out, strV]
                show World.ownsRow _ _ _ _ _ _ (_ ++ [x].map _)
                rw [this]; exact hown'
              case measure => simp [intOf]; omega
            · obtain rfl : j = q := by omega
              have hO12 := hO11.next hE
              have hC12 := hC11.next hE
              have hSk12 := hSk.next hE
              have hSw12 := hSw11.next hE
              have hgl := fun k (hk : g.fp k) => hC11.is.lt hk
              rw [List.take_of_length_le (by rw [hq.out]; omega)] at hv
              have hSv := Sd.new hv rfl hgl
              obtain ⟨pv, cv, rfl⟩ := row_shape hv
              have hmn2 : m.n ≤ 600 := by omega
              clear hv hO11 hC11 hSk hSw11 hSkr hgl hE
              have hXs : (ks.map fun s => strV ((look m s).getD default)).length = j := by rw [List.length_map, hq.out]
              generalize hXX : (ks.map fun s => strV ((look m s).getD default)) = vs at hSv
              have HXX := Lib.hid hXX
              clear hXX hXs
              have hmg : m.n ≤ 600 + (0 : Int) := by omega
              go_wp2_with fail
              go_loopw [106] (fun i wr => ∃ (k2 : Nat) (g' : Ft) (m' : M ByteArray), k2 ≤ n2 ∧ i = .int .i64 k2 ∧ Hid (g'.b = b2) ∧ Ow w wr g' m' ∧ Ow w wr f m ∧ Dj f g' ∧ m'.n ≤ 600 + (k2 : Int) ∧ Sd wr g' (.slice pk j ck) (ks.map strV) ∧ Sd wr g' (.slice pw G cw) (m.ws.map u64V) ∧ Sd wr g' (.slice pv j cv) vs) (fun i _ => n2 - (intOf i).toNat)
              case atStart => exact ⟨0, g, m, by omega, rfl, HB2, hC12, hO12, hD, hmg, hSk12, hSw12, hSv⟩
              case round =>
                clear hO12 hC12 HB2 hD hSk12 hSw12 hSv hmg hmn2 hmn
                obtain ⟨k2, g', m', hk2, rfl, HB2, hC, hO, hD, hmn, hSk, hSw, hSv⟩ := hrel
                by_cases hlt2 : k2 < n2
                · obtain ⟨a, ha⟩ : ∃ a, l2[k2]? = some a := ⟨l2[k2]'(by rw [hn2.out]; exact hlt2), by simp [hn2.out, hlt2]⟩
                  obtain ⟨hs1, hs2, b1, o1, rfl, c0, c1, c2⟩ := hca2 k2 a ha
                  have d0 := hC.ext.cell c0
                  have d1 := hC.ext.cell c1
                  have d2 := hC.ext.cell c2
                  have hsum := HSZ2.out a (List.mem_of_getElem? ha)
                  clear ha c0 c1 c2 hca2
                  obtain ⟨kd, ky, vl⟩ := a
                  simp only at hs1 hs2 d0 d1 d2 hsum
                  have hky : ky.size ≤ maxLen := Nat.le_trans hs1 (by decide)
                  have hCa := hC.alloc (.cells #[.int .i64 kd, .string ky, .string vl] 32)
                  have hOa := hO.alloc (.cells #[.int .i64 kd, .string ky, .string vl] 32)
                  have hEx := Ext.alloc wr (.cells #[.int .i64 kd, .string ky, .string vl] 32)
                  have hSka := hSk.next hEx
                  have hSwa := hSw.next hEx
                  have hSva := hSv.next hEx
                  clear hO hC hSk hSw hSv
                  by_cases hkd : kd = 1
                  · subst hkd
                    have hdel := del_o hCa hSh ky hky
                    rw [HB2.out] at hdel
                    go_wp2_with (go_at_call 16; refine hdel.mono ?_; rintro e w4 ⟨rfl, hC2, hp, hK⟩)
                    exact ⟨⟨k2 + 1, g', _, by omega, by go_num, HB2, hC2, hOa.kp hK hCa.own hD, hD, by rw [hp.n]; split <;> omega, hSka.map (From.refl _ _) hK, hSwa.map (From.refl _ _) hK, hSva.map (From.refl _ _) hK⟩, by simp [intOf]; omega⟩
                  · have hkb : ((kd : Int) == 1) = false := by simpa using hkd
                    have hput := fun x => put_o hCa hSh ky hky x (by omega)
                    rw [HB2.out] at hput
                    unfold enc at hput
                    have hput := hput (vl ++ ⟨#[33]⟩)
                    go_wp2_with fail
                    refine hput.mono ?_
                    rintro e w4 ⟨rfl, g2, hF2, hC2, hp, hK⟩
                    have hgl := fun k (hk : f.fp k) => hOa.is.lt hk
                    go_wp2_with fail
                    exact ⟨⟨k2 + 1, g2, _, by omega, by go_num, Lib.hid (hF2.1.trans HB2.out), hC2, hOa.kp hK hCa.own hD, hD.map hF2 hgl, by rw [hp.n]; split <;> omega, hSka.map hF2 hK, hSwa.map hF2 hK, hSva.map hF2 hK⟩, by simp [intOf]; omega⟩
                · obtain rfl : k2 = n2 := by omega
                  have hsk := hSk.rd
                  have hsw := hSw.rd
                  have hsv := hSv.rd
                  clear hSk hSw hSv hC hD hca2 hmn
                  go_wp2_with fail
                  obtain ⟨wE, rfl⟩ : ∃ wE : World, wE = wr := ⟨_, rfl⟩
                  go_loopw [127] (fun i wr => ∃ d : Nat, d ≤ j ∧ i = .int .i64 d ∧ Ext wE wr) (fun i _ => j - (intOf i).toNat)
                  case atStart => exact ⟨0, by omega, rfl, Ext.refl _⟩
                  case round =>
                    obtain ⟨d, hd, rfl, hE⟩ := hrel
                    by_cases hlj : d < j
                    · obtain ⟨x, hx⟩ : ∃ x, ks[d]? = some x := ⟨ks[d]'(by rw [hq.out]; exact hlj), List.getElem?_eq_getElem _⟩
                      have hxm := List.mem_of_getElem? hx
                      obtain ⟨vx, hvx⟩ := HV.out x hxm
                      obtain ⟨p', c', ee, hc⟩ := id hsk
                      obtain rfl : pk = p' := by injection ee
                      obtain ⟨b3, o3, rfl, hc3⟩ := hc d (strV x) (by rw [List.getElem?_map, hx]; rfl)
                      obtain ⟨p4, c4, e4, hc4⟩ := id hsv
                      obtain rfl : pv = p4 := by injection e4
                      obtain ⟨b5, o5, rfl, hc5⟩ := hc4 d (strV vx) (by rw [← HXX.out, List.getElem?_map, hx]; simp [hvx, strV])
                      unfold strV at hc3 hc5
                      have hc6 := hE.cell hc3
                      have hc7 := hE.cell hc5
                      have hget := get_o (hO.next hE) x (HKZ.out x hxm)
                      rw [hvx, HB.out] at hget
                      unfold enc at hget
                      clear hc ee hx hvx hc3 hc4 hc5 e4 hO hsk hsw hsv
                      go_wp2_with fail
                      refine hget.mono ?_
                      rintro e4 w12 ⟨rfl, _, hE12⟩
                      have hc8 := hE12.cell hc7
                      have hE13 := Ext.trans _ _ _ hE hE12
                      clear hE hE12 hc6 hc7 hget
                      go_wp2_with fail
                      exact ⟨⟨d + 1, by omega, by go_num, hE13⟩, by simp [intOf]; omega⟩
                    · obtain rfl : d = j := by omega
                      have hO1 := hO.next hE
                      have hsw1 := hsw.ext hE
                      have hsk1 := hsk.ext hE
                      clear hO hsw hsk hsv hE
                      have t1 := hctl wr f hO1
                      rw [HB.out] at t1
                      go_wp2_with fail
                      refine t1.mono ?_
                      rintro e w5 ⟨pa, ca5, rfl, ho5, hO5, hE5⟩
                      clear t1
                      have t1 := words_w _ _ m.ws m.ws w5 (Sl.row ho5) (hsw1.ext hE5) (by rw [hG.out]; omega)
                      simp only [beq_self_eq_true] at t1
                      clear ho5 hO1
                      go_wp2_with fail
                      refine t1.mono ?_
                      rintro e w6 ⟨rfl, hE6⟩
                      have hO6 := hO5.next hE6
                      clear t1 hO5
                      have t1 := hkey w6 f hO6
                      rw [HB.out] at t1
                      go_wp2_with fail
                      refine t1.mono ?_
                      rintro e w7 ⟨pa7, cc7, rfl, ho7, hO7, hE7⟩
                      clear t1 hO6
                      have t1 := texts_w _ _ ks ks w7 (Sl.row ho7) (((hsk1.ext hE5).ext hE6).ext hE7) (by rw [hq.out]; omega)
                      simp only [decide_true] at t1
                      clear ho7
                      go_wp2_with fail
                      refine t1.mono ?_
                      rintro e w8 ⟨rfl, hE8⟩
                      have hO8 := hO7.next hE8
                      go_wp2_with fail
                      refine (hL _ hO8.ext).mono ?_
                      rintro e w9 ⟨rfl, hE9⟩
                      go_wp2_with fail
                      go_ret
                      exact ⟨rfl, Ext.trans _ _ _ hO8.ext hE9⟩
end Go.Proofs.YtiopkkjcgdcgmaaDoor.s
