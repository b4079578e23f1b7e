/- WalkOnce: the plain law, what lies in memory, the walk. -/
import Derived.Test.YtiopkkjcgdcgmaaDoorLw
import Derived.Test.YtiopkkjcgdcgmaaDoorFw6
import Derived.Deep.Cut
import Derived.Deep.DeepCutAuto
namespace Go.Proofs.YtiopkkjcgdcgmaaDoor.s
open Go.RowKit Go.Rg Go.Nm Go.Gp Go.Mp
set_option maxHeartbeats 2000000
set_option maxRecDepth 20000
/-! ### plain -/
def nmo (ks : List ByteArray) (j : Nat) : ByteArray := ks.getD j ByteArray.empty
theorem nmo_at {ks : List ByteArray} {j : Nat} (h : j < ks.length) : ks[j]? = some (nmo ks j) := by
  unfold nmo; rw [List.getD_eq_getElem?_getD, List.getElem?_eq_getElem h]; rfl
theorem nmo_inj {ks : List ByteArray} (hn : ks.Nodup) {i j : Nat} (hi : i < ks.length) (hj : j < ks.length) (h : nmo ks i = nmo ks j) : i = j := by
  have h1 := nmo_at hi
  have h2 := nmo_at hj
  rw [List.getElem?_eq_getElem hi] at h1
  rw [List.getElem?_eq_getElem hj] at h2
  rcases Nat.lt_trichotomy i j with h3 | h3 | h3
  · exact absurd (by rw [Option.some.inj h1, Option.some.inj h2, h]) ((List.pairwise_iff_getElem.1 hn) i j hi hj h3)
  · exact h3
  · exact absurd (by rw [Option.some.inj h1, Option.some.inj h2, h]) ((List.pairwise_iff_getElem.1 hn) j i hj hi h3)
theorem drop_nmo {ks : List ByteArray} {c : Nat} (h : c < ks.length) : ks.drop c = nmo ks c :: ks.drop (c + 1) := by
  rw [List.drop_eq_getElem_cons h]
  have := nmo_at h
  rw [List.getElem?_eq_getElem h] at this
  rw [Option.some.inj this]
theorem wnext_drop (m : M ByteArray) (ks : List ByteArray) : ∀ (g c : Nat), ks.length - c = g →
    (wnext m (ks.drop c) = ([], ByteArray.empty, ByteArray.empty, false) ∧ ∀ j, c ≤ j → j < ks.length → look m (nmo ks j) = none) ∨
    ∃ d v, c ≤ d ∧ d < ks.length ∧ look m (nmo ks d) = some v ∧ wnext m (ks.drop c) = (ks.drop (d + 1), nmo ks d, v, true) ∧ ∀ j, c ≤ j → j < d → look m (nmo ks j) = none
  | 0, c, h => by
    left
    rw [List.drop_of_length_le (by omega)]
    exact ⟨rfl, fun j h1 h2 => by omega⟩
  | g + 1, c, h => by
    have hc : c < ks.length := by omega
    rw [drop_nmo hc]
    cases hl : look m (nmo ks c) with
    | some v =>
      right
      exact ⟨c, v, Nat.le_refl _, hc, hl, wnext_some _ hl, fun j h1 h2 => by omega⟩
    | none =>
      rw [wnext_none _ hl]
      rcases wnext_drop m ks g (c + 1) (by omega) with ⟨h1, h2⟩ | ⟨d, v, h1, h2, h3, h4, h5⟩
      · left
        refine ⟨h1, fun j h3 h4 => ?_⟩
        by_cases e : j = c
        · rw [e]; exact hl
        · exact h2 j (by omega) h4
      · right
        refine ⟨d, v, by omega, h2, h3, h4, fun j h6 h7 => ?_⟩
        by_cases e : j = c
        · rw [e]; exact hl
        · exact h5 j (by omega) h7
/-- Who was deleted; who has been told. -/
structure Once (m : M ByteArray) (ks : List ByteArray) (c : Nat) (gs : List Bool) (ts : List Nat) : Prop where
  gone : ∀ j, j < ks.length → look m (nmo ks j) = none → gs.getD j false = true
  ahead : ∀ j, j < ks.length → c ≤ j → ts.getD j 0 = 0
  behind : ∀ j, j < ks.length → j < c → ts.getD j 0 ≤ 1 ∧ (ts.getD j 0 = 0 → gs.getD j false = true)
theorem Once.put {m : M ByteArray} {ks : List ByteArray} {c : Nat} {gs : List Bool} {ts : List Nat} (h : Once m ks c gs ts) {key v : ByteArray} {r : M ByteArray × Bool × Int} (hp : PutAs m key v r) : Once r.1 ks c gs ts := by
  refine ⟨fun j hj hl => ?_, h.ahead, h.behind⟩
  rw [hp.look] at hl
  split at hl
  · cases hl
  · exact h.gone j hj hl
theorem Once.del {m : M ByteArray} {ks : List ByteArray} {c : Nat} {gs gs' : List Bool} {ts : List Nat} (h : Once m ks c gs ts) {key : ByteArray} {r : M ByteArray × Bool} (hp : DelAs m key r)
    (hg : ∀ j, j < ks.length → gs'.getD j false = (gs.getD j false || decide (nmo ks j = key))) : Once r.1 ks c gs' ts := by
  refine ⟨fun j hj hl => ?_, h.ahead, fun j hj hc => ⟨(h.behind j hj hc).1, fun h0 => ?_⟩⟩
  · rw [hp.look] at hl
    rw [hg j hj]
    by_cases e : nmo ks j = key
    · simp [e]
    · rw [if_neg e] at hl
      rw [h.gone j hj hl]; rfl
  · rw [hg j hj, (h.behind j hj hc).2 h0]; rfl
theorem getD_set_nat (ts : List Nat) (d v j : Nat) (hd : d < ts.length) : (ts.set d v).getD j 0 = if j = d then v else ts.getD j 0 := by
  simp only [List.getD_eq_getElem?_getD, List.getElem?_set]
  by_cases e : d = j
  · subst e; rw [if_pos rfl, if_pos hd, if_pos rfl]; rfl
  · rw [if_neg e, if_neg (fun e' => e e'.symm)]
theorem getD_set_bool (ts : List Bool) (d : Nat) (v : Bool) (j : Nat) (hd : d < ts.length) : (ts.set d v).getD j false = if j = d then v else ts.getD j false := by
  simp only [List.getD_eq_getElem?_getD, List.getElem?_set]
  by_cases e : d = j
  · subst e; rw [if_pos rfl, if_pos hd, if_pos rfl]; rfl
  · rw [if_neg e, if_neg (fun e' => e e'.symm)]
theorem Once.tell {m : M ByteArray} {ks : List ByteArray} {c d : Nat} {gs : List Bool} {ts : List Nat} (h : Once m ks c gs ts) (hcd : c ≤ d) (hd : d < ks.length) (hl : ts.length = ks.length)
    (hs : ∀ j, c ≤ j → j < d → look m (nmo ks j) = none) : Once m ks (d + 1) gs (ts.set d (ts.getD d 0 + 1)) := by
  have h0 := h.ahead d hd hcd
  refine ⟨h.gone, fun j hj hc => ?_, fun j hj hc => ?_⟩
  · rw [getD_set_nat _ _ _ _ (by omega), if_neg (by omega)]; exact h.ahead j hj (by omega)
  · rw [getD_set_nat _ _ _ _ (by omega)]
    by_cases e : j = d
    · rw [if_pos e, h0]; exact ⟨by omega, fun h => by omega⟩
    · rw [if_neg e]
      by_cases hjc : j < c
      · exact h.behind j hj hjc
      · exact ⟨by rw [h.ahead j hj (by omega)]; omega, fun _ => h.gone j hj (hs j (by omega) (by omega))⟩
theorem Once.stop {m : M ByteArray} {ks : List ByteArray} {c : Nat} {gs : List Bool} {ts : List Nat} (h : Once m ks c gs ts) (hs : ∀ j, c ≤ j → j < ks.length → look m (nmo ks j) = none) :
    ∀ j, j < ks.length → ts.getD j 0 ≤ 1 ∧ (ts.getD j 0 = 0 → gs.getD j false = true) := by
  intro j hj
  by_cases hjc : j < c
  · exact h.behind j hj hjc
  · exact ⟨by rw [h.ahead j hj (by omega)]; omega, fun _ => h.gone j hj (hs j (by omega) hj)⟩

/-! ### in memory -/
def bools (gs : List Bool) : Array Value := (gs.map Value.bool).toArray
def nums (ts : List Nat) : Array Value := (ts.map fun n : Nat => Value.int .i64 n).toArray
theorem bools_at {gs : List Bool} {j : Nat} (h : j < gs.length) : (bools gs)[j]? = some (.bool (gs.getD j false)) := by
  simp [bools, h]
theorem nums_at {ts : List Nat} {j : Nat} (h : j < ts.length) : (nums ts)[j]? = some (.int .i64 (ts.getD j 0 : Nat)) := by
  simp [nums, h]
theorem bools_set (gs : List Bool) (j : Nat) (v : Bool) : (bools gs).setIfInBounds j (.bool v) = bools (gs.set j v) := by
  simp [bools, List.map_set]
theorem nums_set (ts : List Nat) (j v : Nat) : (nums ts).setIfInBounds j (.int .i64 v) = nums (ts.set j v) := by
  simp [nums, List.map_set]
theorem made_one (z : Value) (n : Nat) : madeCells #[z] (n * 1) = (List.replicate n z).toArray := by
  apply Array.ext'
  apply List.ext_getElem?
  intro j
  rcases Nat.lt_or_ge j n with hj | hj
  · simp [madeCells, hj, Nat.mod_one]
  · rw [List.getElem?_eq_none (by simp [madeCells]; omega), List.getElem?_eq_none (by simp; omega)]
/-- All that the law holds while it walks. -/
structure Ws (w0 w : World) (f : Ft) (m : M ByteArray) (bw : Nat) (sl : Value) (rest : List ByteArray) (kv : Value) (ks : List ByteArray) (bg : Nat) (gs : List Bool) (bt : Nat) (ts : List Nat) : Prop where
  wo : Wo w0 w f m bw sl rest
  ky : Sl w kv (ks.map strV)
  kn : ∀ k, kv.ownBlock = some k → ¬ f.fp k ∧ k < w.heap.size ∧ k ≠ bw ∧ k ≠ bg ∧ k ≠ bt
  ag : At w bg (bools gs) 4
  at' : At w bt (nums ts) 3
  ng : ¬ f.fp bg ∧ bg ≠ bw ∧ w0.heap.size ≤ bg
  nt : ¬ f.fp bt ∧ bt ≠ bw ∧ bt ≠ bg ∧ w0.heap.size ≤ bt
  sn : ∀ k, sl.ownBlock = some k → k ≠ bg ∧ k ≠ bt
section
variable {w0 w w' : World} {f : Ft} {m : M ByteArray} {bw : Nat} {sl : Value} {rest : List ByteArray} {kv : Value} {ks : List ByteArray} {bg : Nat} {gs : List Bool} {bt : Nat} {ts : List Nat}
theorem Ws.next (h : Ws w0 w f m bw sl rest kv ks bg gs bt ts) (hE : Ext w w') : Ws w0 w' f m bw sl rest kv ks bg gs bt ts :=
  ⟨h.wo.next hE, h.ky.ext hE, fun k hk => ⟨(h.kn k hk).1, Nat.lt_of_lt_of_le (h.kn k hk).2.1 hE.size, (h.kn k hk).2.2⟩, At.ext hE h.ag, At.ext hE h.at', h.ng, h.nt, h.sn⟩
theorem Ws.map (h : Ws w0 w f m bw sl rest kv ks bg gs bt ts) {f' : Ft} {m' : M ByteArray} (hF : From w f f') (hO : Ow w0 w' f' m') (hK : Kp f.fp w w') : Ws w0 w' f' m' bw sl rest kv ks bg gs bt ts := by
  have hno : ∀ k, ¬ f.fp k → k < w.heap.size → ¬ f'.fp k := fun k h1 h2 hb => by
    rcases hF.2 k hb with h3 | h3
    · exact h1 h3
    · omega
  exact ⟨h.wo.map hF hO hK, h.ky.kp hK fun k hk => (h.kn k hk).1, fun k hk => ⟨hno k (h.kn k hk).1 (h.kn k hk).2.1, Nat.lt_of_lt_of_le (h.kn k hk).2.1 hK.size, (h.kn k hk).2.2⟩,
    At.kp hK h.ag h.ng.1, At.kp hK h.at' h.nt.1, ⟨hno _ h.ng.1 h.ag.lt, h.ng.2⟩, ⟨hno _ h.nt.1 h.at'.lt, h.nt.2⟩, h.sn⟩
theorem Ws.step (h : Ws w0 w f m bw sl rest kv ks bg gs bt ts) {sl' : Value} {rest' : List ByteArray} (hW : Wo w0 w' f m bw sl' rest') (hK : Kp (fun k => k = bw) w w') (hB : SubB sl' sl) : Ws w0 w' f m bw sl' rest' kv ks bg gs bt ts :=
  ⟨hW, h.ky.kp hK fun k hk => (h.kn k hk).2.2.1, fun k hk => ⟨(h.kn k hk).1, Nat.lt_of_lt_of_le (h.kn k hk).2.1 hK.size, (h.kn k hk).2.2⟩,
    At.kp hK h.ag h.ng.2.1, At.kp hK h.at' h.nt.2.1, h.ng, h.nt, fun k hk => h.sn k (hB k hk)⟩
theorem Ws.setg (h : Ws w0 w f m bw sl rest kv ks bg gs bt ts) (j : Nat) (v : Bool) : Ws w0 (w.setCell ⟨bg, j, none⟩ (.bool v)) f m bw sl rest kv ks bg (gs.set j v) bt ts := by
  have hK : Kp (fun k => k = bg) w (w.setCell ⟨bg, j, none⟩ (.bool v)) := Kp.setCell (S := fun k => k = bg) (a := ⟨bg, j, none⟩) (Kp.refl _ w) (.inl rfl) _
  refine ⟨h.wo.kp hK (fun k e => by subst e; exact h.ng.2.2) (fun k hk e => by subst e; exact h.ng.1 hk) (fun e => h.ng.2.1 e.symm) (fun k hk e => (h.sn k hk).1 e),
    h.ky.kp hK (fun k hk e => (h.kn k hk).2.2.2.1 e), fun k hk => ⟨(h.kn k hk).1, Nat.lt_of_lt_of_le (h.kn k hk).2.1 hK.size, (h.kn k hk).2.2⟩, ?_, At.kp hK h.at' (fun e => h.nt.2.2.1 e), h.ng, h.nt, h.sn⟩
  rw [← bools_set]; exact h.ag.set j _
theorem Ws.sett (h : Ws w0 w f m bw sl rest kv ks bg gs bt ts) (j : Nat) (v : Nat) : Ws w0 (w.setCell ⟨bt, j, none⟩ (.int .i64 v)) f m bw sl rest kv ks bg gs bt (ts.set j v) := by
  have hK : Kp (fun k => k = bt) w (w.setCell ⟨bt, j, none⟩ (.int .i64 v)) := Kp.setCell (S := fun k => k = bt) (a := ⟨bt, j, none⟩) (Kp.refl _ w) (.inl rfl) _
  refine ⟨h.wo.kp hK (fun k e => by subst e; exact h.nt.2.2.2) (fun k hk e => by subst e; exact h.nt.1 hk) (fun e => h.nt.2.1 e.symm) (fun k hk e => (h.sn k hk).2 e),
    h.ky.kp hK (fun k hk e => (h.kn k hk).2.2.2.2 e), fun k hk => ⟨(h.kn k hk).1, Nat.lt_of_lt_of_le (h.kn k hk).2.1 hK.size, (h.kn k hk).2.2⟩, At.kp hK h.ag (fun e => h.nt.2.2.1 e.symm), ?_, h.ng, h.nt, h.sn⟩
  rw [← nums_set]; exact h.at'.set j _
theorem Ws.drew (h : Ws w0 w f m bw sl rest kv ks bg gs bt ts) : Ws w0 w.drew f m bw sl rest kv ks bg gs bt ts := h.next (Ext.drew w)
end
theorem info4 : (Tryd.prog.info? 4).map (fun i => (i.zero, i.size, i.bytes)) = some (some (.bool false), 1, 1) := by kernel_rfl
theorem info3 : (Tryd.prog.info? 3).map (fun i => (i.zero, i.size, i.bytes)) = some (some (.int .i64 0), 1, 8) := by kernel_rfl
set_option maxHeartbeats 4000000
theorem WalkOnce_w (k0 k1 : Nat) (h0 : k0 < U) (h1 : k1 < U) (l l2 : List Act) (hll : l.length ≤ maxLen) (hll2 : l2.length ≤ maxLen) (v v2 : Value) (w : World) (hv : Ac w v l) (hv2 : Ac w v2 l2) (hSh : Sh w) :
    Calls Tryd.prog 5 #[.agg #[.int .u64 k0, .int .u64 k1], v, v2] w fun e w' => e = .returned (.bool true) ∧ Ext w w' := by
  have hL := fun w' (h : Ext w w') => lives_w w' (hSh.kp h (fun f => f))
  have hfew := fun w1 (h : Ext w w1) => few6_w l v w1 (hv.ext h) hll
  have hfew2 := fun w1 (h : Ext w w1) => few6_w l2 v2 w1 (hv2.ext h) hll2
  obtain ⟨p, ca, rfl, hca⟩ := id hv
  obtain ⟨p2, ca2, rfl, hca2⟩ := id hv2
  unfold maxLen at hll hll2
  obtain ⟨n, hn⟩ : ∃ n, Hid (l.length = n) := ⟨_, Lib.hid rfl⟩
  obtain ⟨n2, hn2⟩ : ∃ n, Hid (l2.length = n) := ⟨_, Lib.hid rfl⟩
  rw [hn.out] at hll hfew ⊢
  rw [hn2.out] at hll2 hfew2 ⊢
  have hN := fun w => New_w k0 k1 0 w
  rw [show need 0 = 1 from rfl] at hN
  have hm0 := made_inv (α := ByteArray) h0 h1 i.pw1
  have hn0 : (made (α := ByteArray) k0 k1 1).n = 0 := rfl
  have hk0 : (w.alloc (.cells #[.int .u64 k0, .int .u64 k1] 24)).cell? ⟨w.heap.size, 0, none⟩ = some (.int .u64 k0) := (At.new _ _ _).cell rfl
  have hk1 : (w.alloc (.cells #[.int .u64 k0, .int .u64 k1] 24)).cell? ⟨w.heap.size, 1, none⟩ = some (.int .u64 k1) := (At.new _ _ _).cell rfl
  have hE0 := Ext.alloc w (.cells #[.int .u64 k0, .int .u64 k1] 24)
  generalize (made k0 k1 1 : M ByteArray) = m0 at *
  have HN0 := Lib.hid hn0
  clear hn0 hv hv2
  go_enter Tryd.func5, Tryd.ntmps5
  go_wp2_with (go_at_call 13; refine (hN _).mono ?_; rintro e w1 (⟨h, _⟩ | ⟨_, f0, rfl, hI, hNw⟩); exact absurd h (by decide); have hO := new_o hE0 hI hm0 hNw; clear hN hk0 hk1 hE0 hI hNw)
  have hfw := hfew _ hO.ext
  refine hfw.mono ?_
  rintro e w2 ⟨bb, rfl, hE2, HF⟩
  clear hfw hfew
  have hO1 := hO.next hE2
  clear hO hE2
  cases bb with
  | false =>
    go_wp2_with (go_at_call 22; refine (hL _ hO1.ext).mono ?_; rintro e w3 ⟨rfl, hE3⟩)
    go_ret
    exact ⟨rfl, Ext.trans _ _ _ hO1.ext hE3⟩
  | true =>
    obtain ⟨hl6, hsz⟩ := HF.out rfl
    rw [hn.out] at hl6
    clear HF hll
    go_wp2_with fail
    have hfw := hfew2 _ hO1.ext
    refine hfw.mono ?_
    rintro e w2 ⟨bb, rfl, hE2, HF⟩
    clear hfw hfew2
    have hO := hO1.next hE2
    clear hO1 hE2
    cases bb with
    | false =>
      go_wp2_with (go_at_call 22; refine (hL _ hO.ext).mono ?_; rintro e w3 ⟨rfl, hE3⟩)
      go_ret
      exact ⟨rfl, Ext.trans _ _ _ hO.ext hE3⟩
    | true =>
      obtain ⟨hl62, hsz2⟩ := HF.out rfl
      rw [hn2.out] at hl62
      clear HF hll2 hsz hsz2
      go_wp2_with fail
      obtain ⟨b, hb⟩ : ∃ b, f0.b = b := ⟨_, rfl⟩
      rw [hb]
      have HB := Lib.hid hb
      clear hb
      go_loopw [47] (fun i wr => ∃ (k : Nat) (f : Ft) (m : M ByteArray), k ≤ n ∧ i = .int .i64 k ∧ Hid (f.b = b) ∧ Ow w wr f m ∧ m.n ≤ k) (fun i _ => n - (intOf i).toNat)
      case atStart => exact ⟨0, f0, m0, by omega, rfl, HB, hO, by rw [HN0.out]; decide⟩
      case round =>
        clear hO HB HN0
        obtain ⟨k, f, m, hk, rfl, HB, hO, hmn⟩ := hrel
        by_cases hlt : k < n
        · obtain ⟨a, ha⟩ : ∃ a, l[k]? = some a := ⟨l[k]'(by rw [hn.out]; exact hlt), by simp [hn.out, hlt]⟩
          obtain ⟨hs1, hs2, b1, o1, rfl, c0, c1, c2⟩ := hca k a ha
          have d0 := hO.ext.cell c0
          have d1 := hO.ext.cell c1
          have d2 := hO.ext.cell c2
          clear ha c0 c1 c2 hca hca2
          obtain ⟨kd, ky, vl⟩ := a
          simp only at hs1 hs2 d0 d1 d2
          have hky : ky.size ≤ maxLen := Nat.le_trans hs1 (by decide)
          have hOa := hO.alloc (.cells #[.int .i64 kd, .string ky, .string vl] 45)
          clear hO
          have hput := put_o hOa hSh ky hky vl (by omega)
          rw [HB.out] at hput
          unfold enc at hput
          go_wp2_with (go_at_call 17; refine hput.mono ?_; rintro e w4 ⟨rfl, f2, hF2, hO2, hp, _⟩)
          exact ⟨⟨k + 1, f2, _, by omega, by go_num, Lib.hid (hF2.1.trans HB.out), hO2, by rw [hp.n]; split <;> omega⟩, by simp [intOf]; omega⟩
        · obtain rfl : k = n := by omega
          clear hca
          have hkl := keys_length hO.inv
          have hnd := keys_nodup hO.inv
          have hmk := fun x => (mem_keys hO.inv (key := x)).1
          have hkn : ((keys m).length : Int) ≤ 500 := by rw [hkl]; omega
          have hkey := keys_o hO
          have hwn := fun w1 (h : Ow w w1 f m) => wNew_w h
          rw [HB.out] at hkey hwn
          generalize keys m = ks at *
          obtain ⟨q, hq⟩ : ∃ q, Hid (ks.length = q) := ⟨_, Lib.hid rfl⟩
          rw [hq.out] at hkn hkey
          have HMK := Lib.hid hmk
          have HND := Lib.hid hnd
          clear hkl hmk hnd
          have hfl := fun k (hk : f.fp k) => hO.is.lt hk
          go_upto_region 10 with (go_at_call 30; refine hkey.mono ?_; rintro e w3 ⟨pk, ck, rfl, hown, hO3, hE3⟩)
          have hky := Sl.row hown
          have hkn1 := fun k (hk : (Value.slice pk q ck).ownBlock = some k) => (⟨fun hb => by have := (hown.lt k hk).1; have := hfl k hb; omega, (hown.lt k hk).2⟩ : ¬ f.fp k ∧ k < w3.heap.size)
          clear hown hkey hO
          have z4 : (Value.bool false).cells = #[.bool false] := rfl
          have z3 : (Value.int .i64 0).cells = #[.int .i64 0] := rfl
          go_wp2_with (first
            | (at_make; refine makeL rfl _ _ 58 rfl 4 info4 Tryd.underlying58 (by decide) _ _ _ _ q rfl rfl rfl rfl (by omega) ?_; intro w4 hA4 hE4; rw [z4, made_one] at hA4)
            | (at_make; refine makeL rfl _ _ 59 rfl 3 info3 Tryd.underlying59 (by decide) _ _ _ _ q rfl rfl rfl rfl (by omega) ?_; intro w5 hA5 hE5; rw [z3, made_one] at hA5))
          have hO5 := (hO3.next hE4).next hE5
          refine (hwn _ hO5).mono ?_
          rintro e w6 ⟨bw, sl, rfl, hW, hE6, hbw, hslb⟩
          have hs3 := hE3.size
          have hs4 := hE4.size
          have hs5 := hE5.size
          have hs6 := hE6.size
          have hl4 := hA4.lt
          have hl5 := hA5.lt
          obtain ⟨bg, hbg⟩ : ∃ bg, bg = w3.heap.size := ⟨_, rfl⟩
          obtain ⟨bt, hbt⟩ : ∃ bt, bt = w4.heap.size := ⟨_, rfl⟩
          have hO3s := hO3.ext.size
          have hWs : Ws w w6 f m bw sl ks (.slice pk q ck) ks bg (List.replicate q false) bt (List.replicate q 0) := by
            subst hbg hbt
            refine ⟨hW, ((hky.ext hE4).ext hE5).ext hE6, fun k hk => ?_, ?_, ?_, ⟨fun hb => ?_, by omega, by omega⟩, ⟨fun hb => ?_, by omega, by omega, by omega⟩, fun k hk => ?_⟩
            · obtain ⟨x1, x2⟩ := hkn1 k hk
              exact ⟨x1, by omega, by omega, by omega, by omega⟩
            · have : bools (List.replicate q false) = (List.replicate q (Value.bool false)).toArray := by simp [bools]
              rw [this]; exact At.ext hE6 (At.ext hE5 hA4)
            · have : nums (List.replicate q 0) = (List.replicate q (Value.int .i64 0)).toArray := by simp [nums]
              rw [this]; exact At.ext hE6 hA5
            · have := hfl _ hb; omega
            · have := hfl _ hb; omega
            · have := hslb k hk; exact ⟨by omega, by omega⟩
          have hOn : Once m ks 0 (List.replicate q false) (List.replicate q 0) := ⟨(fun j hj hl => by
              have := HMK.out (nmo ks j) (List.mem_of_getElem? (nmo_at hj))
              rw [hl] at this; cases this), fun j hj _ => by rw [List.getD_eq_getElem?_getD, List.getElem?_replicate]; split <;> rfl, fun j _ h => by omega⟩
          rw [← hbg, ← hbt]
          have HOn := Lib.hid hOn
          have hkr : Hid (ks = ks.drop 0) := Lib.hid rfl
          have hgl : Hid ((List.replicate q false).length = q) := Lib.hid (by simp)
          have htl : Hid ((List.replicate q (0 : Nat)).length = q) := Lib.hid (by simp)
          generalize List.replicate q false = gs0 at *
          generalize List.replicate q (0 : Nat) = ts0 at *
          clear hW hE6 hbw hslb hs3 hs4 hs5 hs6 hl4 hl5 hbg hbt hO3s hA4 hA5 hkn1 hO3 hO5 hwn z3 z4 hOn hfl hky hE3 hE4 hE5
          go_wp2_with fail
          go_loopg [14, 15] 2000 (fun g v14 v15 wr => ∃ (ia nn : Nat) (f : Ft) (m : M ByteArray) (sl : Value) (c : Nat) (gs : List Bool) (ts : List Nat), v14 = .int .i64 ia ∧ v15 = .int .i64 nn ∧ g + nn = 2000 ∧ ia ≤ n2 ∧ nn ≤ c ∧ c ≤ q ∧ Hid (f.b = b) ∧
              Ws w wr f m bw sl (ks.drop c) (.slice pk q ck) ks bg gs bt ts ∧ m.n ≤ 500 + (ia : Int) ∧ Hid (gs.length = q) ∧ Hid (ts.length = q) ∧ Hid (Once m ks c gs ts))
          case atStart => exact ⟨0, 0, f, m, sl, 0, gs0, ts0, rfl, rfl, rfl, by omega, by omega, by omega, HB, by rw [← hkr.out]; exact hWs, by omega, hgl, htl, HOn⟩
          case round =>
            clear hWs HOn hgl htl hkr HB hmn HMK
            obtain ⟨ia, nn, f, m, sl, c, gs, ts, rfl, rfl, hg, hia, hnc, hcq, HB, hWs, hmn, hgl, htl, HOn⟩ := hrel
            have hnn : nn < 2000 := by omega
            go_upto_if 75 with (fail)
            go_cut [14] (fun v14 wx => ∃ (ia' : Nat) (f' : Ft) (m' : M ByteArray) (gs' : List Bool), v14 = .int .i64 ia' ∧ ia' ≤ n2 ∧ Hid (f'.b = b) ∧
              Ws w wx f' m' bw sl (ks.drop c) (.slice pk q ck) ks bg gs' bt ts ∧ m'.n ≤ 500 + (ia' : Int) ∧ Hid (gs'.length = q) ∧ Hid (Once m' ks c gs' ts))
            case first =>
              by_cases hlt2 : ia < n2
              · obtain ⟨a, ha⟩ : ∃ a, l2[ia]? = some a := ⟨l2[ia]'(by rw [hn2.out]; exact hlt2), by simp [hn2.out, hlt2]⟩
                obtain ⟨hs1, hs2, b1, o1, rfl, c0, c1, c2⟩ := hca2 ia a ha
                have d0 := hWs.wo.ow.ext.cell c0
                have d1 := hWs.wo.ow.ext.cell c1
                have d2 := hWs.wo.ow.ext.cell c2
                clear ha c0 c1 c2 hca2
                obtain ⟨kd, ky, vl⟩ := a
                simp only at hs1 hs2 d0 d1 d2
                have hky : ky.size ≤ maxLen := Nat.le_trans hs1 (by decide)
                have hWa := hWs.next (Ext.alloc wr (.cells #[.int .i64 kd, .string ky, .string vl] 45))
                have hAt := At.new wr #[.int .i64 kd, .string ky, .string vl] 45
                have hfl := fun k (hk : f.fp k) => hWs.wo.ow.is.lt hk
                have hbgl := hWs.ag.lt
                clear hWs
                by_cases hkd : kd = 1
                · subst hkd
                  have hdel := del_o hWa.wo.ow hSh ky hky
                  rw [HB.out] at hdel
                  go_wp2_with (go_at_call 16; refine hdel.mono ?_; rintro e w4 ⟨rfl, hO2, hp, hK⟩)
                  have hWb := hWa.map (From.refl _ _) hO2 hK
                  have hAb := At.kp hK hAt (fun hb => by have := hfl _ hb; omega)
                  obtain ⟨bA, hbA⟩ : ∃ bA, wr.heap.size = bA := ⟨_, rfl⟩
                  rw [hbA] at hAb hbgl ⊢
                  have hmn2 : (del m ky).1.n ≤ 500 + ((ia + 1 : Nat) : Int) := by rw [hp.n]; split <;> omega
                  have HD := Lib.hid (fun (gs' : List Bool) (hg : ∀ j, j < ks.length → gs'.getD j false = (gs.getD j false || decide (nmo ks j = ky))) => HOn.out.del hp hg)
                  generalize (del m ky).1 = m2 at *
                  have hbab : bA ≠ bg := by omega
                  clear hp hK hO2 hWa hAt hdel HOn hfl
                  obtain ⟨wo, rfl⟩ : ∃ wo : World, wo = wr := ⟨_, rfl⟩
                  go_loopg [91] q (fun g i wr => ∃ (j : Nat) (gs2 : List Bool), g + j = q ∧ i = .int .i64 j ∧ Ws w wr f m2 bw sl (ks.drop c) (.slice pk q ck) ks bg gs2 bt ts ∧ At wr bA #[.int .i64 1, .string ky, .string vl] 45 ∧ Hid (gs2.length = q) ∧
                    Hid (∀ j', j' < q → gs2.getD j' false = (gs.getD j' false || (decide (j' < j) && decide (nmo ks j' = ky)))))
                  case atStart => exact ⟨0, gs, by omega, rfl, hWb, hAb, hgl, Lib.hid (fun j' _ => by simp)⟩
                  case round =>
                    clear hWb hAb hgl
                    obtain ⟨j, gs2, hjq, rfl, hWs, hAb, hgl, HG⟩ := hrel
                    by_cases hlj : j < q
                    · have hjk : j < ks.length := by rw [hq.out]; exact hlj
                      have hjg : j < gs2.length := by rw [hgl.out]; exact hlj
                      obtain ⟨p', c', ee, hc⟩ := id hWs.ky
                      obtain rfl : pk = p' := by injection ee
                      obtain ⟨b3, o3, rfl, hc3⟩ := hc j (strV (nmo ks j)) (by rw [List.getElem?_map, nmo_at hjk]; rfl)
                      unfold strV at hc3
                      have hcg : wr.cell? ⟨bg, j, none⟩ = some (.bool (gs2.getD j false)) := hWs.ag.cell (bools_at hjg)
                      have hfg := hWs.ag.frozen j
                      have hbl := hWs.ag.lt
                      have hca1 : wr.cell? ⟨bA, 1, none⟩ = some (.string ky) := hAb.cell rfl
                      obtain ⟨g0, hg0⟩ : ∃ g0, Hid (gs2.getD j false = g0) := ⟨_, Lib.hid rfl⟩
                      rw [hg0.out] at hcg
                      clear hc ee
                      have fin : ∀ (W : World) (v : Bool), Ext wr W → v = (gs2.getD j false || decide (nmo ks j = ky)) → ∃ gs3, Ws w (W.setCell ⟨bg, j, none⟩ (.bool v)) f m2 bw sl (ks.drop c) (.slice (some ⟨b3, o3, none⟩) q ck) ks bg gs3 bt ts ∧
                          At (W.setCell ⟨bg, j, none⟩ (.bool v)) bA #[.int .i64 1, .string ky, .string vl] 45 ∧ Hid (gs3.length = q) ∧ Hid (∀ j', j' < q → gs3.getD j' false = (gs.getD j' false || (decide (j' < j + 1) && decide (nmo ks j' = ky)))) := by
                        intro W v hE hv
                        refine ⟨_, (hWs.next hE).setg j v, (At.ext hE hAb).setO (a := ⟨bg, j, none⟩) hbab _, Lib.hid (by rw [List.length_set]; exact hgl.out), Lib.hid (fun j' hj' => ?_)⟩
                        rw [getD_set_bool _ _ _ _ hjg]
                        by_cases e : j' = j
                        · subst e
                          rw [if_pos rfl, hv, HG.out j' hj']
                          simp
                        · rw [if_neg e, HG.out j' hj']
                          by_cases e2 : j' < j
                          · simp [e2, show j' < j + 1 by omega]
                          · simp [e2, show ¬ j' < j + 1 by omega]
                      have FIN := Lib.hid fin
                      clear fin
                      cases g0 with
                      | true =>
                        go_wp2_with fail
                        apply Rg.regionL (Ext) [.c _ _, .c _ _, .c _ _, .c _ _, .c _ _, .c _ _, .c _ _, .c _ _, .c _ _, .c _ _, .c _ _, .c _ _, .c _ _, .c _ _, .c _ _]
                          [(some 94, 0), (some 95, 1), (some 96, 2), (some 97, 3), (some 98, 4), (some 99, 5), (some 100, 6), (some 101, 7), (some 102, 8), (some 103, 9), (some 104, 10), (some 105, 11), (some 106, 12), (some 107, 13), (some 108, 14)]
                          [[], [], [], [], [(some 96, 2), (some 97, 3)], [(some 98, 4)], [(some 99, 5)], [(some 100, 6)], [(some 100, 6)], [(some 100, 6), (some 101, 7), (some 102, 8)], [(some 100, 6), (some 103, 9)], [(some 100, 6)], [(some 100, 6), (some 105, 11)], [(some 100, 6), (some 104, 10), (some 106, 12)], [(some 100, 6), (some 107, 13)]]
                          (by kernel_rfl) (by kernel_rfl) Ext.refl Ext.trans
                        case hops =>
                          refine ⟨?_, ?_, ?_, ?_, ?_, ?_, ?_, ?_, ?_, ?_, ?_, ?_, ?_, ?_, ?_, trivial⟩
                          · intro vs W hR 
                            simp only [Rg.Deps, Rg.frameE, List.foldl]
                            go_wp2
                            exact ⟨_, rfl, Ext.refl _, rfl⟩
                          · intro vs W hR 
                            simp only [Rg.Deps, Rg.frameE, List.foldl]
                            go_wp2
                            exact ⟨_, rfl, Ext.refl _, rfl⟩
                          · intro vs W hR 
                            simp only [Rg.Deps, Rg.frameE, List.foldl]
                            go_wp2
                            exact ⟨_, rfl, Ext.refl _, rfl⟩
                          · intro vs W hR 
                            simp only [Rg.Deps, Rg.frameE, List.foldl]
                            go_wp2
                            exact ⟨_, rfl, Ext.refl _, rfl⟩
                          · intro vs W hR h2 h3
                            replace h2 : vs 2 = _ := h2
                            replace h3 : vs 3 = _ := h3
                            have fx0 := hR.cell hcg
                            have fx1 := hR.cell hc3
                            have fx2 := hR.cell hca1
                            simp only [Rg.Deps, Rg.frameE, List.foldl, h2, h3]
                            go_wp2
                            exact ⟨_, rfl, Ext.refl _, rfl⟩
                          · intro vs W hR h4
                            replace h4 : vs 4 = _ := h4
                            have fx0 := hR.cell hcg
                            have fx1 := hR.cell hc3
                            have fx2 := hR.cell hca1
                            simp only [Rg.Deps, Rg.frameE, List.foldl, h4]
                            go_wp2
                            exact ⟨_, rfl, Ext.refl _, rfl⟩
                          · intro vs W hR h5
                            replace h5 : vs 5 = _ := h5
                            simp only [Rg.Deps, Rg.frameE, List.foldl, h5]
                            go_wp2
                            exact ⟨_, rfl, Ext.refl _, rfl⟩
                          · intro vs W hR h6
                            replace h6 : vs 6 = _ := h6
                            simp only [Rg.Deps, Rg.frameE, List.foldl, h6]
                            go_wp2
                            exact ⟨_, rfl, Ext.refl _, rfl⟩
                          · intro vs W hR h6
                            replace h6 : vs 6 = _ := h6
                            simp only [Rg.Deps, Rg.frameE, List.foldl, h6]
                            go_wp2
                            exact ⟨_, rfl, Ext.refl _, rfl⟩
                          · intro vs W hR h6 h7 h8
                            replace h6 : vs 6 = _ := h6
                            replace h7 : vs 7 = _ := h7
                            replace h8 : vs 8 = _ := h8
                            have fx0 := hR.cell hcg
                            have fx1 := hR.cell hc3
                            have fx2 := hR.cell hca1
                            simp only [Rg.Deps, Rg.frameE, List.foldl, h6, h7, h8]
                            go_wp2
                            exact ⟨_, rfl, Ext.refl _, rfl⟩
                          · intro vs W hR h6 h9
                            replace h6 : vs 6 = _ := h6
                            replace h9 : vs 9 = _ := h9
                            have fx0 := hR.cell hcg
                            have fx1 := hR.cell hc3
                            have fx2 := hR.cell hca1
                            simp only [Rg.Deps, Rg.frameE, List.foldl, h6, h9]
                            go_wp2
                            exact ⟨_, rfl, Ext.refl _, rfl⟩
                          · intro vs W hR h6
                            replace h6 : vs 6 = _ := h6
                            simp only [Rg.Deps, Rg.frameE, List.foldl, h6]
                            go_wp2
                            exact ⟨_, rfl, Ext.refl _, rfl⟩
                          · intro vs W hR h6 h11
                            replace h6 : vs 6 = _ := h6
                            replace h11 : vs 11 = _ := h11
                            have fx0 := hR.cell hcg
                            have fx1 := hR.cell hc3
                            have fx2 := hR.cell hca1
                            simp only [Rg.Deps, Rg.frameE, List.foldl, h6, h11]
                            go_wp2
                            exact ⟨_, rfl, Ext.refl _, rfl⟩
                          · intro vs W hR h6 h10 h12
                            replace h6 : vs 6 = _ := h6
                            replace h10 : vs 10 = _ := h10
                            replace h12 : vs 12 = _ := h12
                            simp only [Rg.Deps, Rg.frameE, List.foldl, h6, h10, h12]
                            go_wp2
                            exact ⟨_, rfl, Ext.refl _, rfl⟩
                          · intro vs W hR h6 h13
                            replace h6 : vs 6 = _ := h6
                            replace h13 : vs 13 = _ := h13
                            simp only [Rg.Deps, Rg.frameE, List.foldl, h6, h13]
                            go_wp2
                            exact ⟨_, rfl, Ext.refl _, rfl⟩
                        case htail =>
                          intro vs W hR h0 h1 h2 h3 h4 h5 h6 h7 h8 h9 h10 h11 h12 h13 h14
                          replace h0 : vs 0 = _ := h0
                          replace h1 : vs 1 = _ := h1
                          replace h2 : vs 2 = _ := h2
                          replace h3 : vs 3 = _ := h3
                          replace h4 : vs 4 = _ := h4
                          replace h5 : vs 5 = _ := h5
                          replace h6 : vs 6 = _ := h6
                          replace h7 : vs 7 = _ := h7
                          replace h8 : vs 8 = _ := h8
                          replace h9 : vs 9 = _ := h9
                          replace h10 : vs 10 = _ := h10
                          replace h11 : vs 11 = _ := h11
                          replace h12 : vs 12 = _ := h12
                          replace h13 : vs 13 = _ := h13
                          replace h14 : vs 14 = _ := h14
                          simp only [Rg.Facts, Rg.frameE, List.foldl, List.drop, List.length, h0, h1, h2, h3, h4, h5, h6, h7, h8, h9, h10, h11, h12, h13, h14]
                          clear h0 h1 h2 h3 h4 h5 h6 h7 h8 h9 h10 h11 h12 h13 h14
                          simp only [Act.put, List.setIfInBounds_toArray, List.set_cons_zero, List.set_cons_succ]
                          have hEW : Ext wr W := Ext.trans _ _ _ (Ext.drew wr) hR
                          have e1 := hR.frozen (i := j) (b := bg) (by exact hbl)
                          have e2 : W.frozen? ⟨bg, j, none⟩ = false := e1.trans hfg
                          have e3 := hEW.cell hcg
                          obtain ⟨gs3, k1, k2, k3, k4⟩ := FIN.out W true hEW (by rw [hg0.out]; rfl)
                          clear e1 FIN hR hcg hc3 hca1 hfg hWs hAb HG
                          go_wp2_with fail
                          go_roundg (gk - 1)
                          case measure => omega
                          case rel => exact ⟨j + 1, gs3, by omega, by go_num, k1, k2, k3, k4⟩
                      | false =>
                        by_cases hkk : nmo ks j = ky
                        · subst hkk
                          go_wp2_with fail
                          apply Rg.regionL (Ext) [.c _ _, .c _ _, .c _ _, .c _ _, .c _ _, .c _ _, .c _ _, .c _ _, .c _ _, .c _ _, .c _ _, .c _ _, .c _ _, .c _ _, .c _ _]
                            [(some 94, 0), (some 95, 1), (some 96, 2), (some 97, 3), (some 98, 4), (some 99, 5), (some 100, 6), (some 101, 7), (some 102, 8), (some 103, 9), (some 104, 10), (some 105, 11), (some 106, 12), (some 107, 13), (some 108, 14)]
                            [[], [], [], [], [(some 96, 2), (some 97, 3)], [(some 98, 4)], [(some 99, 5)], [(some 100, 6)], [(some 100, 6)], [(some 100, 6), (some 101, 7), (some 102, 8)], [(some 100, 6), (some 103, 9)], [(some 100, 6)], [(some 100, 6), (some 105, 11)], [(some 100, 6), (some 104, 10), (some 106, 12)], [(some 100, 6), (some 107, 13)]]
                            (by kernel_rfl) (by kernel_rfl) Ext.refl Ext.trans
                          case hops =>
                            refine ⟨?_, ?_, ?_, ?_, ?_, ?_, ?_, ?_, ?_, ?_, ?_, ?_, ?_, ?_, ?_, trivial⟩
                            · intro vs W hR 
                              simp only [Rg.Deps, Rg.frameE, List.foldl]
                              go_wp2
                              exact ⟨_, rfl, Ext.refl _, rfl⟩
                            · intro vs W hR 
                              simp only [Rg.Deps, Rg.frameE, List.foldl]
                              go_wp2
                              exact ⟨_, rfl, Ext.refl _, rfl⟩
                            · intro vs W hR 
                              simp only [Rg.Deps, Rg.frameE, List.foldl]
                              go_wp2
                              exact ⟨_, rfl, Ext.refl _, rfl⟩
                            · intro vs W hR 
                              simp only [Rg.Deps, Rg.frameE, List.foldl]
                              go_wp2
                              exact ⟨_, rfl, Ext.refl _, rfl⟩
                            · intro vs W hR h2 h3
                              replace h2 : vs 2 = _ := h2
                              replace h3 : vs 3 = _ := h3
                              have fx0 := hR.cell hcg
                              have fx1 := hR.cell hc3
                              have fx2 := hR.cell hca1
                              simp only [Rg.Deps, Rg.frameE, List.foldl, h2, h3]
                              go_wp2
                              exact ⟨_, rfl, Ext.refl _, rfl⟩
                            · intro vs W hR h4
                              replace h4 : vs 4 = _ := h4
                              have fx0 := hR.cell hcg
                              have fx1 := hR.cell hc3
                              have fx2 := hR.cell hca1
                              simp only [Rg.Deps, Rg.frameE, List.foldl, h4]
                              go_wp2
                              exact ⟨_, rfl, Ext.refl _, rfl⟩
                            · intro vs W hR h5
                              replace h5 : vs 5 = _ := h5
                              simp only [Rg.Deps, Rg.frameE, List.foldl, h5]
                              go_wp2
                              exact ⟨_, rfl, Ext.refl _, rfl⟩
                            · intro vs W hR h6
                              replace h6 : vs 6 = _ := h6
                              simp only [Rg.Deps, Rg.frameE, List.foldl, h6]
                              go_wp2
                              exact ⟨_, rfl, Ext.refl _, rfl⟩
                            · intro vs W hR h6
                              replace h6 : vs 6 = _ := h6
                              simp only [Rg.Deps, Rg.frameE, List.foldl, h6]
                              go_wp2
                              exact ⟨_, rfl, Ext.refl _, rfl⟩
                            · intro vs W hR h6 h7 h8
                              replace h6 : vs 6 = _ := h6
                              replace h7 : vs 7 = _ := h7
                              replace h8 : vs 8 = _ := h8
                              have fx0 := hR.cell hcg
                              have fx1 := hR.cell hc3
                              have fx2 := hR.cell hca1
                              simp only [Rg.Deps, Rg.frameE, List.foldl, h6, h7, h8]
                              go_wp2
                              exact ⟨_, rfl, Ext.refl _, rfl⟩
                            · intro vs W hR h6 h9
                              replace h6 : vs 6 = _ := h6
                              replace h9 : vs 9 = _ := h9
                              have fx0 := hR.cell hcg
                              have fx1 := hR.cell hc3
                              have fx2 := hR.cell hca1
                              simp only [Rg.Deps, Rg.frameE, List.foldl, h6, h9]
                              go_wp2
                              exact ⟨_, rfl, Ext.refl _, rfl⟩
                            · intro vs W hR h6
                              replace h6 : vs 6 = _ := h6
                              simp only [Rg.Deps, Rg.frameE, List.foldl, h6]
                              go_wp2
                              exact ⟨_, rfl, Ext.refl _, rfl⟩
                            · intro vs W hR h6 h11
                              replace h6 : vs 6 = _ := h6
                              replace h11 : vs 11 = _ := h11
                              have fx0 := hR.cell hcg
                              have fx1 := hR.cell hc3
                              have fx2 := hR.cell hca1
                              simp only [Rg.Deps, Rg.frameE, List.foldl, h6, h11]
                              go_wp2
                              exact ⟨_, rfl, Ext.refl _, rfl⟩
                            · intro vs W hR h6 h10 h12
                              replace h6 : vs 6 = _ := h6
                              replace h10 : vs 10 = _ := h10
                              replace h12 : vs 12 = _ := h12
                              simp only [Rg.Deps, Rg.frameE, List.foldl, h6, h10, h12]
                              go_wp2
                              exact ⟨_, rfl, Ext.refl _, rfl⟩
                            · intro vs W hR h6 h13
                              replace h6 : vs 6 = _ := h6
                              replace h13 : vs 13 = _ := h13
                              simp only [Rg.Deps, Rg.frameE, List.foldl, h6, h13]
                              go_wp2
                              exact ⟨_, rfl, Ext.refl _, rfl⟩
                          case htail =>
                            intro vs W hR h0 h1 h2 h3 h4 h5 h6 h7 h8 h9 h10 h11 h12 h13 h14
                            replace h0 : vs 0 = _ := h0
                            replace h1 : vs 1 = _ := h1
                            replace h2 : vs 2 = _ := h2
                            replace h3 : vs 3 = _ := h3
                            replace h4 : vs 4 = _ := h4
                            replace h5 : vs 5 = _ := h5
                            replace h6 : vs 6 = _ := h6
                            replace h7 : vs 7 = _ := h7
                            replace h8 : vs 8 = _ := h8
                            replace h9 : vs 9 = _ := h9
                            replace h10 : vs 10 = _ := h10
                            replace h11 : vs 11 = _ := h11
                            replace h12 : vs 12 = _ := h12
                            replace h13 : vs 13 = _ := h13
                            replace h14 : vs 14 = _ := h14
                            simp only [Rg.Facts, Rg.frameE, List.foldl, List.drop, List.length, h0, h1, h2, h3, h4, h5, h6, h7, h8, h9, h10, h11, h12, h13, h14]
                            clear h0 h1 h2 h3 h4 h5 h6 h7 h8 h9 h10 h11 h12 h13 h14
                            simp only [Act.put, List.setIfInBounds_toArray, List.set_cons_zero, List.set_cons_succ]
                            have hEW : Ext wr W := Ext.trans _ _ _ (Ext.drew wr) hR
                            have e1 := hR.frozen (i := j) (b := bg) (by exact hbl)
                            have e2 : W.frozen? ⟨bg, j, none⟩ = false := e1.trans hfg
                            have e3 := hEW.cell hcg
                            obtain ⟨gs3, k1, k2, k3, k4⟩ := FIN.out W true hEW (by rw [hg0.out]; simp)
                            clear e1 FIN hR hcg hc3 hca1 hfg hWs hAb HG
                            go_wp2_with fail
                            go_roundg (gk - 1)
                            case measure => omega
                            case rel => exact ⟨j + 1, gs3, by omega, by go_num, k1, k2, k3, k4⟩
                        · have hne := ba_ne hkk
                          go_wp2_with fail
                          apply Rg.regionL (Ext) [.c _ _, .c _ _, .c _ _, .c _ _, .c _ _, .c _ _, .c _ _, .c _ _, .c _ _, .c _ _, .c _ _, .c _ _, .c _ _, .c _ _, .c _ _]
                            [(some 94, 0), (some 95, 1), (some 96, 2), (some 97, 3), (some 98, 4), (some 99, 5), (some 100, 6), (some 101, 7), (some 102, 8), (some 103, 9), (some 104, 10), (some 105, 11), (some 106, 12), (some 107, 13), (some 108, 14)]
                            [[], [], [], [], [(some 96, 2), (some 97, 3)], [(some 98, 4)], [(some 99, 5)], [(some 100, 6)], [(some 100, 6)], [(some 100, 6), (some 101, 7), (some 102, 8)], [(some 100, 6), (some 103, 9)], [(some 100, 6)], [(some 100, 6), (some 105, 11)], [(some 100, 6), (some 104, 10), (some 106, 12)], [(some 100, 6), (some 107, 13)]]
                            (by kernel_rfl) (by kernel_rfl) Ext.refl Ext.trans
                          case hops =>
                            refine ⟨?_, ?_, ?_, ?_, ?_, ?_, ?_, ?_, ?_, ?_, ?_, ?_, ?_, ?_, ?_, trivial⟩
                            · intro vs W hR 
                              simp only [Rg.Deps, Rg.frameE, List.foldl]
                              go_wp2
                              exact ⟨_, rfl, Ext.refl _, rfl⟩
                            · intro vs W hR 
                              simp only [Rg.Deps, Rg.frameE, List.foldl]
                              go_wp2
                              exact ⟨_, rfl, Ext.refl _, rfl⟩
                            · intro vs W hR 
                              simp only [Rg.Deps, Rg.frameE, List.foldl]
                              go_wp2
                              exact ⟨_, rfl, Ext.refl _, rfl⟩
                            · intro vs W hR 
                              simp only [Rg.Deps, Rg.frameE, List.foldl]
                              go_wp2
                              exact ⟨_, rfl, Ext.refl _, rfl⟩
                            · intro vs W hR h2 h3
                              replace h2 : vs 2 = _ := h2
                              replace h3 : vs 3 = _ := h3
                              have fx0 := hR.cell hcg
                              have fx1 := hR.cell hc3
                              have fx2 := hR.cell hca1
                              simp only [Rg.Deps, Rg.frameE, List.foldl, h2, h3]
                              go_wp2
                              exact ⟨_, rfl, Ext.refl _, rfl⟩
                            · intro vs W hR h4
                              replace h4 : vs 4 = _ := h4
                              have fx0 := hR.cell hcg
                              have fx1 := hR.cell hc3
                              have fx2 := hR.cell hca1
                              simp only [Rg.Deps, Rg.frameE, List.foldl, h4]
                              go_wp2
                              exact ⟨_, rfl, Ext.refl _, rfl⟩
                            · intro vs W hR h5
                              replace h5 : vs 5 = _ := h5
                              simp only [Rg.Deps, Rg.frameE, List.foldl, h5]
                              go_wp2
                              exact ⟨_, rfl, Ext.refl _, rfl⟩
                            · intro vs W hR h6
                              replace h6 : vs 6 = _ := h6
                              simp only [Rg.Deps, Rg.frameE, List.foldl, h6]
                              go_wp2
                              exact ⟨_, rfl, Ext.refl _, rfl⟩
                            · intro vs W hR h6
                              replace h6 : vs 6 = _ := h6
                              simp only [Rg.Deps, Rg.frameE, List.foldl, h6]
                              go_wp2
                              exact ⟨_, rfl, Ext.refl _, rfl⟩
                            · intro vs W hR h6 h7 h8
                              replace h6 : vs 6 = _ := h6
                              replace h7 : vs 7 = _ := h7
                              replace h8 : vs 8 = _ := h8
                              have fx0 := hR.cell hcg
                              have fx1 := hR.cell hc3
                              have fx2 := hR.cell hca1
                              simp only [Rg.Deps, Rg.frameE, List.foldl, h6, h7, h8]
                              go_wp2
                              exact ⟨_, rfl, Ext.refl _, rfl⟩
                            · intro vs W hR h6 h9
                              replace h6 : vs 6 = _ := h6
                              replace h9 : vs 9 = _ := h9
                              have fx0 := hR.cell hcg
                              have fx1 := hR.cell hc3
                              have fx2 := hR.cell hca1
                              simp only [Rg.Deps, Rg.frameE, List.foldl, h6, h9]
                              go_wp2
                              exact ⟨_, rfl, Ext.refl _, rfl⟩
                            · intro vs W hR h6
                              replace h6 : vs 6 = _ := h6
                              simp only [Rg.Deps, Rg.frameE, List.foldl, h6]
                              go_wp2
                              exact ⟨_, rfl, Ext.refl _, rfl⟩
                            · intro vs W hR h6 h11
                              replace h6 : vs 6 = _ := h6
                              replace h11 : vs 11 = _ := h11
                              have fx0 := hR.cell hcg
                              have fx1 := hR.cell hc3
                              have fx2 := hR.cell hca1
                              simp only [Rg.Deps, Rg.frameE, List.foldl, h6, h11]
                              go_wp2
                              exact ⟨_, rfl, Ext.refl _, rfl⟩
                            · intro vs W hR h6 h10 h12
                              replace h6 : vs 6 = _ := h6
                              replace h10 : vs 10 = _ := h10
                              replace h12 : vs 12 = _ := h12
                              simp only [Rg.Deps, Rg.frameE, List.foldl, h6, h10, h12]
                              go_wp2
                              exact ⟨_, rfl, Ext.refl _, rfl⟩
                            · intro vs W hR h6 h13
                              replace h6 : vs 6 = _ := h6
                              replace h13 : vs 13 = _ := h13
                              simp only [Rg.Deps, Rg.frameE, List.foldl, h6, h13]
                              go_wp2
                              exact ⟨_, rfl, Ext.refl _, rfl⟩
                          case htail =>
                            intro vs W hR h0 h1 h2 h3 h4 h5 h6 h7 h8 h9 h10 h11 h12 h13 h14
                            replace h0 : vs 0 = _ := h0
                            replace h1 : vs 1 = _ := h1
                            replace h2 : vs 2 = _ := h2
                            replace h3 : vs 3 = _ := h3
                            replace h4 : vs 4 = _ := h4
                            replace h5 : vs 5 = _ := h5
                            replace h6 : vs 6 = _ := h6
                            replace h7 : vs 7 = _ := h7
                            replace h8 : vs 8 = _ := h8
                            replace h9 : vs 9 = _ := h9
                            replace h10 : vs 10 = _ := h10
                            replace h11 : vs 11 = _ := h11
                            replace h12 : vs 12 = _ := h12
                            replace h13 : vs 13 = _ := h13
                            replace h14 : vs 14 = _ := h14
                            simp only [Rg.Facts, Rg.frameE, List.foldl, List.drop, List.length, h0, h1, h2, h3, h4, h5, h6, h7, h8, h9, h10, h11, h12, h13, h14]
                            clear h0 h1 h2 h3 h4 h5 h6 h7 h8 h9 h10 h11 h12 h13 h14
                            simp only [Act.put, List.setIfInBounds_toArray, List.set_cons_zero, List.set_cons_succ]
                            have hEW : Ext wr W := Ext.trans _ _ _ (Ext.drew wr) hR
                            have e1 := hR.frozen (i := j) (b := bg) (by exact hbl)
                            have e2 : W.frozen? ⟨bg, j, none⟩ = false := e1.trans hfg
                            have e3 := hEW.cell hcg
                            obtain ⟨gs3, k1, k2, k3, k4⟩ := FIN.out W false hEW (by rw [hg0.out]; simp [hkk])
                            clear e1 FIN hR hcg hc3 hca1 hfg hWs hAb HG
                            go_wp2_with fail
                            go_roundg (gk - 1)
                            case measure => omega
                            case rel => exact ⟨j + 1, gs3, by omega, by go_num, k1, k2, k3, k4⟩
                    · obtain rfl : j = q := by omega
                      go_wp2_with fail
                      go_meet
                      case rel =>
                        refine ⟨ia + 1, f, m2, gs2, by go_num, by omega, HB, hWs, hmn2, hgl, Lib.hid (HD.out gs2 (fun j' hj' => ?_))⟩
                        rw [hq.out] at hj'
                        rw [HG.out j' (by omega)]
                        simp [show j' < j by omega]
                · have hkb : ((kd : Int) == 1) = false := by simpa using hkd
                  have hput := put_o hWa.wo.ow hSh ky hky vl (by omega)
                  rw [HB.out] at hput
                  unfold enc at hput
                  go_wp2_with (go_at_call 17; refine hput.mono ?_; rintro e w4 ⟨rfl, f2, hF2, hO2, hp, hK⟩)
                  go_meet
                  case rel => exact ⟨ia + 1, f2, _, gs, by go_num, by omega, Lib.hid (hF2.1.trans HB.out), hWa.map hF2 hO2 hK, by rw [hp.n]; split <;> omega, hgl, Lib.hid (HOn.out.put hp)⟩
              · go_wp2_with fail
                go_meet
                case rel => exact ⟨ia, f, m, gs, rfl, hia, HB, hWs, hmn, hgl, HOn⟩
            case rest =>
              clear hWs hmn hgl HOn HB hca2
              obtain ⟨ia', f', m', gs', rfl, hia2, HB, hWs, hmn, hgl, HOn⟩ := hcut
              have hnx := wNext_w hWs.wo
              rcases wnext_drop m' ks (ks.length - c) c rfl with ⟨e1, hno⟩ | ⟨d, vx, hcd, hdq, hlk, e1, hsk⟩
              · rw [e1] at hnx
                have hst := HOn.out.stop hno
                have HST := Lib.hid hst
                clear hst hno e1 HOn
                go_wp2_with fail
                refine hnx.mono ?_
                rintro e w7 ⟨rfl, sl7, hW7, hK7, hB7⟩
                have hWs7 := hWs.step hW7 hK7 hB7
                clear hWs hnx hW7 hK7 hB7
                go_wp2_with fail
                go_loop [160] (fun i => ∃ j : Nat, j ≤ q ∧ i = .int .i64 j) (fun i => q - (intOf i).toNat)
                case atStart => exact ⟨0, by omega, rfl⟩
                case round =>
                  obtain ⟨j, hj, rfl⟩ := hrel
                  by_cases hlj : j < q
                  · obtain ⟨s1, s2⟩ := HST.out j (by rw [hq.out]; exact hlj)
                    have hcg := hWs7.ag.cell (bools_at (gs := gs') (j := j) (by rw [hgl.out]; exact hlj))
                    have hct := hWs7.at'.cell (nums_at (ts := ts) (j := j) (by rw [htl.out]; exact hlj))
                    by_cases hz : ts.getD j 0 = 0
                    · rw [s2 hz] at hcg
                      rw [hz] at hct
                      clear s1 s2 hz
                      go_wp2_with fail
                      exact ⟨⟨j + 1, by omega, by go_num⟩, by simp [intOf]; omega⟩
                    · have h1 : ts.getD j 0 = 1 := by omega
                      rw [h1] at hct
                      clear s1 s2 hz h1
                      go_wp2_with fail
                      exact ⟨⟨j + 1, by omega, by go_num⟩, by simp [intOf]; omega⟩
                  · obtain rfl : j = q := by omega
                    have hEx := hWs7.wo.ow.ext
                    clear hWs7
                    go_wp2_with fail
                    refine (hL _ hEx).mono ?_
                    rintro e w9 ⟨rfl, hE9⟩
                    go_wp2_with fail
                    go_ret
                    exact ⟨rfl, Ext.trans _ _ _ hEx hE9⟩
              · rw [e1] at hnx
                have HLK := Lib.hid hlk
                have HSK := Lib.hid hsk
                have hdq' : d < q := by rw [← hq.out]; exact hdq
                have hdt : d < ts.length := by rw [htl.out]; exact hdq'
                have HZ : Hid (ts.getD d 0 = 0) := Lib.hid (HOn.out.ahead d hdq hcd)
                have HON2 : Hid (Once m' ks (d + 1) gs' (ts.set d (ts.getD d 0 + 1))) := Lib.hid (HOn.out.tell hcd hdq (by rw [htl.out, hq.out]) hsk)
                have hxs := hWs.wo.sz (nmo ks d) (by
                  refine List.mem_iff_getElem?.2 ⟨d - c, ?_⟩
                  rw [List.getElem?_drop, show c + (d - c) = d by omega]; exact nmo_at hdq)
                have hget := fun w1 (h : Ow w w1 f' m') => get_o h (nmo ks d) hxs
                rw [hlk, HB.out] at hget
                unfold enc at hget
                clear hlk hsk HOn e1
                have HXD : Hid (∀ j, j < q → nmo ks j = nmo ks d → j = d) := Lib.hid (fun j hj h => nmo_inj HND.out (by rw [hq.out]; exact hj) hdq h)
                obtain ⟨x, hx⟩ : ∃ x, nmo ks d = x := ⟨_, rfl⟩
                have HX := Lib.hid hx
                rw [hx] at hnx hget HXD hxs
                clear hx
                go_wp2_with fail
                refine hnx.mono ?_
                rintro e w7 ⟨rfl, sl7, hW7, hK7, hB7⟩
                have hWs7 := hWs.step hW7 hK7 hB7
                clear hWs hnx hW7 hK7 hB7
                go_wp2_with fail
                refine (hget _ hWs7.wo.ow).mono ?_
                rintro e w8 ⟨rfl, hO8, hE8⟩
                have hWs8 := hWs7.next hE8
                clear hWs7 hget hO8 hE8
                go_wp2_with fail
                obtain ⟨wq, rfl⟩ : ∃ wq : World, wq = w8 := ⟨_, rfl⟩
                go_loopw [23, 140] (fun v23 i wr => ∃ (j : Nat) (fl : Bool) (ts2 : List Nat), j ≤ q ∧ i = .int .i64 j ∧ v23 = .bool fl ∧ Hid (fl = decide (d < j)) ∧ Hid (ts2 = if d < j then ts.set d (ts.getD d 0 + 1) else ts) ∧ Hid (ts2.length = q) ∧
                  Ws w wr f' m' bw sl7 (ks.drop (d + 1)) (.slice pk q ck) ks bg gs' bt ts2) (fun _ i _ => q - (intOf i).toNat)
                case atStart => exact ⟨0, false, ts, by omega, rfl, rfl, Lib.hid (by simp), Lib.hid (by rw [if_neg (by omega)]), htl, hWs8⟩
                case round =>
                  clear hWs8
                  obtain ⟨j, fl, ts2, hj, rfl, rfl, HFL, HT2, htl2, hWs⟩ := hrel
                  by_cases hlj : j < q
                  · have hjk : j < ks.length := by rw [hq.out]; exact hlj
                    obtain ⟨p', c', ee, hc⟩ := id hWs.ky
                    obtain rfl : pk = p' := by injection ee
                    obtain ⟨b3, o3, rfl, hc3⟩ := hc j (strV (nmo ks j)) (by rw [List.getElem?_map, nmo_at hjk]; rfl)
                    unfold strV at hc3
                    clear hc ee
                    by_cases hjd : j = d
                    · subst hjd
                      rw [HX.out] at hc3
                      have hct := hWs.at'.cell (nums_at (ts := ts2) (j := j) (by rw [htl2.out]; exact hlj))
                      have hfz := hWs.at'.frozen j
                      have h0 : ts2.getD j 0 = ts.getD j 0 := by rw [HT2.out, if_neg (by omega)]
                      have hz := HZ.out
                      rw [h0, hz] at hct
                      have hW9 := hWs.sett j 1
                      have hl9 : Hid ((ts2.set j 1).length = q) := Lib.hid (by rw [List.length_set]; exact htl2.out)
                      have ht9 : Hid (ts2.set j 1 = if j < j + 1 then ts.set j (ts.getD j 0 + 1) else ts) := Lib.hid (by rw [if_pos (by omega), hz, HT2.out, if_neg (by omega)])
                      clear h0 hz hWs
                      go_wp2_with fail
                      exact ⟨⟨j + 1, true, _, by omega, by go_num, rfl, Lib.hid (by simp), ht9, hl9, hW9⟩, by simp [intOf]; omega⟩
                    · have hne : nmo ks j ≠ x := fun e => hjd (HXD.out j hlj e)
                      have hnb := ba_ne hne
                      have hf9 : Hid (fl = decide (d < j + 1)) := Lib.hid (by rw [HFL.out]; congr 1; apply propext; omega)
                      have ht9 : Hid (ts2 = if d < j + 1 then ts.set d (ts.getD d 0 + 1) else ts) := Lib.hid (by
                        rw [HT2.out]
                        by_cases e : d < j
                        · rw [if_pos e, if_pos (by omega)]
                        · rw [if_neg e, if_neg (by omega)])
                      clear hne
                      generalize nmo ks j = y at hc3 hnb
                      go_wp2_with fail
                      exact ⟨⟨j + 1, fl, ts2, by omega, by go_num, rfl, hf9, ht9, htl2, hWs⟩, by simp [intOf]; omega⟩
                  · obtain rfl : j = q := by omega
                    obtain rfl : fl = true := by rw [HFL.out]; simpa using hdq'
                    have hts : ts2 = ts.set d (ts.getD d 0 + 1) := by rw [HT2.out, if_pos hdq']
                    have hon : Hid (Once m' ks (d + 1) gs' ts2) := by rw [hts]; exact HON2
                    clear hts HT2 HFL
                    go_wp2_with fail
                    go_roundg (gk - 1)
                    case measure => omega
                    case rel => exact ⟨ia', nn + 1, f', m', sl7, d + 1, gs', ts2, rfl, by go_num, by omega, hia2, by omega, by omega, HB, hWs, hmn, hgl, htl2, hon⟩
end Go.Proofs.YtiopkkjcgdcgmaaDoor.s
