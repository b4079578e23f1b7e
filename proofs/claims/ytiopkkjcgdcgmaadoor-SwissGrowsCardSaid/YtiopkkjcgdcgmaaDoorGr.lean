/- SwissGrows: the plain law and the walk. -/
import Derived.Test.YtiopkkjcgdcgmaaDoorLob
import Derived.Test.YtiopkkjcgdcgmaaDoorLv
namespace Go.Proofs.YtiopkkjcgdcgmaaDoor.b
open Go.RowKit Go.Rg Go.Nm Go.Gp Go.Mp
set_option maxHeartbeats 1000000
set_option maxRecDepth 20000
section
variable {α : Type} [Inhabited α]
theorem gone_n {m : M α} (I : Inv m) (h : ∀ x, look m x = none) : m.n = 0 ∧ (keys m).length = 0 := by
  have hf : m.full = [] := by
    cases e : m.full with
    | nil => rfl
    | cons s l =>
      have := (look_some I (key := s.1) (v := s.2)).2 (by rw [e]; exact List.mem_cons_self)
      rw [h] at this; cases this
  have := full_len I
  rw [hf] at this
  exact ⟨by simpa using this.symm, by simp [keys, hf]⟩
/-- A map that has just as many groups as it needs. -/
structure Fits (m : M α) : Prop where
  t : m.t = 0
  g : m.ws.length = 1 ∨ 7 * ((m.ws.length / 2 : Nat) : Int) < m.n
theorem Fits.put {m : M α} (I : Inv m) (h : Fits m) {key : ByteArray} {v : α} {r : M α × Bool × Int} (hp : PutAs m key v r) : Fits r.1 := by
  refine ⟨hp.t h.t, ?_⟩
  have hg := h.g
  have hroom := I.room
  have ht := h.t
  have hpos := I.pw.pos
  rw [hp.len, hp.n]
  by_cases hs : (look m key).isSome = true
  · rw [if_pos hs, if_pos hs]; simpa using hg
  · rw [if_neg hs, if_neg hs]
    by_cases h7 : 7 * (m.ws.length : Int) ≤ m.n + m.t
    · rw [if_pos h7]
      unfold newG
      rw [if_pos (.inl ht)]
      right
      rw [show 2 * m.ws.length / 2 = m.ws.length by omega]
      omega
    · rw [if_neg h7]
      rcases hg with hg | hg
      · exact .inl hg
      · exact .inr (by omega)
end

theorem SwissGrows_w (k0 k1 : Nat) (h0 : k0 < U) (h1 : k1 < U) (l : List ByteArray) (hl : ∀ s ∈ l, s.size ≤ maxLen) (hll : l.length ≤ maxLen) (v : Value) (w : World) (hv : Sl w v (l.map strV)) (hSh : Sh w) :
    Calls Tryd.prog 7 #[.agg #[.int .u64 k0, .int .u64 k1], v] w fun e w' => e = .returned (.bool true) ∧ Ext w w' := by
  have hL := fun w' (h : Ext w w') => i.lives_w w' (hSh.kp h (fun f => f))
  obtain ⟨p, ca, rfl, hca⟩ := hv
  simp only [List.length_map] at hca ⊢
  unfold maxLen at hll
  obtain ⟨n, hn⟩ : ∃ n, Hid (l.length = n) := ⟨_, Lib.hid rfl⟩
  rw [hn.out] at hll ⊢
  have hN := fun w => New_w k0 k1 0 w
  rw [show need 0 = 1 from rfl] at hN
  have hm0 := made_inv (α := Bool) h0 h1 i.pw1
  have hf0 : Fits (made (α := Bool) k0 k1 1) := ⟨rfl, .inl (made_len _ _ _)⟩
  have hn0 : (made (α := Bool) k0 k1 1).n = 0 := rfl
  have hl0 := fun key => made_look (α := Bool) h0 h1 i.pw1 key
  have hk0 : (w.alloc (.cells #[.int .u64 k0, .int .u64 k1] 24)).cell? ⟨w.heap.size, 0, none⟩ = some (.int .u64 k0) := (At.new _ _ _).cell rfl
  have hk1 : (w.alloc (.cells #[.int .u64 k0, .int .u64 k1] 24)).cell? ⟨w.heap.size, 1, none⟩ = some (.int .u64 k1) := (At.new _ _ _).cell rfl
  have hE0 := Ext.alloc w (.cells #[.int .u64 k0, .int .u64 k1] 24)
  generalize (made k0 k1 1 : M Bool) = m0 at *
  have HL0 := Lib.hid hl0
  have HN0 := Lib.hid hn0
  clear hl0 hn0
  by_cases hbig : 300 < n
  · go_enter Tryd.func7, Tryd.ntmps7
    go_wp2_with (first
      | (go_at_call 37; refine (hN _).mono ?_; rintro e w1 (⟨h, _⟩ | ⟨_, f0, rfl, hI, hNw⟩); exact absurd h (by decide); have hO := new_o hE0 hI hm0 hNw)
      | (go_at_call 15; refine (hL _ hO.ext).mono ?_; rintro e w2 ⟨rfl, hE2⟩))
    go_ret
    exact ⟨rfl, Ext.trans _ _ _ hO.ext hE2⟩
  · go_enter Tryd.func7, Tryd.ntmps7
    go_wp2_with (go_at_call 37; refine (hN _).mono ?_; rintro e w1 (⟨h, _⟩ | ⟨_, f0, rfl, hI, hNw⟩); exact absurd h (by decide); have hO := new_o hE0 hI hm0 hNw)
    clear hN hk0 hk1 hE0 hI hNw
    obtain ⟨b, hb⟩ : ∃ b, f0.b = b := ⟨_, rfl⟩
    rw [hb]
    have HB := Lib.hid hb
    clear hb
    go_loopw [29] (fun i wr => ∃ (k : Nat) (f : Ft) (m : M Bool), k ≤ n ∧ i = .int .i64 k ∧ Hid (f.b = b) ∧ Ow w wr f m ∧ Fits m ∧ m.n ≤ k ∧ Hid (∀ x, (look m x).isSome = true → x ∈ l.take k)) (fun i _ => n - (intOf i).toNat)
    case atStart => exact ⟨0, f0, m0, by omega, rfl, HB, hO, hf0, by rw [HN0.out]; decide, Lib.hid (fun x hx => by rw [HL0.out] at hx; cases hx)⟩
    case round =>
      clear hO HB hf0 HL0 HN0
      obtain ⟨k, f, m, hk, rfl, HB, hO, hF, hmn, HK⟩ := hrel
      by_cases hlt : k < n
      · obtain ⟨s, hs⟩ : ∃ s, l[k]? = some s := ⟨l[k]'(by rw [hn.out]; exact hlt), by simp [hn.out, hlt]⟩
        obtain ⟨b1, o1, rfl, hc1⟩ := hca k (strV s) (by simp [hs])
        unfold strV at hc1
        have c1 := hO.ext.cell hc1
        have hsz := hl s (List.mem_of_getElem? hs)
        unfold maxLen at hsz
        have HS := Lib.hid hs
        clear hs hc1
        have hput := put_o hO hSh s (by unfold maxLen; omega) true (by omega)
        rw [HB.out] at hput
        unfold enc at hput
        by_cases h200 : 200 < s.size
        · go_wp2_with (go_at_call 15; refine (hL _ hO.ext).mono ?_; rintro e w2 ⟨rfl, hE2⟩)
          go_ret
          exact ⟨rfl, Ext.trans _ _ _ hO.ext hE2⟩
        · go_wp2_with (go_at_call 38; refine hput.mono ?_; rintro e w2 ⟨rfl, f2, hF2, hO2, hp, _⟩)
          have hb2 := hF2.1.trans HB.out
          have hFt := hF.put hO.inv hp
          have hn2 : (put m s true).1.n ≤ (k : Int) + 1 := by rw [hp.n]; split <;> omega
          have HK2 : Hid (∀ x, (look (put m s true).1 x).isSome = true → x ∈ l.take (k + 1)) := Lib.hid (fun x hx => by
            rw [List.take_add_one, HS.out, List.mem_append]
            rw [hp.look] at hx
            by_cases e : x = s
            · right; simp [e]
            · rw [if_neg e] at hx; exact .inl (HK.out x hx))
          generalize (put m s true).1 = m2 at *
          clear hput hp hO hF hF2 HK
          have hroom := hO2.inv.room
          have hnn := hO2.inv.n
          have ht0 := hFt.t
          have hgg := hFt.g
          have hpos := hO2.inv.pw.pos
          have hle := hO2.inv.pw.le
          have hlen := len_o hO2
          have htom := fun w0 (h : Ow w w0 f2 m2) => tombs_o h
          have hctl := ctl_o hO2
          rw [hb2] at hlen hctl htom
          rw [ht0] at htom hroom
          generalize nFull m2 = nf at hnn
          have hge : 0 ≤ m2.n := by omega
          clear hnn ht0
          have HB2 := Lib.hid hb2
          clear hb2
          obtain ⟨g, hg⟩ : ∃ g, Hid (m2.ws.length = g) := ⟨_, Lib.hid rfl⟩
          rw [hg.out] at hroom hgg hpos hle hctl
          have hr2 : m2.n ≤ 7 * (g : Int) := by omega
          obtain ⟨n2, hn2'⟩ : ∃ n2, Hid (m2.n = n2) := ⟨_, Lib.hid rfl⟩
          rw [hn2'.out] at hlen hn2 hgg hge hr2
          clear hroom
          by_cases hg1 : g = 1
          · subst hg1
            clear hgg
            go_wp2_with (first
              | (go_at_call 39; refine hlen.mono ?_; rintro e w3 ⟨rfl, rfl⟩)
              | (go_at_call 40; refine hctl.mono ?_; rintro e w3 ⟨pc, cc, rfl, _, hO3, _⟩; clear hlen hctl)
              | (go_at_call 41; refine (htom _ hO3).mono ?_; rintro e w3 ⟨rfl, rfl⟩))
            exact ⟨⟨k + 1, f2, m2, by omega, by go_num, HB2, hO3, hFt, by rw [hn2'.out]; exact hn2, HK2⟩, by simp [intOf]; omega⟩
          · have hg2 : 7 * ((g : Int) / 2) < n2 := by omega
            have hg3 : 1 < (g : Int) := by omega
            clear hgg hg1
            go_wp2_with (first
              | (go_at_call 39; refine hlen.mono ?_; rintro e w3 ⟨rfl, rfl⟩)
              | (go_at_call 40; refine hctl.mono ?_; rintro e w3 ⟨pc, cc, rfl, _, hO3, _⟩; clear hlen hctl)
              | (go_at_call 41; refine (htom _ hO3).mono ?_; rintro e w3 ⟨rfl, rfl⟩))
            exact ⟨⟨k + 1, f2, m2, by omega, by go_num, HB2, hO3, hFt, by rw [hn2'.out]; exact hn2, HK2⟩, by simp [intOf]; omega⟩
      · obtain rfl : k = n := by omega
        have HK2 : Hid (∀ x, (look m x).isSome = true → x ∈ l.drop 0) := Lib.hid (fun x hx => by
          have := HK.out x hx
          rwa [List.take_of_length_le (by rw [hn.out]; omega)] at this)
        have hctl := ctl_o hO
        have hpos := hO.inv.pw.pos
        have hle := hO.inv.pw.le
        obtain ⟨g, hg⟩ : ∃ g, Hid (m.ws.length = g) := ⟨_, Lib.hid rfl⟩
        rw [hg.out] at hctl hpos hle
        rw [HB.out] at hctl
        clear HK hF hmn
        go_wp2_with (go_at_call 40; refine hctl.mono ?_; rintro e w3 ⟨pc, cc, rfl, _, hO3, _⟩; clear hctl hO)
        rename_i wr0 _
        go_loopw [71] (fun i wr => ∃ (j : Nat) (m' : M Bool), j ≤ k ∧ i = .int .i64 j ∧ Ow w wr f m' ∧ Hid (m'.ws.length = g) ∧ Hid (∀ x, (look m' x).isSome = true → x ∈ l.drop j)) (fun i _ => k - (intOf i).toNat)
        case atStart => exact ⟨0, m, by omega, rfl, hO3, hg, HK2⟩
        case round =>
          clear hO3 hg HK2
          obtain ⟨j, m', hj, rfl, hO, hg, HK⟩ := hrel
          by_cases hlt : j < k
          · obtain ⟨s, hs⟩ : ∃ s, l[j]? = some s := ⟨l[j]'(by rw [hn.out]; exact hlt), by simp [hn.out, hlt]⟩
            obtain ⟨b1, o1, rfl, hc1⟩ := hca j (strV s) (by simp [hs])
            unfold strV at hc1
            have c1 := hO.ext.cell hc1
            have hdel := del_o hO hSh s (hl s (List.mem_of_getElem? hs))
            rw [HB.out] at hdel
            have HS := Lib.hid hs
            clear hs hc1
            go_wp2_with (go_at_call 42; refine hdel.mono ?_; rintro e w2 ⟨rfl, hO2, hp, _⟩)
            refine ⟨⟨j + 1, _, by omega, by go_num, hO2, Lib.hid (by rw [hp.len]; exact hg.out), Lib.hid (fun x hx => ?_)⟩, by simp [intOf]; omega⟩
            rw [hp.look] at hx
            by_cases e : x = s
            · rw [if_pos e] at hx; cases hx
            · rw [if_neg e] at hx
              have hjl : j < l.length := by rw [hn.out]; exact hlt
              have h3 := HK.out x hx
              rw [List.drop_eq_getElem_cons hjl] at h3
              have h4 : l[j] = s := by have := HS.out; rw [List.getElem?_eq_getElem hjl] at this; exact Option.some.inj this
              rcases List.mem_cons.1 h3 with h5 | h5
              · exact absurd (h5.trans h4) e
              · exact h5
          · obtain rfl : j = k := by omega
            obtain ⟨hz1, hz2⟩ := gone_n hO.inv (fun x => by
              cases e : look m' x with
              | none => rfl
              | some y =>
                have := HK.out x (by rw [e]; rfl)
                rw [List.drop_of_length_le (by rw [hn.out]; omega)] at this
                cases this)
            have hlen := len_o hO
            have hctl := ctl_o hO
            have hkey := fun w0 (h : Ow w w0 f m') => keys_o h
            rw [HB.out] at hlen hctl hkey
            rw [hz1] at hlen
            rw [hg.out] at hctl
            rw [hz2] at hkey
            clear hz1 hz2 HK
            go_wp2_with (first
              | (go_at_call 39; refine hlen.mono ?_; rintro e w3 ⟨rfl, rfl⟩)
              | (go_at_call 40; refine hctl.mono ?_; rintro e w3 ⟨pc, cc, rfl, _, hO3, _⟩; clear hlen hctl)
              | (go_at_call 43; refine (hkey _ hO3).mono ?_; rintro e w4 ⟨pk, ck, rfl, _, hO4, _⟩)
              | (go_at_call 15; refine (hL _ hO4.ext).mono ?_; rintro e w5 ⟨rfl, hE5⟩))
            go_ret
            exact ⟨rfl, Ext.trans _ _ _ hO4.ext hE5⟩
end Go.Proofs.YtiopkkjcgdcgmaaDoor.b
