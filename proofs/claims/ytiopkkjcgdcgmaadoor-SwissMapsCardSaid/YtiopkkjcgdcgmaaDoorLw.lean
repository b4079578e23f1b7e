/- The document's examples of layer 6: lives answers true. -/
import Derived.Test.YtiopkkjcgdcgmaaDoorWk
import Derived.Test.YtiopkkjcgdcgmaaDoorLv
namespace Go.Proofs.YtiopkkjcgdcgmaaDoor.s
open Go.RowKit Go.Rg Go.Nm Go.Gp Go.Mp
set_option maxHeartbeats 1000000
set_option maxRecDepth 20000
/-- A map of the first k letters. -/
structure SV (k : Nat) (m : M ByteArray) : Prop where
  inv : Inv m
  n : m.n = k
  look : ∀ x, (look m x).isSome = true ↔ ∃ j, j < k ∧ x = i.kb j
theorem sv0 : SV 0 (made 0 0 1) := ⟨made_inv (by decide) (by decide) i.pw1, rfl, fun x => by rw [made_look (by decide) (by decide) i.pw1]; simp⟩
theorem svS {k : Nat} {m : M ByteArray} (h : SV k m) (hk : k < 8) {v : ByteArray} {r : M ByteArray × Bool × Int} (hp : PutAs m (i.kb k) v r) : SV (k + 1) r.1 := by
  have hl : look m (i.kb k) = none := by
    cases e : look m (i.kb k) with
    | none => rfl
    | some y =>
      obtain ⟨j, hj, e2⟩ := (h.look (i.kb k)).1 (by rw [e]; rfl)
      have := i.kb_inj ⟨k, hk⟩ ⟨j, by omega⟩ e2
      simp at this; omega
  refine ⟨hp.inv, by rw [hp.n, hl, h.n]; simp, fun x => ?_⟩
  rw [hp.look]
  by_cases e : x = i.kb k
  · rw [if_pos e]; exact ⟨fun _ => ⟨k, by omega, e⟩, fun _ => rfl⟩
  · rw [if_neg e, h.look]
    constructor
    · rintro ⟨j, hj, e2⟩; exact ⟨j, by omega, e2⟩
    · rintro ⟨j, hj, e2⟩
      by_cases ej : j = k
      · subst ej; exact absurd e2 e
      · exact ⟨j, by omega, e2⟩
theorem keys_length {m : M ByteArray} (I : Inv m) : ((keys m).length : Int) = m.n := by
  rw [← full_len I]; simp [keys]
theorem one_left {m : M ByteArray} (I : Inv m) {x : ByteArray} (h : ∀ y, (look m y).isSome = true ↔ y = x) : m.n = 1 := by
  rw [← keys_length I]
  have hnd := keys_nodup I
  have hm : ∀ y, y ∈ keys m ↔ y = x := fun y => by rw [mem_keys I, h]
  match hk : keys m with
  | [] => have := (hm x).2 rfl; rw [hk] at this; cases this
  | [a] => rfl
  | a :: b :: l =>
    rw [hk] at hm hnd
    have h1 := (hm a).1 List.mem_cons_self
    have h2 := (hm b).1 (List.mem_cons_of_mem _ List.mem_cons_self)
    have := (List.nodup_cons.1 hnd).1
    rw [h1, h2] at this
    exact absurd List.mem_cons_self this
theorem wnext_nothing {m : M ByteArray} : ∀ {ks : List ByteArray}, (∀ k ∈ ks, look m k = none) → wnext m ks = ([], ByteArray.empty, ByteArray.empty, false)
  | [], _ => rfl
  | k :: ks, h => by rw [wnext_none ks (h k List.mem_cons_self)]; exact wnext_nothing fun x hx => h x (List.mem_cons_of_mem _ hx)

theorem lives_w (w : World) (hSh : Sh w) : Calls Tryd.prog 22 #[] w fun e w' => e = .returned (.bool true) ∧ Ext w w' := by
  have hN := New_w 0 0 0 w
  rw [show need 0 = 1 from rfl] at hN
  go_enter Tryd.func22, Tryd.ntmps22
  go_wp2_with (go_at_call 13; refine hN.mono ?_; rintro e w1 (⟨h, _⟩ | ⟨_, f0, rfl, hI, hNw⟩); exact absurd h (by decide))
  have hO := new_o (Ext.refl w) hI (sv0).inv hNw
  clear hN hI hNw
  obtain ⟨b, hb⟩ : ∃ b, f0.b = b := ⟨_, rfl⟩
  rw [hb]
  have hL := sv0
  generalize (made 0 0 1 : M ByteArray) = m0 at hO hL
  have HB := Lib.hid hb
  clear hb
  have i0 : ∀ w', (Instr.index 111 (.agg #[.string ⟨#[97]⟩, .string ⟨#[98]⟩, .string ⟨#[99]⟩]) (.int .i64 0)).run Tryd.prog w' = .ok (.string (i.kb 0)) w' := fun _ => by kernel_rfl
  have i1 : ∀ w', (Instr.index 111 (.agg #[.string ⟨#[97]⟩, .string ⟨#[98]⟩, .string ⟨#[99]⟩]) (.int .i64 1)).run Tryd.prog w' = .ok (.string (i.kb 1)) w' := fun _ => by kernel_rfl
  have i2 : ∀ w', (Instr.index 111 (.agg #[.string ⟨#[97]⟩, .string ⟨#[98]⟩, .string ⟨#[99]⟩]) (.int .i64 2)).run Tryd.prog w' = .ok (.string (i.kb 2)) w' := fun _ => by kernel_rfl
  go_loopw [16] (fun i wr => ∃ (k : Nat) (f : Ft) (m : M ByteArray), k ≤ 3 ∧ i = .int .i64 k ∧ Hid (f.b = b) ∧ Ow w wr f m ∧ SV k m) (fun i _ => 3 - (intOf i).toNat)
  case atStart => exact ⟨0, f0, m0, by omega, rfl, HB, hO, hL⟩
  case round =>
    clear hO hL HB
    obtain ⟨k, f, m, hk, rfl, HB, hO, hL⟩ := hrel
    have h4 : k < 3 ∨ k = 3 := by omega
    rcases h4 with h4 | rfl
    · have hput := put_o hO hSh (i.kb k) (i.kb_size k) (i.kb k) (by rw [hL.n]; omega)
      rw [HB.out] at hput
      unfold enc at hput
      have h5 : k = 0 ∨ k = 1 ∨ k = 2 := by omega
      have hk8 : k < 8 := by omega
      rcases h5 with rfl | rfl | rfl
      · go_wp2_with (go_at_call 17; refine hput.mono ?_; rintro e w2 ⟨rfl, f2, hF, hO2, hp, hK⟩)
        exact ⟨⟨1, f2, _, by omega, rfl, Lib.hid (hF.1.trans HB.out), hO2, svS hL hk8 hp⟩, by simp [intOf]⟩
      · go_wp2_with (go_at_call 17; refine hput.mono ?_; rintro e w2 ⟨rfl, f2, hF, hO2, hp, hK⟩)
        exact ⟨⟨2, f2, _, by omega, rfl, Lib.hid (hF.1.trans HB.out), hO2, svS hL hk8 hp⟩, by simp [intOf]⟩
      · go_wp2_with (go_at_call 17; refine hput.mono ?_; rintro e w2 ⟨rfl, f2, hF, hO2, hp, hK⟩)
        exact ⟨⟨3, f2, _, by omega, rfl, Lib.hid (hF.1.trans HB.out), hO2, svS hL hk8 hp⟩, by simp [intOf]⟩
    · clear i0 i1 i2
      have hwn := wNew_w hO
      have hkl := keys_length hO.inv
      have hnd := keys_nodup hO.inv
      have hkz := keys_size hO.inv
      have hmk := fun x => (mem_keys hO.inv (key := x)).symm
      have hks := fun w1 (h : Ow w w1 f m) => keys_o h
      rw [hL.n] at hkl
      rw [HB.out] at hwn hks
      generalize hkk : keys m = ks at *
      match ks, hkl with
      | k0 :: rest, hkl =>
        clear hkk
        obtain ⟨v0, hv0⟩ : ∃ v0, look m k0 = some v0 := Option.isSome_iff_exists.1 ((hmk k0).2 List.mem_cons_self)
        have HN := Lib.hid (wnext_some rest hv0)
        have HMK := Lib.hid hmk
        have HND := Lib.hid hnd
        clear hmk hnd hv0
        simp only [List.length_cons] at hkl hks
        have hk3 : rest.length + 1 ≤ 3 := by omega
        clear hkl
        obtain ⟨n, hn⟩ : ∃ n, Hid (rest.length + 1 = n) := ⟨_, Lib.hid rfl⟩
        rw [hn.out] at hk3 hks
        go_wp2_with (first
          | (go_at_call 24; refine hwn.mono ?_; rintro e w2 ⟨bw, sl, rfl, hW, hE2, _, _⟩)
          | (go_at_call 27; have hnx := wNext_w hW; rw [HN.out] at hnx; refine hnx.mono ?_; rintro e w3 ⟨rfl, sl3, hW3, hK3, _⟩; clear hnx))
        have hsz3 := hW3.ow.ext.size
        have hfp := fun k (hk : f.fp k) => hW3.ow.is.lt hk
        go_wp2_with (go_at_call 30; refine (hks _ hW3.ow).mono ?_; rintro e w4 ⟨pk, ck, rfl, hown, hO4, hE4⟩)
        have hW4 := hW3.next hE4
        have hSl : Sl w4 _ ((k0 :: rest).map strV) := Sl.row hown
        have hSb : Hid (∀ k, (Value.slice pk n ck).ownBlock = some k → ¬ f.fp k) := Lib.hid (fun k hk hb => by
          have h1 := hown.lt k hk; have h2 := hfp k hb; omega)
        clear hown hks hwn hW hW3 hO4
        simp only [List.map_cons] at hSl
        go_loopw [35] (fun i wr => ∃ (j : Nat) (m' : M ByteArray), j ≤ n ∧ i = .int .i64 j ∧ Wo w wr f m' bw sl3 rest ∧ Sl wr (.slice pk (n) ck) ((k0 :: rest).map strV) ∧ Hid (∀ x, (look m' x).isSome = true ↔ x ∈ k0 :: rest ∧ (x = k0 ∨ x ∉ (k0 :: rest).take j))) (fun i _ => n - (intOf i).toNat)
        case atStart => exact ⟨0, m, by omega, rfl, hW4, hSl, Lib.hid (fun x => by rw [HMK.out]; simp)⟩
        case round =>
          clear hW4 hSl hL
          obtain ⟨j, m', hj, rfl, hW, hSl, HL⟩ := hrel
          by_cases hlt : j < n
          · obtain ⟨x, hx⟩ : ∃ x, (k0 :: rest)[j]? = some x := ⟨(k0 :: rest)[j]'(by rw [List.length_cons, hn.out]; exact hlt), List.getElem?_eq_getElem _⟩
            obtain ⟨p', c', e, hc⟩ := id hSl
            obtain rfl : pk = p' := by injection e
            obtain ⟨b1, o1, rfl, hc1⟩ := hc j (strV x) (by rw [List.getElem?_map, hx]; rfl)
            unfold strV at hc1
            have HX := Lib.hid hx
            have hxz : x.size ≤ maxLen := hkz x (List.mem_of_getElem? hx)
            clear hx e hc
            by_cases hxk : x = k0
            · subst hxk
              go_wp2
              refine ⟨⟨j + 1, m', by omega, by go_num, hW, hSl, Lib.hid (fun y => ?_)⟩, by simp [intOf]; omega⟩
              rw [HL.out, List.take_add_one, HX.out]
              constructor
              · rintro ⟨h1, h2⟩
                refine ⟨h1, ?_⟩
                rcases h2 with h2 | h2
                · exact .inl h2
                · by_cases e : y = x
                  · exact .inl e
                  · right; simp [h2, e]
              · rintro ⟨h1, h2⟩
                refine ⟨h1, ?_⟩
                rcases h2 with h2 | h2
                · exact .inl h2
                · right; intro h3; exact h2 (List.mem_append_left _ h3)
            · have hne : (x.toList == k0.toList) = false := ba_ne hxk
              have hdel := del_o hW.ow hSh x hxz
              rw [HB.out] at hdel
              go_wp2_with (go_at_call 16; refine hdel.mono ?_; rintro e w5 ⟨rfl, hO5, hp, hK5⟩)
              refine ⟨⟨j + 1, _, by omega, by go_num, hW.map (From.refl _ _) hO5 hK5, hSl.kp hK5 hSb.out, Lib.hid (fun y => ?_)⟩, by simp [intOf]; omega⟩
              rw [hp.look, List.take_add_one, HX.out]
              by_cases e : y = x
              · rw [if_pos e]
                constructor
                · intro h; cases h
                · rintro ⟨_, h2⟩
                  rcases h2 with h2 | h2
                  · rw [e] at h2; exact absurd h2 hxk
                  · exact absurd (by rw [e]; simp) h2
              · rw [if_neg e, HL.out]
                simp [e]
          · obtain rfl : j = n := by omega
            have hone := one_left hW.ow.inv (x := k0) (fun y => by
              rw [HL.out, List.take_of_length_le (by rw [List.length_cons, hn.out]; omega)]
              constructor
              · rintro ⟨h1, h2⟩
                rcases h2 with h2 | h2
                · exact h2
                · exact absurd h1 h2
              · rintro rfl; exact ⟨List.mem_cons_self, .inl rfl⟩)
            have hnone : wnext m' rest = ([], ByteArray.empty, ByteArray.empty, false) := wnext_nothing (fun y hy => by
              cases e : look m' y with
              | none => rfl
              | some z =>
                obtain ⟨h1, h2⟩ := (HL.out y).1 (by rw [e]; rfl)
                rw [List.take_of_length_le (by rw [List.length_cons, hn.out]; omega)] at h2
                rcases h2 with h2 | h2
                · subst h2; exact absurd hy (List.nodup_cons.1 HND.out).1
                · exact absurd h1 h2)
            have hnx := wNext_w hW
            rw [hnone] at hnx
            have hlen := fun w1 (h : Ow w w1 f m') => len_o h
            rw [hone, HB.out] at hlen
            have hleft := fun w1 sl1 (h : Wo w w1 f m' bw sl1 []) => wLeft_w h
            simp only [List.length_nil] at hleft
            clear hone hnone HL
            go_wp2_with (first
              | (go_at_call 27; refine hnx.mono ?_; rintro e w5 ⟨rfl, sl5, hW5, hK5, _⟩; clear hnx)
              | (go_at_call 18; refine (hlen _ hW5.ow).mono ?_; rintro e w6 ⟨rfl, rfl⟩)
              | (go_at_call 29; refine (hleft _ _ hW5).mono ?_; rintro e w7 ⟨rfl, rfl⟩))
            go_ret
            exact ⟨rfl, hW5.ow.ext⟩
end Go.Proofs.YtiopkkjcgdcgmaaDoor.s
