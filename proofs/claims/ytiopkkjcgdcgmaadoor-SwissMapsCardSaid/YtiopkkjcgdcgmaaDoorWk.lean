/- A walk over a map of texts: New, Next, Left. -/
import Derived.Test.YtiopkkjcgdcgmaaDoorLos
import Derived.Deep.LoopGhost
namespace Go.Proofs.YtiopkkjcgdcgmaaDoor.s
open Go.RowKit Go.Rg Go.Nm Go.Gp Go.Mp
set_option maxHeartbeats 1000000
set_option maxRecDepth 20000
/-- What a step of a walk tells, and the keys that are ahead behind it. -/
def wnext (m : M ByteArray) : List ByteArray → List ByteArray × ByteArray × ByteArray × Bool
  | [] => ([], ByteArray.empty, ByteArray.empty, false)
  | k :: ks => match look m k with
    | some v => (ks, k, v, true)
    | none => wnext m ks
theorem wnext_some {m : M ByteArray} {k v : ByteArray} (ks : List ByteArray) (h : look m k = some v) : wnext m (k :: ks) = (ks, k, v, true) := by simp only [wnext, h]
theorem wnext_none {m : M ByteArray} {k : ByteArray} (ks : List ByteArray) (h : look m k = none) : wnext m (k :: ks) = wnext m ks := by simp only [wnext, h]
/-- A walk in the block b over the map in f, with the keys ks ahead. -/
structure Wo (w0 w : World) (f : Ft) (m : M ByteArray) (b : Nat) (sl : Value) (ks : List ByteArray) : Prop where
  ow : Ow w0 w f m
  at' : At w b #[.pointer (some ⟨f.b, 0, none⟩), sl] 119
  rd : Sl w sl (ks.map strV)
  nb : ¬ f.fp b ∧ w0.heap.size ≤ b
  ns : ∀ k, sl.ownBlock = some k → ¬ f.fp k ∧ k < w.heap.size ∧ k ≠ b
  sz : ∀ k ∈ ks, k.size ≤ maxLen
  cp : ∃ p cap, sl = .slice p ks.length cap ∧ ks.length ≤ cap ∧ cap ≤ maxLen
theorem Wo.next {w0 w w' : World} {f : Ft} {m : M ByteArray} {b : Nat} {sl : Value} {ks : List ByteArray} (h : Wo w0 w f m b sl ks) (hE : Ext w w') : Wo w0 w' f m b sl ks :=
  ⟨h.ow.next hE, At.ext hE h.at', h.rd.ext hE, h.nb, fun k hk => ⟨(h.ns k hk).1, Nat.lt_of_lt_of_le (h.ns k hk).2.1 hE.size, (h.ns k hk).2.2⟩, h.sz, h.cp⟩
/-- The map is changed while it is walked. -/
theorem Wo.map {w0 w w' : World} {f f' : Ft} {m m' : M ByteArray} {b : Nat} {sl : Value} {ks : List ByteArray} (h : Wo w0 w f m b sl ks) (hF : From w f f') (hO : Ow w0 w' f' m') (hK : Kp f.fp w w') : Wo w0 w' f' m' b sl ks := by
  refine ⟨hO, ?_, h.rd.kp hK fun k hk => (h.ns k hk).1, ⟨?_, h.nb.2⟩, fun k hk => ⟨?_, Nat.lt_of_lt_of_le (h.ns k hk).2.1 hK.size, (h.ns k hk).2.2⟩, h.sz, h.cp⟩
  · have := At.kp hK h.at' h.nb.1
    rw [hF.1]; exact this
  · intro hb
    rcases hF.2 b hb with h1 | h1
    · exact h.nb.1 h1
    · have := h.at'.lt; omega
  · intro hb
    rcases hF.2 k hb with h1 | h1
    · exact (h.ns k hk).1 h1
    · have := (h.ns k hk).2.1; omega
theorem keys_size {m : M ByteArray} (I : Inv m) : ∀ k ∈ keys m, k.size ≤ maxLen := by
  intro k hk
  obtain ⟨s, hs, rfl⟩ := List.mem_map.1 hk
  exact full_key I s hs

theorem own_cap {w : World} {base : Nat} {e : TypeId} {sz : Nat} {p : Option Addr} {n cap : Nat} {xs : List Value} (h : w.ownsRow base e sz (.slice p n cap) n xs) : n ≤ cap ∧ cap ≤ maxLen := by
  rcases h.2 with ⟨h1, h2⟩ | ⟨g, cap', cur, hv, h3, hg, h4, h5, h6, ht⟩
  · cases h1; exact ⟨Nat.le_refl _, Nat.zero_le _⟩
  · cases hv; exact ⟨h4, h5⟩
theorem wNew_w {w0 w : World} {f : Ft} {m : M ByteArray} (h : Ow w0 w f m) : Calls Tryd.prog 24 #[.pointer (some ⟨f.b, 0, none⟩)] w fun e w' =>
    ∃ b sl, e = .returned (.pointer (some ⟨b, 0, none⟩)) ∧ Wo w0 w' f m b sl (keys m) ∧ Ext w w' ∧ w.heap.size ≤ b ∧ ∀ k, sl.ownBlock = some k → w.heap.size ≤ k := by
  have hk := keys_o h
  have hsz := keys_size h.inv
  generalize keys m = ks at *
  go_enter Tryd.func24, Tryd.ntmps24
  go_wp2_with (go_at_call 30; refine hk.mono ?_; rintro e w1 ⟨p, cap, rfl, hown, hO, hE⟩)
  have hlt := fun k => hown.lt k
  have hs1 := hE.size
  have hf := fun k (hk : f.fp k) => hO.is.lt hk
  have hf0 := fun k (hk : f.fp k) => h.is.lt hk
  go_ret
  refine ⟨w1.heap.size, _, rfl, ⟨hO.alloc _, At.new _ _ _, (Sl.row hown).ext (Ext.alloc _ _), ⟨fun hb => by have := hf _ hb; omega, ?_⟩, fun k hk => ⟨fun hb => ?_, ?_, ?_⟩, hsz, _, _, rfl, ?_⟩, Kp.alloc hE _, hs1, fun k hk => (hlt k hk).1⟩
  · have := h.ext.size; omega
  · have := hlt k hk; have := hf0 k hb; omega
  · have := hlt k hk; simp; omega
  · have := hlt k hk; omega
  · exact own_cap hown
theorem wLeft_w {w0 w : World} {f : Ft} {m : M ByteArray} {b : Nat} {sl : Value} {ks : List ByteArray} (h : Wo w0 w f m b sl ks) : Calls Tryd.prog 29 #[.pointer (some ⟨b, 0, none⟩)] w fun e w' => e = .returned (.int .i64 ks.length) ∧ w = w' := by
  obtain ⟨p, cap, rfl, _⟩ := h.rd
  have c1 : w.cell? ⟨b, 1, none⟩ = some (.slice p (ks.map strV).length cap) := h.at'.cell (i := 1) rfl
  simp only [List.length_map] at c1
  clear h
  generalize ks.length = n at *
  go_enter Tryd.func29, Tryd.ntmps29
  go_wp2
  go_ret
  exact ⟨rfl, rfl⟩
theorem Sl.tail {w : World} {p : Option Addr} {n cap : Nat} {x : Value} {xs : List Value} (h : Sl w (.slice p n cap) (x :: xs)) : ∃ bb o, p = some ⟨bb, o, none⟩ ∧ n = xs.length + 1 ∧ w.cell? ⟨bb, o, none⟩ = some x ∧
    Sl w (.slice (some ⟨bb, o + 1, none⟩) xs.length (cap - 1)) xs := by
  obtain ⟨p', cap', e, hc⟩ := h
  cases e
  obtain ⟨bb, o, rfl, h0⟩ := hc 0 x rfl
  refine ⟨bb, o, rfl, rfl, h0, some ⟨bb, o + 1, none⟩, cap - 1, rfl, fun j u hj => ⟨bb, o + 1, rfl, ?_⟩⟩
  obtain ⟨b2, o2, e2, h2⟩ := hc (j + 1) u (by simpa using hj)
  cases e2
  rw [Nat.add_assoc, Nat.add_comm 1 j]; exact h2
/-- It lies in no other block. -/
def SubB (a b : Value) : Prop := ∀ k, a.ownBlock = some k → b.ownBlock = some k
theorem SubB.refl (a : Value) : SubB a a := fun _ h => h
theorem SubB.trans {a b c : Value} (h : SubB a b) (g : SubB b c) : SubB a c := fun k hk => g k (h k hk)
/-- What is done elsewhere. -/
theorem Wo.kp {S : Nat → Prop} {w0 w w' : World} {f : Ft} {m : M ByteArray} {b : Nat} {sl : Value} {ks : List ByteArray} (h : Wo w0 w f m b sl ks) (hK : Kp S w w') (hS : ∀ k, S k → w0.heap.size ≤ k) (h1 : ∀ k, f.fp k → ¬ S k) (h2 : ¬ S b) (h3 : ∀ k, sl.ownBlock = some k → ¬ S k) : Wo w0 w' f m b sl ks :=
  ⟨h.ow.kp hK hS h1, At.kp hK h.at' h2, h.rd.kp hK h3, h.nb, fun k hk => ⟨(h.ns k hk).1, Nat.lt_of_lt_of_le (h.ns k hk).2.1 hK.size, (h.ns k hk).2.2⟩, h.sz, h.cp⟩
theorem wNext_w {w0 w : World} {f : Ft} {m : M ByteArray} {b : Nat} {sl : Value} {ks : List ByteArray} (h : Wo w0 w f m b sl ks) : Calls Tryd.prog 27 #[.pointer (some ⟨b, 0, none⟩)] w fun e w' =>
    e = .returned (.tuple #[.string (wnext m ks).2.1, .string (wnext m ks).2.2.1, .bool (wnext m ks).2.2.2]) ∧ ∃ sl', Wo w0 w' f m b sl' (wnext m ks).1 ∧ Kp (fun k => k = b) w w' ∧ SubB sl' sl := by
  go_enter Tryd.func27, Tryd.ntmps27
  go_wp2
  go_loopg [3] (ks.length) (fun g v3 wr => ∃ sl' ks', g = ks'.length ∧ v3 = .string ⟨#[]⟩ ∧ Wo w0 wr f m b sl' ks' ∧ Kp (fun k => k = b) w wr ∧ SubB sl' sl ∧ Hid (wnext m ks = wnext m ks'))
  case atStart => exact ⟨sl, ks, rfl, rfl, h, Kp.refl _ _, SubB.refl _, Lib.hid rfl⟩
  case round =>
    clear h
    obtain ⟨sl', ks', rfl, rfl, h, hK, hB, HW⟩ := hrel
    cases ks' with
    | nil =>
      obtain ⟨p, cap, rfl, _⟩ := h.rd
      have c1 : wr.cell? ⟨b, 1, none⟩ = some (.slice p 0 cap) := h.at'.cell (i := 1) rfl
      go_wp2
      go_ret3
      rw [HW.out]
      exact ⟨rfl, _, h, hK, hB⟩
    | cons x ks' =>
      obtain ⟨p, cap, rfl, hc1, hc2⟩ := h.cp
      obtain ⟨bb, o, rfl, hn, hx, hT⟩ := Sl.tail h.rd
      have c0 : wr.cell? ⟨b, 0, none⟩ = some (.pointer (some ⟨f.b, 0, none⟩)) := h.at'.cell (i := 0) rfl
      have c1 : wr.cell? ⟨b, 1, none⟩ = some (.slice (some ⟨bb, o, none⟩) (x :: ks').length cap) := h.at'.cell (i := 1) rfl
      have f1 := h.at'.frozen 1
      simp only [List.length_map, List.length_cons] at c1 hT hc1
      unfold maxLen at hc2
      unfold strV at hx
      obtain ⟨hnb, hnlt, hne⟩ := h.ns bb rfl
      obtain ⟨hb1, hb2⟩ := h.nb
      have hbne : b ≠ f.b := fun e => hb1 (.inl e)
      have hxs := h.sz x List.mem_cons_self
      have hat := h.at'
      have hks : ∀ k ∈ ks', k.size ≤ maxLen := fun k hk => h.sz k (List.mem_cons_of_mem _ hk)
      have hO := h.ow
      obtain ⟨n, hnn⟩ : ∃ n, Hid (ks'.length = n) := ⟨_, Lib.hid rfl⟩
      rw [hnn.out] at c1 hc1 hT
      -- behind the store
      have main : ∀ pp : Addr, pp.block = bb → Sl wr (.slice (some pp) n (cap - 1)) (ks'.map strV) → Wo w0 (wr.setCell ⟨b, 1, none⟩ (.slice (some pp) n (cap - 1))) f m b (.slice (some pp) n (cap - 1)) ks' := by
        intro pp hpp hS
        have hS1 := hat.set 1 (.slice (some pp) n (cap - 1))
        have hK1 : Kp (fun k => k = b) wr (wr.setCell ⟨b, 1, none⟩ (.slice (some pp) n (cap - 1))) := Kp.setCell (S := fun k => k = b) (a := ⟨b, 1, none⟩) (Kp.refl _ wr) (.inl rfl) _
        refine ⟨hO.kp hK1 (fun k hk => by subst hk; exact hb2) (fun k hk e => by subst e; exact hb1 hk), hS1, hS.kp hK1 (fun k hk => ?_), ⟨hb1, hb2⟩, fun k hk => ?_, hks, _, _, by rw [hnn.out], by rw [hnn.out]; omega, by unfold maxLen; omega⟩
        · have hk' : pp.block = k := Option.some.inj hk
          omega
        · have hk' : pp.block = k := Option.some.inj hk
          have hkb : bb = k := by omega
          subst hkb
          exact ⟨hnb, by simpa [World.setCell] using hnlt, hne⟩
      have hgo : ∀ W1 : World, Ow w0 W1 f m → _ := fun W1 h1 => get_o h1 x hxs
      have fin : ∀ (W1 W2 : World) (sl1 : Value), Wo w0 W1 f m b sl1 ks' → Kp (fun k => k = b) wr W1 → Ext W1 W2 → Wo w0 W2 f m b sl1 ks' ∧ Kp (fun k => k = b) w W2 :=
        fun W1 W2 sl1 h1 h2 h3 => ⟨h1.next h3, (hK.trans h2).trans h3.kp⟩
      have hKst : ∀ v : Value, Kp (fun k => k = b) wr (wr.setCell ⟨b, 1, none⟩ v) := fun v => Kp.setCell (S := fun k => k = b) (a := ⟨b, 1, none⟩) (Kp.refl _ wr) (.inl rfl) _
      clear hn h hat hks hO
      unfold enc at hgo
      by_cases hcap : cap = 1
      · subst hcap
        obtain rfl : n = 0 := by omega
        have h0 := main ⟨bb, o, none⟩ rfl ⟨some ⟨bb, o, none⟩, 0, by simp [hnn.out], fun j u hj => by
          have := (List.getElem?_eq_some_iff.1 hj).1
          simp [hnn.out] at this⟩
        have hKs := hKst (.slice (some ⟨bb, o, none⟩) 0 (1 - 1))
        have hBB : SubB (.slice (some ⟨bb, o, none⟩) 0 (1 - 1)) sl := fun k hk => hB k hk
        clear main hT hKst
        cases hlk : look m x with
        | some v =>
          have HL := Lib.hid (HW.out.trans (wnext_some ks' hlk))
          rw [hlk] at hgo
          clear hlk HW
          go_wp2_with (go_at_call 19; refine (hgo _ h0.ow).mono ?_; rintro e w3 ⟨rfl, hO3, hE3⟩)
          obtain ⟨g1, g2⟩ := fin _ _ _ h0 hKs hE3
          go_ret3
          rw [HL.out]
          exact ⟨rfl, _, g1, g2, hBB⟩
        | none =>
          have HL := Lib.hid (HW.out.trans (wnext_none ks' hlk))
          rw [hlk] at hgo
          clear hlk HW
          go_wp2_with (go_at_call 19; refine (hgo _ h0.ow).mono ?_; rintro e w3 ⟨rfl, hO3, hE3⟩)
          obtain ⟨g1, g2⟩ := fin _ _ _ h0 hKs hE3
          go_roundg ks'.length
          case measure => simp
          case rel => exact ⟨_, ks', rfl, rfl, g1, g2, hBB, HL⟩
      · have h0 := main ⟨bb, o + 1, none⟩ rfl hT
        have hKs := hKst (.slice (some ⟨bb, o + 1, none⟩) n (cap - 1))
        have hBB : SubB (.slice (some ⟨bb, o + 1, none⟩) n (cap - 1)) sl := fun k hk => hB k hk
        have hcapm : 1 < cap := by omega
        clear main hT hKst hcap
        cases hlk : look m x with
        | some v =>
          have HL := Lib.hid (HW.out.trans (wnext_some ks' hlk))
          rw [hlk] at hgo
          clear hlk HW
          go_wp2_with (go_at_call 19; refine (hgo _ h0.ow).mono ?_; rintro e w3 ⟨rfl, hO3, hE3⟩)
          obtain ⟨g1, g2⟩ := fin _ _ _ h0 hKs hE3
          go_ret3
          rw [HL.out]
          exact ⟨rfl, _, g1, g2, hBB⟩
        | none =>
          have HL := Lib.hid (HW.out.trans (wnext_none ks' hlk))
          rw [hlk] at hgo
          clear hlk HW
          go_wp2_with (go_at_call 19; refine (hgo _ h0.ow).mono ?_; rintro e w3 ⟨rfl, hO3, hE3⟩)
          obtain ⟨g1, g2⟩ := fin _ _ _ h0 hKs hE3
          go_roundg ks'.length
          case measure => simp
          case rel => exact ⟨_, ks', rfl, rfl, g1, g2, hBB, HL⟩
end Go.Proofs.YtiopkkjcgdcgmaaDoor.s
