/- The map's invariant: the form, one slot changed, a key found. -/
import Derived.Test.YtiopkkjcgdcgmaaDoorPi
namespace Go.Proofs.YtiopkkjcgdcgmaaDoor
open Go.RowKit Go.Rg Go.Nm Go.Gp Go.Mp
section
variable {α : Type} [Inhabited α]
/-- No slot of a group is empty. -/
def Pack (m : M α) (g : Nat) : Prop := ∀ j, j < 8 → m.ctl (8 * g + j) ≠ 128
def Reach (m : M α) (i : Nat) : Prop := ∃ pre post, seq (hsh m (m.s i).1 / 128) m.ws.length = pre ++ (i / 8) :: post ∧ ∀ g ∈ pre, Pack m g
def nFull (m : M α) : Nat := (List.range (8 * m.ws.length)).countP fun i => decide (m.ctl i < 128)
def nTomb (m : M α) : Nat := (List.range (8 * m.ws.length)).countP fun i => m.ctl i == 254
structure Inv (m : M α) : Prop where
  k0 : m.k0 < U
  k1 : m.k1 < U
  pw : Pw m.ws.length
  sl : m.sl.length = 8 * m.ws.length
  w : ∀ x ∈ m.ws, x < U
  ct : ∀ i, i < 8 * m.ws.length → m.ctl i < 128 ∨ m.ctl i = 128 ∨ m.ctl i = 254
  n : m.n = (nFull m : Nat)
  t : m.t = (nTomb m : Nat)
  room : m.n + m.t ≤ 7 * m.ws.length
  key : ∀ s ∈ m.sl, s.1.size ≤ maxLen
  tag : ∀ i, i < 8 * m.ws.length → m.ctl i < 128 → m.ctl i = hsh m (m.s i).1 % 128
  reach : ∀ i, i < 8 * m.ws.length → m.ctl i < 128 → Reach m i
  inj : ∀ i j, i < 8 * m.ws.length → j < 8 * m.ws.length → m.ctl i < 128 → m.ctl j < 128 → (m.s i).1 = (m.s j).1 → i = j

omit [Inhabited α] in
theorem M.w_lt {m : M α} (h : ∀ x ∈ m.ws, x < U) (g : Nat) : m.w g < U := by
  unfold M.w
  rw [List.getD_eq_getElem?_getD]
  cases e : m.ws[g]? with
  | none => simp
  | some x => exact h x (List.mem_of_getElem? e)
omit [Inhabited α] in
theorem ctl_eq (m : M α) (g j : Nat) (hj : j < 8) : m.ctl (8 * g + j) = byteAt (m.w g) j := by
  unfold M.ctl
  rw [show (8 * g + j) / 8 = g by omega, show (8 * g + j) % 8 = j by omega]
omit [Inhabited α] in
theorem pack_iff {m : M α} (h : ∀ x ∈ m.ws, x < U) (g : Nat) : Pack m g ↔ matchN (m.w g) 128 = 0 := by
  rw [match_zero (M.w_lt h g) (by decide)]
  unfold Pack
  constructor <;> intro h i hi <;> have := h i hi <;> rw [ctl_eq m g i hi] at * <;> exact this
theorem Inv.small {m : M α} (I : Inv m) : Small m := by
  have hle := I.pw.le
  have hn := I.n
  have ht := I.t
  have hr := I.room
  exact ⟨I.k0, I.k1, I.pw, I.sl, I.w, ⟨by omega, by omega⟩, ⟨by omega, by omega⟩, I.key⟩

/-! ### one slot changed -/
def upd (m : M α) (i c : Nat) (s : ByteArray × α) (n t : Int) : M α := { m with ws := m.ws.set (i / 8) (setN (m.w (i / 8)) (i % 8) c), sl := m.sl.set i s, n := n, t := t }
omit [Inhabited α] in
theorem upd_len (m : M α) (i c : Nat) (s : ByteArray × α) (n t : Int) : (upd m i c s n t).ws.length = m.ws.length := by simp [upd]
omit [Inhabited α] in
theorem upd_ctl {m : M α} (h : ∀ x ∈ m.ws, x < U) {i c : Nat} (hi : i < 8 * m.ws.length) (hc : c < 256) (s : ByteArray × α) (n t : Int) (j : Nat) :
    (upd m i c s n t).ctl j = if j = i then c else m.ctl j := by
  have hs := (set_spec (M.w_lt h (i / 8)) hc (i % 8) (by omega)).2 (j % 8) (by omega)
  unfold M.ctl
  have hw : (upd m i c s n t).w (j / 8) = if j / 8 = i / 8 then setN (m.w (i / 8)) (i % 8) c else m.w (j / 8) := by
    unfold M.w upd
    simp only [List.getD_eq_getElem?_getD, List.getElem?_set]
    by_cases e : i / 8 = j / 8
    · rw [if_pos e, if_pos (by omega), if_pos e.symm]; rfl
    · rw [if_neg e, if_neg (fun e' => e e'.symm)]
  rw [hw]
  by_cases e : j / 8 = i / 8
  · rw [if_pos e, hs, e]
    by_cases e2 : j % 8 = i % 8
    · rw [if_pos e2, if_pos (by omega)]
    · rw [if_neg e2, if_neg (by omega)]
  · rw [if_neg e, if_neg (by omega)]
theorem upd_s {m : M α} {i c : Nat} (hi : i < m.sl.length) (s : ByteArray × α) (n t : Int) (j : Nat) : (upd m i c s n t).s j = if j = i then s else m.s j := by
  unfold M.s upd
  simp only [List.getD_eq_getElem?_getD, List.getElem?_set]
  by_cases e : i = j
  · rw [if_pos e, if_pos (by omega), if_pos e.symm]; rfl
  · rw [if_neg e, if_neg (fun e' => e e'.symm)]
omit [Inhabited α] in
theorem upd_w {m : M α} (h : ∀ x ∈ m.ws, x < U) {i c : Nat} (hc : c < 256) (s : ByteArray × α) (n t : Int) : ∀ x ∈ (upd m i c s n t).ws, x < U := by
  intro x hx
  rcases List.mem_or_eq_of_mem_set hx with hx | rfl
  · exact h x hx
  · exact (set_spec (M.w_lt h (i / 8)) hc (i % 8) (by omega)).1
omit [Inhabited α] in
theorem upd_key {m : M α} (h : ∀ s ∈ m.sl, s.1.size ≤ maxLen) {i c : Nat} {s : ByteArray × α} (hs : s.1.size ≤ maxLen) (n t : Int) : ∀ x ∈ (upd m i c s n t).sl, x.1.size ≤ maxLen := by
  intro x hx
  rcases List.mem_or_eq_of_mem_set hx with hx | rfl
  · exact h x hx
  · exact hs
omit [Inhabited α] in
theorem upd_full {m : M α} (h : ∀ x ∈ m.ws, x < U) {i c : Nat} (hi : i < 8 * m.ws.length) (hc : c < 256) (s : ByteArray × α) (n t : Int) :
    nFull (upd m i c s n t) + (decide (m.ctl i < 128)).toNat = nFull m + (decide (c < 128)).toNat := by
  unfold nFull
  rw [upd_len]
  have := countP_upd (fun j => decide ((upd m i c s n t).ctl j < 128)) (fun j => decide (m.ctl j < 128)) i (fun j hj => by simp only [upd_ctl h hi hc, if_neg hj]) _ hi
  simp only [upd_ctl h hi hc, if_pos] at this ⊢
  exact this
omit [Inhabited α] in
theorem upd_tomb {m : M α} (h : ∀ x ∈ m.ws, x < U) {i c : Nat} (hi : i < 8 * m.ws.length) (hc : c < 256) (s : ByteArray × α) (n t : Int) :
    nTomb (upd m i c s n t) + (m.ctl i == 254).toNat = nTomb m + (c == 254).toNat := by
  unfold nTomb
  rw [upd_len]
  have := countP_upd (fun j => (upd m i c s n t).ctl j == 254) (fun j => m.ctl j == 254) i (fun j hj => by simp only [upd_ctl h hi hc, if_neg hj]) _ hi
  simp only [upd_ctl h hi hc, if_pos] at this ⊢
  exact this
omit [Inhabited α] in
theorem upd_hsh (m : M α) (i c : Nat) (s : ByteArray × α) (n t : Int) (key : ByteArray) : hsh (upd m i c s n t) key = hsh m key := rfl

/-! ### a key found -/
theorem hit_none {m : M α} {key : ByteArray} {t g : Nat} (h : m.hitG key t g = none) (j : Nat) (hj : j < 8) (h1 : m.ctl (8 * g + j) = t) : (m.s (8 * g + j)).1 ≠ key := by
  unfold M.hitG at h
  rw [List.find?_eq_none] at h
  have := h j (List.mem_range.2 hj)
  rw [ctl_eq m g j hj] at h1
  simpa [h1] using this
theorem fnd_spec {m : M α} (I : Inv m) (key : ByteArray) : (fnd m key = -1 ∧ ∀ i, i < 8 * m.ws.length → m.ctl i < 128 → (m.s i).1 ≠ key) ∨
    (∃ q : Nat, fnd m key = q ∧ q < 8 * m.ws.length ∧ m.ctl q < 128 ∧ (m.s q).1 = key) := by
  have hc := m.findL_cases key (hsh m key % 128) m.ws.length (seq (hsh m key / 128) m.ws.length) (fun x hx => seq_lt hx)
  change fnd m key = -1 ∨ _ at hc
  rcases hc with h | ⟨q, h1, h2, h3, h4⟩
  · refine .inl ⟨h, fun i hi hf hk => ?_⟩
    obtain ⟨pre, post, hs, hp⟩ := I.reach i hi hf
    have ht := I.tag i hi hf
    rw [hk] at hs ht
    have main : ∀ pre : List Nat, (∀ g ∈ pre, Pack m g) → m.findL key (hsh m key % 128) (pre ++ (i / 8) :: post) ≠ -1 := by
      intro pre
      induction pre with
      | nil =>
        intro _ e
        cases hh : m.hitG key (hsh m key % 128) (i / 8) with
        | some j => rw [List.nil_append, m.findL_hit hh] at e; omega
        | none =>
          have := hit_none hh (i % 8) (by omega) (by rw [show 8 * (i / 8) + i % 8 = i by omega]; exact ht)
          rw [show 8 * (i / 8) + i % 8 = i by omega] at this
          exact this hk
      | cons g pre ih =>
        intro hp e
        cases hh : m.hitG key (hsh m key % 128) g with
        | some j => rw [List.cons_append, m.findL_hit hh] at e; omega
        | none =>
          rw [List.cons_append, m.findL_go hh ((pack_iff I.w g).1 (hp g List.mem_cons_self))] at e
          exact ih (fun g hg => hp g (List.mem_cons_of_mem _ hg)) e
    refine main pre hp ?_
    rw [← hs]; exact h
  · exact .inr ⟨q, h1, h2, by rw [h4]; omega, h3⟩

/-! ### the slots that have a key -/
theorem full_eq {m : M α} (h : ∀ x ∈ m.ws, x < U) : m.full = ((List.range (8 * m.ws.length)).filter fun i => decide (m.ctl i < 128)).map m.s := by
  unfold M.full
  generalize m.ws.length = k
  induction k with
  | zero => rfl
  | succ k ih =>
    rw [M.fullTo_succ, ih, show 8 * (k + 1) = 8 * k + 8 by omega, List.range_add, List.filter_append, List.map_append]
    congr 1
    unfold M.fullG
    rw [full_mask (M.w_lt h k), Go.Gp.bits_mask, List.filter_map, List.map_map]
    have hf : (List.range 8).filter (fun i => decide (byteAt (m.w k) i < 128)) = (List.range 8).filter ((fun i => decide (m.ctl i < 128)) ∘ fun x => 8 * k + x) := ?_
    · rw [hf]; rfl
    refine List.filter_congr fun i hi => ?_
    simp only [Function.comp_apply, ctl_eq m k i (List.mem_range.1 hi)]
theorem full_len {m : M α} (I : Inv m) : (m.full.length : Int) = m.n := by
  rw [I.n, full_eq I.w, List.length_map, ← List.countP_eq_length_filter]; rfl
theorem mem_full {m : M α} (h : ∀ x ∈ m.ws, x < U) {s : ByteArray × α} : s ∈ m.full ↔ ∃ i, i < 8 * m.ws.length ∧ m.ctl i < 128 ∧ m.s i = s := by
  rw [full_eq h, List.mem_map]
  simp only [List.mem_filter, List.mem_range, decide_eq_true_eq, and_assoc]
theorem keys_nodup {m : M α} (I : Inv m) : (keys m).Nodup := by
  unfold keys
  rw [full_eq I.w, List.map_map, List.Nodup, List.pairwise_map]
  refine List.Pairwise.imp_of_mem ?_ ((List.nodup_range (n := 8 * m.ws.length)).filter _)
  intro a b ha hb hab e
  simp only [List.mem_filter, List.mem_range, decide_eq_true_eq] at ha hb
  exact hab (I.inj a b ha.1 hb.1 ha.2 hb.2 e)
/-- A key's value, if there is one. -/
def look (m : M α) (key : ByteArray) : Option α := if fnd m key < 0 then none else some (m.s (fnd m key).toNat).2
theorem get_look (m : M α) (key : ByteArray) : get m key = ((look m key).getD default, (look m key).isSome) := by
  unfold get look; split <;> rfl
theorem look_some {m : M α} (I : Inv m) {key : ByteArray} {v : α} : look m key = some v ↔ (key, v) ∈ m.full := by
  rw [mem_full I.w]
  unfold look
  rcases fnd_spec I key with ⟨h1, h2⟩ | ⟨q, h1, h2, h3, h4⟩
  · rw [h1, if_pos (by decide)]
    constructor
    · intro h; cases h
    · rintro ⟨i, hi, hf, e⟩
      exact absurd (by rw [e]) (h2 i hi hf)
  · rw [h1, if_neg (by omega)]
    constructor
    · intro h
      cases h
      exact ⟨q, h2, h3, by rw [← h4]; rfl⟩
    · rintro ⟨i, hi, hf, e⟩
      have := I.inj q i h2 hi h3 hf (by rw [h4, e])
      subst this
      show some (m.s q).2 = _
      rw [e]
theorem mem_keys {m : M α} (I : Inv m) {key : ByteArray} : key ∈ keys m ↔ (look m key).isSome = true := by
  unfold keys
  rw [List.mem_map, Option.isSome_iff_exists]
  constructor
  · rintro ⟨⟨k, v⟩, h, rfl⟩; exact ⟨v, (look_some I).2 h⟩
  · rintro ⟨v, h⟩; exact ⟨_, (look_some I).1 h, rfl⟩
end
end Go.Proofs.YtiopkkjcgdcgmaaDoor
