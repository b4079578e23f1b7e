/- The map's invariant: made, a key laid, stored, dropped; all laid anew; Put and Delete. -/
import Derived.Test.YtiopkkjcgdcgmaaDoorPj
namespace Go.Proofs.YtiopkkjcgdcgmaaDoor
open Go.RowKit Go.Rg Go.Nm Go.Gp Go.Mp
section
variable {α : Type} [Inhabited α]
theorem byteAt_no : ∀ j : Fin 8, byteAt noWord j.val = 128 := by decide +kernel
theorem made_ctl (k0 k1 g : Nat) {i : Nat} (hi : i < 8 * g) : (made (α := α) k0 k1 g).ctl i = 128 := by
  unfold M.ctl
  have : (made (α := α) k0 k1 g).w (i / 8) = noWord := by
    unfold M.w made
    simp only [List.getD_eq_getElem?_getD, List.getElem?_replicate]
    rw [if_pos (by omega)]; rfl
  rw [this]
  exact byteAt_no ⟨i % 8, by omega⟩
theorem made_len (k0 k1 g : Nat) : (made (α := α) k0 k1 g).ws.length = g := by simp [made]
theorem made_inv {k0 k1 g : Nat} (h0 : k0 < U) (h1 : k1 < U) (hP : Pw g) : Inv (made (α := α) k0 k1 g) := by
  have hc := fun i (hi : i < 8 * (made (α := α) k0 k1 g).ws.length) => made_ctl (α := α) k0 k1 g (i := i) (by rwa [made_len] at hi)
  refine ⟨h0, h1, by rw [made_len]; exact hP, by simp [made], ?_, fun i hi => .inr (.inl (hc i hi)), ?_, ?_, ?_, ?_, ?_, ?_, ?_⟩
  · intro x hx
    have := (List.mem_replicate.1 hx).2
    subst this; decide
  · unfold nFull
    rw [List.countP_eq_zero.2 (fun i hi => by rw [hc i (List.mem_range.1 hi)]; decide)]; rfl
  · unfold nTomb
    rw [List.countP_eq_zero.2 (fun i hi => by rw [hc i (List.mem_range.1 hi)]; decide)]; rfl
  · rw [made_len]; show (0 : Int) + 0 ≤ _; omega
  · intro s hs
    have := (List.mem_replicate.1 hs).2
    subst this; exact Nat.zero_le _
  · intro i hi h; rw [hc i hi] at h; omega
  · intro i hi h; rw [hc i hi] at h; omega
  · intro i j hi _ h; rw [hc i hi] at h; omega
theorem made_full (k0 k1 : Nat) {g : Nat} (x : ByteArray × α) : x ∉ (made (α := α) k0 k1 g).full := by
  intro h
  have hw : ∀ x ∈ (made (α := α) k0 k1 g).ws, x < U := by
    intro x hx
    have := (List.mem_replicate.1 hx).2
    subst this; decide
  obtain ⟨i, hi, hf, _⟩ := (mem_full hw).1 h
  rw [made_ctl k0 k1 g (by rwa [made_len] at hi)] at hf
  omega
theorem made_look {k0 k1 g : Nat} (h0 : k0 < U) (h1 : k1 < U) (hP : Pw g) (key : ByteArray) : look (made (α := α) k0 k1 g) key = none := by
  cases h : look (made (α := α) k0 k1 g) key with
  | none => rfl
  | some v => exact absurd ((look_some (made_inv h0 h1 hP)).1 h) (made_full k0 k1 _)

theorem s_key {m : M α} (I : Inv m) {i : Nat} (hi : i < 8 * m.ws.length) : (m.s i).1.size ≤ maxLen := by
  have hq : i < m.sl.length := by rw [I.sl]; exact hi
  have e : m.s i = m.sl[i] := by unfold M.s; rw [List.getD_eq_getElem?_getD, List.getElem?_eq_getElem hq]; rfl
  rw [e]
  exact I.key _ (List.getElem_mem hq)

/-! ### one slot changed: what is kept -/
theorem upd_pack {m : M α} (I : Inv m) {q c : Nat} (hq : q < 8 * m.ws.length) (hc : c < 256) (s : ByteArray × α) (n t : Int) (h : c ≠ 128 ∨ ¬ Pack m (q / 8)) {g : Nat} (hg : Pack m g) : Pack (upd m q c s n t) g := by
  intro j hj
  rw [upd_ctl I.w hq hc]
  split
  · rename_i e
    rcases h with h | h
    · exact h
    · rw [show q / 8 = g by omega] at h; exact absurd hg h
  · exact hg j hj
theorem upd_reach {m : M α} (I : Inv m) {q c : Nat} (hq : q < 8 * m.ws.length) (hc : c < 256) (s : ByteArray × α) (n t : Int) (h : c ≠ 128 ∨ ¬ Pack m (q / 8)) {i : Nat} (hi : i ≠ q) (hr : Reach m i) : Reach (upd m q c s n t) i := by
  obtain ⟨pre, post, h1, h2⟩ := hr
  refine ⟨pre, post, ?_, fun g hg => upd_pack I hq hc s n t h (h2 g hg)⟩
  rw [upd_hsh, upd_len, upd_s (by rw [I.sl]; exact hq), if_neg hi]; exact h1
theorem mem_upd {m : M α} (I : Inv m) {q c : Nat} (hq : q < 8 * m.ws.length) (hc : c < 256) (s : ByteArray × α) (n t : Int) (x : ByteArray × α) :
    x ∈ (upd m q c s n t).full ↔ (c < 128 ∧ s = x) ∨ ∃ i, i < 8 * m.ws.length ∧ i ≠ q ∧ m.ctl i < 128 ∧ m.s i = x := by
  have hqs : q < m.sl.length := by rw [I.sl]; exact hq
  rw [mem_full (upd_w I.w hc s n t), upd_len]
  constructor
  · rintro ⟨i, hi, hf, e⟩
    rw [upd_ctl I.w hq hc] at hf
    rw [upd_s hqs] at e
    by_cases h : i = q
    · rw [if_pos h] at hf e; exact .inl ⟨hf, e⟩
    · rw [if_neg h] at hf e; exact .inr ⟨i, hi, h, hf, e⟩
  · rintro (⟨hc', e⟩ | ⟨i, hi, h, hf, e⟩)
    · exact ⟨q, hq, by rw [upd_ctl I.w hq hc, if_pos rfl]; exact hc', by rw [upd_s hqs, if_pos rfl]; exact e⟩
    · exact ⟨i, hi, by rw [upd_ctl I.w hq hc, if_neg h]; exact hf, by rw [upd_s hqs, if_neg h]; exact e⟩

/-! ### a key laid -/
def LaidAt (m : M α) (key : ByteArray) (v : α) (r : M α) : Prop := ∃ (q : Nat) (t' : Int) (pre post : List Nat), r = upd m q (hsh m key % 128) (key, v) (m.n + 1) t' ∧ q < 8 * m.ws.length ∧
  seq (hsh m key / 128) m.ws.length = pre ++ (q / 8) :: post ∧ (∀ g ∈ pre, Pack m g) ∧ ((m.ctl q = 128 ∧ t' = m.t) ∨ (m.ctl q = 254 ∧ t' = m.t - 1))
omit [Inhabited α] in
theorem layL_spec {m : M α} (hw : ∀ x ∈ m.ws, x < U) (t : Nat) (key : ByteArray) (v : α) : ∀ l : List Nat, (∃ g ∈ l, fr (m.w g) ≠ 0) →
    ∃ pre g post, l = pre ++ g :: post ∧ (∀ g ∈ pre, fr (m.w g) = 0) ∧ fr (m.w g) ≠ 0 ∧ m.layL t key v l = m.putAt t key v g
  | [], h => by obtain ⟨_, h, _⟩ := h; cases h
  | g :: l, h => by
    by_cases h0 : fr (m.w g) = 0
    · obtain ⟨pre, g', post, h1, h2, h3, h4⟩ := layL_spec hw t key v l (by
        obtain ⟨g', hg, hf⟩ := h
        rcases List.mem_cons.1 hg with rfl | hg
        · exact absurd h0 hf
        · exact ⟨g', hg, hf⟩)
      refine ⟨g :: pre, g', post, by rw [h1]; rfl, ?_, h3, by rw [m.layL_skip h0]; exact h4⟩
      intro x hx
      rcases List.mem_cons.1 hx with rfl | hx
      · exact h0
      · exact h2 x hx
    · exact ⟨[], g, l, rfl, (fun _ h => by cases h), h0, m.layL_at h0 l⟩
theorem lay_at {m : M α} (I : Inv m) (key : ByteArray) (v : α) (hr : m.n + m.t < 7 * m.ws.length) : LaidAt m key v (lay m key v) := by
  have hpos := I.pw.pos
  -- some slot is free
  have hfree : ∃ i, i < 8 * m.ws.length ∧ ¬ m.ctl i < 128 := by
    refine Classical.byContradiction fun hne => ?_
    have hall : nFull m = 8 * m.ws.length := by
      unfold nFull
      rw [List.countP_eq_length.2 (fun i hi => ?_), List.length_range]
      simp only [decide_eq_true_eq]
      exact Classical.byContradiction fun hf => hne ⟨i, List.mem_range.1 hi, hf⟩
    have := I.n; have := I.t; omega
  obtain ⟨i, hi, hf⟩ := hfree
  have hne : fr (m.w (i / 8)) ≠ 0 := by
    intro h0
    have := (fr_zero (M.w_lt I.w (i / 8))).1 h0 (i % 8) (by omega)
    have hc := I.ct i hi
    unfold M.ctl at hc hf
    omega
  obtain ⟨pre, g, post, h1, h2, h3, h4⟩ := layL_spec I.w (hsh m key % 128) key v (seq (hsh m key / 128) m.ws.length) ⟨i / 8, seq_all I.pw _ (by omega), hne⟩
  have hg : g < m.ws.length := seq_lt (h := hsh m key / 128) (g := m.ws.length) (by rw [h1]; simp)
  obtain ⟨f1, f2⟩ := fr_first (M.w_lt I.w g) h3
  refine ⟨8 * g + tz8 (fr (m.w g)), if byteAt (m.w g) (tz8 (fr (m.w g))) = 254 then m.t - 1 else m.t, pre, post, ?_, by omega, ?_, ?_, ?_⟩
  · unfold lay
    rw [h4]
    unfold M.putAt upd
    rw [show (8 * g + tz8 (fr (m.w g))) / 8 = g by omega, show (8 * g + tz8 (fr (m.w g))) % 8 = tz8 (fr (m.w g)) by omega]
  · rw [show (8 * g + tz8 (fr (m.w g))) / 8 = g by omega]; exact h1
  · intro x hx
    rw [pack_iff I.w]
    have := h2 x hx
    unfold fr at this
    exact (Nat.or_eq_zero_iff.1 this).1
  · rw [ctl_eq m g _ f1]
    rcases f2 with f2 | f2
    · exact .inl ⟨f2, by rw [f2, if_neg (by decide)]⟩
    · exact .inr ⟨f2, by rw [f2, if_pos rfl]⟩
structure Laid (m : M α) (key : ByteArray) (v : α) (r : M α) : Prop where
  inv : Inv r
  len : r.ws.length = m.ws.length
  n : r.n = m.n + 1
  t : r.t ≤ m.t ∧ 0 ≤ r.t
  mem : ∀ x, x ∈ r.full ↔ x = (key, v) ∨ x ∈ m.full
  kk : r.k0 = m.k0 ∧ r.k1 = m.k1
theorem lay_spec {m : M α} (I : Inv m) {key : ByteArray} (v : α) (hk : key.size ≤ maxLen) (hr : m.n + m.t < 7 * m.ws.length) (ha : ∀ i, i < 8 * m.ws.length → m.ctl i < 128 → (m.s i).1 ≠ key) : Laid m key v (lay m key v) := by
  obtain ⟨q, t', pre, post, he, hq, hs, hp, hc⟩ := lay_at I key v hr
  rw [he]
  have hqs : q < m.sl.length := by rw [I.sl]; exact hq
  have hh : hsh m key % 128 < 128 := Nat.mod_lt _ (by decide)
  generalize hcc : hsh m key % 128 = c at *
  have hnf : ¬ m.ctl q < 128 := by omega
  have F := upd_full I.w hq (c := c) (by omega) (key, v) (m.n + 1) t'
  have T := upd_tomb I.w hq (c := c) (by omega) (key, v) (m.n + 1) t'
  have hn := I.n
  have ht := I.t
  have hroom := I.room
  have hc254 : (c == 254) = false := by simp; omega
  simp only [hnf, hh, hc254, decide_false, decide_true, Bool.toNat_false, Bool.toNat_true] at F T
  have ht' : t' = (nTomb (upd m q c (key, v) (m.n + 1) t') : Nat) ∧ t' ≤ m.t := by
    rcases hc with ⟨h1, h2⟩ | ⟨h1, h2⟩
    · rw [h1] at T; simp at T; omega
    · rw [h1] at T; simp at T; omega
  refine ⟨⟨I.k0, I.k1, by rw [upd_len]; exact I.pw, ?_, upd_w I.w (by omega) _ _ _, ?_, ?_, ht'.1, ?_, upd_key I.key hk _ _, ?_, ?_, ?_⟩, upd_len _ _ _ _ _ _, rfl, ⟨ht'.2, ?_⟩, ?_, rfl, rfl⟩
  · rw [upd_len]; show (m.sl.set q _).length = _; rw [List.length_set]; exact I.sl
  · intro i hi
    rw [upd_len] at hi
    rw [upd_ctl I.w hq (by omega)]
    split
    · exact .inl hh
    · exact I.ct i hi
  · show m.n + 1 = _
    omega
  · rw [upd_len]; show m.n + 1 + t' ≤ _; omega
  · intro i hi hf
    rw [upd_len] at hi
    rw [upd_ctl I.w hq (by omega)] at hf ⊢
    rw [upd_s hqs, upd_hsh]
    split
    · exact hcc.symm
    · rename_i e
      rw [if_neg e] at hf
      exact I.tag i hi hf
  · intro i hi hf
    rw [upd_len] at hi
    rw [upd_ctl I.w hq (by omega)] at hf
    by_cases e : i = q
    · subst e
      refine ⟨pre, post, ?_, fun g hg => upd_pack I hq (by omega) _ _ _ (.inl (by omega)) (hp g hg)⟩
      rw [upd_s hqs, if_pos rfl, upd_hsh, upd_len]; exact hs
    · rw [if_neg e] at hf
      exact upd_reach I hq (by omega) _ _ _ (.inl (by omega)) e (I.reach i hi hf)
  · intro i j hi hj hfi hfj e
    rw [upd_len] at hi hj
    rw [upd_ctl I.w hq (by omega)] at hfi hfj
    rw [upd_s hqs, upd_s hqs] at e
    by_cases ei : i = q
    · by_cases ej : j = q
      · omega
      · rw [if_pos ei, if_neg ej] at e
        rw [if_neg ej] at hfj
        exact absurd e.symm (ha j hj hfj)
    · rw [if_neg ei] at hfi e
      by_cases ej : j = q
      · rw [if_pos ej] at e
        exact absurd e (ha i hi hfi)
      · rw [if_neg ej] at hfj e
        exact I.inj i j hi hj hfi hfj e
  · show 0 ≤ t'
    omega
  · intro x
    rw [mem_upd I hq (by omega), mem_full I.w]
    constructor
    · rintro (⟨_, e⟩ | ⟨i, hi, _, hf, e⟩)
      · exact .inl e.symm
      · exact .inr ⟨i, hi, hf, e⟩
    · rintro (e | ⟨i, hi, hf, e⟩)
      · exact .inl ⟨hh, e.symm⟩
      · refine .inr ⟨i, hi, ?_, hf, e⟩
        rintro rfl; exact hnf hf
theorem lay_tomb {m : M α} (I : Inv m) {key : ByteArray} (v : α) (hr : m.n + m.t < 7 * m.ws.length) (h0 : m.t = 0) : (lay m key v).t = 0 := by
  obtain ⟨q, t', pre, post, he, hq, hs, hp, hc⟩ := lay_at I key v hr
  rw [he]
  show t' = 0
  rcases hc with ⟨_, h⟩ | ⟨h, _⟩
  · omega
  · have ht := I.t
    have : 0 < nTomb m := by
      unfold nTomb
      rw [List.countP_pos_iff]
      exact ⟨q, List.mem_range.2 hq, by simp [h]⟩
    omega

/-! ### another value stored -/
theorem stor_mem {m : M α} (I : Inv m) {q : Nat} (v : α) (hq : q < 8 * m.ws.length) (hf : m.ctl q < 128) (x : ByteArray × α) :
    x ∈ (stor m q v).full ↔ x = ((m.s q).1, v) ∨ (x ∈ m.full ∧ x.1 ≠ (m.s q).1) := by
  have hqs : q < m.sl.length := by rw [I.sl]; exact hq
  have hs : ∀ j, (stor m q v).s j = if j = q then ((m.s q).1, v) else m.s j := by
    intro j
    unfold stor
    show (m.sl.set q _).getD j _ = _
    simp only [List.getD_eq_getElem?_getD, List.getElem?_set]
    by_cases e : q = j
    · rw [if_pos e, if_pos (by omega), if_pos e.symm]; rfl
    · rw [if_neg e, if_neg (fun e' => e e'.symm)]; rfl
  rw [mem_full (m := stor m q v) I.w, mem_full I.w]
  constructor
  · rintro ⟨i, hi, hfi, e⟩
    rw [hs] at e
    by_cases h : i = q
    · rw [if_pos h] at e; exact .inl e.symm
    · rw [if_neg h] at e
      refine .inr ⟨⟨i, hi, hfi, e⟩, fun e2 => h (I.inj i q hi hq hfi hf (by rw [e]; exact e2))⟩
  · rintro (e | ⟨⟨i, hi, hfi, e⟩, h⟩)
    · exact ⟨q, hq, hf, by rw [hs, if_pos rfl]; exact e.symm⟩
    · refine ⟨i, hi, hfi, ?_⟩
      rw [hs, if_neg ?_]
      · exact e
      · rintro rfl; rw [e] at h; exact h rfl
theorem stor_inv {m : M α} (I : Inv m) {q : Nat} (v : α) (hq : q < 8 * m.ws.length) : Inv (stor m q v) := by
  have hqs : q < m.sl.length := by rw [I.sl]; exact hq
  have hs : ∀ j, ((stor m q v).s j).1 = (m.s j).1 := by
    intro j
    unfold stor
    show ((m.sl.set q _).getD j _).1 = _
    simp only [List.getD_eq_getElem?_getD, List.getElem?_set]
    by_cases e : q = j
    · subst e; rw [if_pos rfl, if_pos hqs]; rfl
    · rw [if_neg e]; unfold M.s; rw [List.getD_eq_getElem?_getD]
  refine ⟨I.k0, I.k1, I.pw, by show (m.sl.set q _).length = _; rw [List.length_set]; exact I.sl, I.w, I.ct, I.n, I.t, I.room, ?_, ?_, ?_, ?_⟩
  · intro x hx
    rcases List.mem_or_eq_of_mem_set hx with hx | rfl
    · exact I.key x hx
    · exact s_key I hq
  · intro i hi hf
    rw [hs]; exact I.tag i hi hf
  · intro i hi hf
    obtain ⟨pre, post, h1, h2⟩ := I.reach i hi hf
    exact ⟨pre, post, by rw [hs]; exact h1, h2⟩
  · intro i j hi hj hfi hfj e
    rw [hs, hs] at e
    exact I.inj i j hi hj hfi hfj e

/-! ### a key dropped -/
theorem drop_spec {m : M α} (I : Inv m) {q : Nat} (hq : q < 8 * m.ws.length) (hf : m.ctl q < 128) : Inv (drop m q) ∧ (∀ x, x ∈ (drop m q).full ↔ x ∈ m.full ∧ x.1 ≠ (m.s q).1) := by
  have hqs : q < m.sl.length := by rw [I.sl]; exact hq
  have hd : ∃ (c : Nat) (t' : Int), drop m q = upd m q c (noKey, default) (m.n - 1) t' ∧ ((c = 254 ∧ t' = m.t + 1) ∨ (c = 128 ∧ t' = m.t ∧ ¬ Pack m (q / 8))) := by
    unfold drop
    by_cases e : matchN (m.w (q / 8)) 128 = 0
    · exact ⟨254, m.t + 1, by simp only [e, if_pos]; rfl, .inl ⟨rfl, rfl⟩⟩
    · exact ⟨128, m.t, by simp only [e, if_false]; rfl, .inr ⟨rfl, rfl, fun h => e ((pack_iff I.w _).1 h)⟩⟩
  obtain ⟨c, t', he, hc⟩ := hd
  rw [he]
  have hc1 : ¬ c < 128 ∧ c < 256 := by omega
  have F := upd_full I.w hq (c := c) hc1.2 (noKey, default) (m.n - 1) t'
  have T := upd_tomb I.w hq (c := c) hc1.2 (noKey, default) (m.n - 1) t'
  have hn := I.n
  have ht := I.t
  have hroom := I.room
  have hq254 : (m.ctl q == 254) = false := by simp; omega
  simp only [hf, hc1.1, hq254, decide_false, decide_true, Bool.toNat_false, Bool.toNat_true] at F T
  have hpk : c ≠ 128 ∨ ¬ Pack m (q / 8) := by
    rcases hc with ⟨h, _⟩ | ⟨_, _, h⟩
    · exact .inl (by omega)
    · exact .inr h
  have ht' : t' = (nTomb (upd m q c (noKey, default) (m.n - 1) t') : Nat) ∧ t' ≤ m.t + 1 := by
    rcases hc with ⟨h1, h2⟩ | ⟨h1, h2, _⟩
    · subst h1; simp at T; omega
    · subst h1; simp at T; omega
  refine ⟨⟨I.k0, I.k1, by rw [upd_len]; exact I.pw, ?_, upd_w I.w hc1.2 _ _ _, ?_, ?_, ht'.1, ?_, upd_key I.key (Nat.zero_le _) _ _, ?_, ?_, ?_⟩, ?_⟩
  · rw [upd_len]; show (m.sl.set q _).length = _; rw [List.length_set]; exact I.sl
  · intro i hi
    rw [upd_len] at hi
    rw [upd_ctl I.w hq hc1.2]
    split
    · omega
    · exact I.ct i hi
  · show m.n - 1 = _
    omega
  · rw [upd_len]; show m.n - 1 + t' ≤ _; omega
  · intro i hi hfi
    rw [upd_len] at hi
    rw [upd_ctl I.w hq hc1.2] at hfi ⊢
    rw [upd_s hqs, upd_hsh]
    by_cases e : i = q
    · rw [if_pos e] at hfi; omega
    · rw [if_neg e] at hfi; rw [if_neg e, if_neg e]; exact I.tag i hi hfi
  · intro i hi hfi
    rw [upd_len] at hi
    rw [upd_ctl I.w hq hc1.2] at hfi
    by_cases e : i = q
    · rw [if_pos e] at hfi; omega
    · rw [if_neg e] at hfi; exact upd_reach I hq hc1.2 _ _ _ hpk e (I.reach i hi hfi)
  · intro i j hi hj hfi hfj e
    rw [upd_len] at hi hj
    rw [upd_ctl I.w hq hc1.2] at hfi hfj
    rw [upd_s hqs, upd_s hqs] at e
    by_cases ei : i = q
    · rw [if_pos ei] at hfi; omega
    · by_cases ej : j = q
      · rw [if_pos ej] at hfj; omega
      · rw [if_neg ei] at hfi; rw [if_neg ej] at hfj; rw [if_neg ei, if_neg ej] at e
        exact I.inj i j hi hj hfi hfj e
  · intro x
    rw [mem_upd I hq hc1.2, mem_full I.w]
    constructor
    · rintro (⟨h, _⟩ | ⟨i, hi, hne, hfi, e⟩)
      · exact absurd h hc1.1
      · exact ⟨⟨i, hi, hfi, e⟩, fun e2 => hne (I.inj i q hi hq hfi hf (by rw [e]; exact e2))⟩
    · rintro ⟨⟨i, hi, hfi, e⟩, h⟩
      refine .inr ⟨i, hi, ?_, hfi, e⟩
      rintro rfl
      rw [e] at h; exact h rfl

/-! ### all keys laid anew -/
omit [Inhabited α] in
theorem newG_ge (m : M α) : m.ws.length ≤ newG m := by unfold newG; split <;> omega
structure Relaid (m : M α) (k : Nat) (r : M α) : Prop where
  inv : Inv r
  n : r.n = k
  t : r.t = 0
  len : r.ws.length = newG m
  mem : ∀ x, x ∈ r.full ↔ x ∈ m.full.take k
theorem relay_spec {m : M α} (I : Inv m) (hP : Pw (newG m)) : ∀ k, k ≤ m.full.length → Relaid m k (relay m k)
  | 0, _ => by
    have e : relay m 0 = made m.k0 m.k1 (newG m) := by simp [relay]
    rw [e]
    exact ⟨made_inv I.k0 I.k1 hP, rfl, rfl, made_len _ _ _, fun x => by simp [made_full]⟩
  | k + 1, hk => by
    obtain ⟨I', hn, ht, hl, hm⟩ := relay_spec I hP k (by omega)
    have hk' : k < m.full.length := by omega
    have hs : m.full[k]? = some m.full[k] := List.getElem?_eq_getElem hk'
    rw [relay_succ m k _ hs]
    have hfl := full_len I
    have hge := newG_ge m
    have hroom := I.room
    have ht0 := I.t
    have hmem : m.full[k] ∈ m.full := List.getElem_mem hk'
    obtain ⟨i, hi, hf, e⟩ := (mem_full I.w).1 hmem
    have hkey : m.full[k].1.size ≤ maxLen := by
      rw [← e]; exact s_key I hi
    have hnd := keys_nodup I
    have L := lay_spec I' (key := m.full[k].1) m.full[k].2 hkey (by rw [hn, ht, hl]; omega) (by
      intro j hj hfj e2
      have h1 : (relay m k).s j ∈ m.full.take k := (hm _).1 ((mem_full I'.w).2 ⟨j, hj, hfj, rfl⟩)
      obtain ⟨p, hp, e3⟩ := List.mem_take_iff_getElem.1 h1
      have hp' : p < k := by omega
      have := (List.pairwise_iff_getElem.1 hnd) p k (by simp [keys]; omega) (by simp [keys]; omega) hp'
      unfold keys at this
      simp only [List.getElem_map] at this
      exact this (by rw [e3, e2]))
    refine ⟨L.inv, by rw [L.n, hn]; omega, ?_, by rw [L.len, hl], fun x => ?_⟩
    · have := L.t; omega
    · rw [L.mem, hm, List.take_add_one, hs, List.mem_append]
      simp only [Option.toList_some, List.mem_singleton, Prod.eta]
      exact or_comm
theorem rehash_spec {m : M α} (I : Inv m) (hP : Pw (newG m)) : Inv (rehash m) ∧ (rehash m).n = m.n ∧ (rehash m).t = 0 ∧ (rehash m).ws.length = newG m ∧ ∀ x, x ∈ (rehash m).full ↔ x ∈ m.full := by
  obtain ⟨a, b, c, d, e⟩ := relay_spec I hP m.full.length (Nat.le_refl _)
  refine ⟨a, by rw [← full_len I]; exact b, c, d, fun x => ?_⟩
  unfold rehash
  rw [e, List.take_length]
theorem full_key {m : M α} (I : Inv m) : ∀ s ∈ m.full, s.1.size ≤ maxLen := by
  intro s hs
  obtain ⟨i, hi, _, e⟩ := (mem_full I.w).1 hs
  rw [← e]; exact s_key I hi
theorem newG_pw {m : M α} (I : Inv m) (hn : m.n < 2000) (h7 : 7 * (m.ws.length : Int) ≤ m.n + m.t) : Pw (newG m) := by
  obtain ⟨k, hk, e⟩ := I.pw
  unfold newG
  split
  · rename_i h
    have hlt : m.ws.length < 1024 := by omega
    have : k ≠ 10 := by rintro rfl; rw [e] at hlt; exact absurd hlt (by decide)
    exact ⟨k + 1, by omega, by rw [e, Nat.pow_succ]; omega⟩
  · exact ⟨k, hk, e⟩
theorem rok {m : M α} (I : Inv m) (hn : m.n < 2000) (h7 : 7 * (m.ws.length : Int) ≤ m.n + m.t) : Rok m :=
  ⟨newG_pw I hn h7, fun k hk => (relay_spec I (newG_pw I hn h7) k hk).inv.small, full_key I⟩
theorem rok' {m : M α} (I : Inv m) {key : ByteArray} : fnd m key < 0 → m.n < 2000 → 7 * (m.ws.length : Int) ≤ m.n + m.t → Rok m := fun _ h1 h2 => rok I h1 h2

/-! ### Put and Delete -/
theorem look_of {m r : M α} (I : Inv m) (J : Inv r) {key : ByteArray} {o : Option α} (h : ∀ x, x ∈ r.full ↔ (∃ v, o = some v ∧ x = (key, v)) ∨ (x ∈ m.full ∧ x.1 ≠ key)) (k : ByteArray) : look r k = if k = key then o else look m k := by
  have hv : ∀ v, look r k = some v ↔ (if k = key then o else look m k) = some v := by
    intro v
    rw [look_some J, h]
    by_cases e : k = key
    · subst e
      rw [if_pos rfl]
      constructor
      · rintro (⟨v', h1, h2⟩ | ⟨_, h2⟩)
        · cases h2; exact h1
        · exact absurd rfl h2
      · intro h1; exact .inl ⟨v, h1, rfl⟩
    · rw [if_neg e, look_some I]
      constructor
      · rintro (⟨v', _, h2⟩ | ⟨h1, _⟩)
        · cases h2; exact absurd rfl e
        · exact h1
      · intro h1; exact .inr ⟨h1, e⟩
  exact Option.ext hv
theorem look_none_iff {m : M α} (_ : Inv m) {key : ByteArray} : fnd m key < 0 ↔ look m key = none := by
  unfold look; split <;> simp_all
theorem fnd_abs {m : M α} (I : Inv m) {key : ByteArray} (h : look m key = none) : fnd m key = -1 ∧ ∀ i, i < 8 * m.ws.length → m.ctl i < 128 → (m.s i).1 ≠ key := by
  have h0 := (look_none_iff I).2 h
  rcases fnd_spec I key with h1 | ⟨q, h1, _⟩
  · exact h1
  · omega
theorem fnd_is {m : M α} (I : Inv m) {key : ByteArray} (h : (look m key).isSome = true) : ∃ q : Nat, fnd m key = q ∧ q < 8 * m.ws.length ∧ m.ctl q < 128 ∧ (m.s q).1 = key := by
  rcases fnd_spec I key with ⟨h1, _⟩ | h1
  · have := (look_none_iff I).1 (by rw [h1]; decide); rw [this] at h; cases h
  · exact h1
/-- A map is another one with a key put. -/
structure PutAs (m : M α) (key : ByteArray) (v : α) (r : M α × Bool × Int) : Prop where
  inv : Inv r.1
  is : r.2 = ((look m key).isSome, 0)
  look : ∀ k, look r.1 k = if k = key then some v else look m k
  n : r.1.n = m.n + if (Proofs.YtiopkkjcgdcgmaaDoor.look m key).isSome then 0 else 1
  len : r.1.ws.length = if (Proofs.YtiopkkjcgdcgmaaDoor.look m key).isSome then m.ws.length else if 7 * (m.ws.length : Int) ≤ m.n + m.t then newG m else m.ws.length
  t : m.t = 0 → r.1.t = 0
theorem put_spec {m : M α} (I : Inv m) (key : ByteArray) (v : α) (hk : key.size ≤ maxLen) (hn : m.n < 2000) : PutAs m key v (put m key v) := by
  cases hl : look m key with
  | some v0 =>
    obtain ⟨q, h1, h2, h3, h4⟩ := fnd_is I (key := key) (by rw [hl]; rfl)
    have hp : put m key v = (stor m q v, true, 0) := by
      unfold put; rw [h1, if_pos (by omega)]; rfl
    rw [hp]
    have J := stor_inv I v h2
    refine ⟨J, by rw [hl]; rfl, look_of I J fun x => ?_, by rw [hl]; simp [stor], by rw [hl]; simp [stor], fun h => h⟩
    rw [stor_mem I v h2 h3, h4]
    constructor
    · rintro (h | h)
      · exact .inl ⟨v, rfl, h⟩
      · exact .inr h
    · rintro (⟨v', h5, h⟩ | h)
      · cases h5; exact .inl h
      · exact .inr h
  | none =>
    obtain ⟨h1, h2⟩ := fnd_abs I hl
    have hp : put m key v = (lay (roomy m) key v, false, 0) := by
      unfold put; rw [h1, if_neg (by decide), if_neg (by omega)]
    rw [hp]
    by_cases h7 : 7 * (m.ws.length : Int) ≤ m.n + m.t
    · have hr : roomy m = rehash m := by unfold roomy; rw [if_pos h7]
      rw [hr]
      obtain ⟨J, jn, jt, jl, jm⟩ := rehash_spec I (newG_pw I hn h7)
      have ht0 := I.t
      have hpos := I.pw.pos
      have hroom : (rehash m).n + (rehash m).t < 7 * (rehash m).ws.length := by
        rw [jn, jt, jl]
        have := I.room
        unfold newG
        split <;> omega
      have ha : ∀ i, i < 8 * (rehash m).ws.length → (rehash m).ctl i < 128 → ((rehash m).s i).1 ≠ key := by
        intro i hi hf e
        obtain ⟨j, hj, hfj, e2⟩ := (mem_full I.w).1 ((jm _).1 ((mem_full J.w).2 ⟨i, hi, hf, rfl⟩))
        exact h2 j hj hfj (by rw [e2]; exact e)
      have L := lay_spec J v hk hroom ha
      refine ⟨L.inv, by rw [hl]; rfl, look_of I L.inv fun x => ?_, by rw [L.n, jn, hl]; rfl, by rw [L.len, jl, hl, if_neg (by simp), if_pos h7], fun _ => ?_⟩
      · rw [L.mem, jm]
        constructor
        · rintro (h | h)
          · exact .inl ⟨v, rfl, h⟩
          · refine .inr ⟨h, fun e => ?_⟩
            obtain ⟨j, hj, hfj, e2⟩ := (mem_full I.w).1 h
            exact h2 j hj hfj (by rw [e2]; exact e)
        · rintro (⟨v', h5, h⟩ | h)
          · cases h5; exact .inl h
          · exact .inr h.1
      · have := L.t; show (lay (rehash m) key v).t = 0; omega
    · have hr : roomy m = m := by unfold roomy; rw [if_neg h7]
      rw [hr]
      have L := lay_spec I v hk (by omega) h2
      refine ⟨L.inv, by rw [hl]; rfl, look_of I L.inv fun x => ?_, by rw [L.n, hl]; rfl, by rw [L.len, hl, if_neg (by simp), if_neg h7], fun h0 => lay_tomb I v (by omega) h0⟩
      rw [L.mem]
      constructor
      · rintro (h | h)
        · exact .inl ⟨v, rfl, h⟩
        · refine .inr ⟨h, fun e => ?_⟩
          obtain ⟨j, hj, hfj, e2⟩ := (mem_full I.w).1 h
          exact h2 j hj hfj (by rw [e2]; exact e)
      · rintro (⟨v', h5, h⟩ | h)
        · cases h5; exact .inl h
        · exact .inr h.1
theorem put_full {m : M α} (I : Inv m) {key : ByteArray} (v : α) (hl : look m key = none) (hn : 2000 ≤ m.n) : put m key v = (m, false, 7) := by
  obtain ⟨h1, _⟩ := fnd_abs I hl
  unfold put; rw [h1, if_neg (by decide), if_pos hn]
structure DelAs (m : M α) (key : ByteArray) (r : M α × Bool) : Prop where
  inv : Inv r.1
  is : r.2 = (look m key).isSome
  look : ∀ k, look r.1 k = if k = key then none else look m k
  n : r.1.n = m.n - if (Proofs.YtiopkkjcgdcgmaaDoor.look m key).isSome then 1 else 0
  len : r.1.ws.length = m.ws.length
theorem del_spec {m : M α} (I : Inv m) (key : ByteArray) : DelAs m key (del m key) := by
  cases hl : look m key with
  | none =>
    have hp : del m key = (m, false) := by unfold del; rw [if_pos ((look_none_iff I).2 hl)]
    rw [hp]
    refine ⟨I, by rw [hl]; rfl, fun k => ?_, by rw [hl]; simp, rfl⟩
    split
    · rename_i e; rw [e]; exact hl
    · rfl
  | some v0 =>
    obtain ⟨q, h1, h2, h3, h4⟩ := fnd_is I (key := key) (by rw [hl]; rfl)
    have hp : del m key = (drop m q, true) := by
      unfold del; rw [h1, if_neg (by omega)]; rfl
    rw [hp]
    obtain ⟨J, jm⟩ := drop_spec I h2 h3
    refine ⟨J, by rw [hl]; rfl, look_of I J fun x => ?_, by rw [hl]; rfl, by simp [drop]⟩
    rw [jm, h4]
    constructor
    · exact fun h => .inr h
    · rintro (⟨v', h5, _⟩ | h)
      · cases h5
      · exact h
end
end Go.Proofs.YtiopkkjcgdcgmaaDoor
