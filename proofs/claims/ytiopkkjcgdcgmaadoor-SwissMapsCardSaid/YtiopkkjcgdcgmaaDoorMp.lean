/- The map, in plain Lean: what its operations compute. -/
import Derived.Test.YtiopkkjcgdcgmaaDoorGp
namespace Go.Mp
open Go.Nm Go.Gp

/-- A map: the two keys of its hash, its words, its slots (eight of each word), how many keys, how many deleted. -/
structure M (α : Type) where
  k0 : Nat
  k1 : Nat
  ws : List Nat
  sl : List (ByteArray × α)
  n : Int
  t : Int

section
variable {α : Type} [Inhabited α]
def noKey : ByteArray := ByteArray.empty
def M.w (m : M α) (g : Nat) : Nat := m.ws.getD g 0
def M.s (m : M α) (i : Nat) : ByteArray × α := m.sl.getD i (noKey, default)
def M.ctl (m : M α) (i : Nat) : Nat := byteAt (m.w (i / 8)) (i % 8)

def M.hitG (m : M α) (key : ByteArray) (what g : Nat) : Option Nat :=
  (List.range 8).find? fun i => byteAt (m.w g) i == what && decide ((m.s (8 * g + i)).1 = key)
def M.findL (m : M α) (key : ByteArray) (what : Nat) : List Nat → Int
  | [] => -1
  | g :: l => match m.hitG key what g with
    | some i => ((8 * g + i : Nat) : Int)
    | none => if matchN (m.w g) 128 = 0 then m.findL key what l else -1

theorem M.findL_hit (m : M α) {key : ByteArray} {t g i : Nat} (h : m.hitG key t g = some i) (r : List Nat) : m.findL key t (g :: r) = ((8 * g + i : Nat) : Int) := by simp only [M.findL, h]
theorem M.findL_stop (m : M α) {key : ByteArray} {t g : Nat} (h : m.hitG key t g = none) (h2 : matchN (m.w g) 128 ≠ 0) (r : List Nat) : m.findL key t (g :: r) = -1 := by simp only [M.findL, h, if_neg h2]
theorem M.findL_go (m : M α) {key : ByteArray} {t g : Nat} (h : m.hitG key t g = none) (h2 : matchN (m.w g) 128 = 0) (r : List Nat) : m.findL key t (g :: r) = m.findL key t r := by simp only [M.findL, h, if_pos h2]
theorem M.hit_bits (m : M α) (key : ByteArray) {t g : Nat} (hw : m.w g < U) (ht : t < 256) : m.hitG key t g = (bitsOf (matchN (m.w g) t)).find? fun i => decide ((m.s (8 * g + i)).1 = key) := by
  rw [match_mask hw ht, Go.Gp.bits_mask, List.find?_filter]
  unfold M.hitG
  congr 1; funext i
  rw [Bool.decide_and, Bool.decide_eq_true, Bool.decide_eq_true]

theorem M.findL_cases (m : M α) (key : ByteArray) (t G : Nat) : ∀ l : List Nat, (∀ g ∈ l, g < G) → m.findL key t l = -1 ∨ ∃ q : Nat, m.findL key t l = q ∧ q < 8 * G ∧ (m.s q).1 = key ∧ m.ctl q = t
  | [], _ => .inl rfl
  | g :: l, h => by
    cases hh : m.hitG key t g with
    | some i =>
      right
      refine ⟨8 * g + i, m.findL_hit hh l, ?_⟩
      unfold M.hitG at hh
      have h1 := List.mem_range.1 (List.mem_of_find?_eq_some hh)
      have h2 := List.find?_some hh
      simp only [Bool.and_eq_true, beq_iff_eq, decide_eq_true_eq] at h2
      have h3 := h g List.mem_cons_self
      refine ⟨by omega, h2.2, ?_⟩
      unfold M.ctl
      rw [show (8 * g + i) / 8 = g by omega, show (8 * g + i) % 8 = i by omega]
      exact h2.1
    | none =>
      by_cases hm : matchN (m.w g) 128 = 0
      · rw [m.findL_go hh hm]
        exact M.findL_cases m key t G l fun x hx => h x (List.mem_cons_of_mem _ hx)
      · exact .inl (m.findL_stop hh hm l)

theorem find_range (p : Nat → Bool) : ∀ (n j : Nat), j < n → (∀ i, i < j → p i = false) → p j = true → (List.range n).find? p = some j := by
  intro n j hj h hp
  rw [List.find?_eq_some_iff_append]
  refine ⟨hp, List.range' 0 j, List.range' (j + 1) (n - (j + 1)), ?_, fun a ha => ?_⟩
  · rw [List.range_eq_range', ← List.range'_succ, show n - (j + 1) + 1 = n - j by omega]
    have := List.range'_append_1 (s := 0) (m := j) (n := n - j)
    rw [Nat.zero_add] at this
    rw [this]; congr 1; omega
  · have := List.mem_range'_1.1 ha
    simp [h a (by omega)]
theorem find_none (p : Nat → Bool) (n : Nat) (h : ∀ i, i < n → p i = false) : (List.range n).find? p = none := by
  rw [List.find?_eq_none]
  intro a ha
  simp [h a (List.mem_range.1 ha)]
def fr (x : Nat) : Nat := matchN x 128 ||| matchN x 254
def M.putAt (m : M α) (what : Nat) (key : ByteArray) (v : α) (g : Nat) : M α :=
  let i := tz8 (fr (m.w g))
  { m with t := if byteAt (m.w g) i = 254 then m.t - 1 else m.t, ws := m.ws.set g (setN (m.w g) i what), sl := m.sl.set (8 * g + i) (key, v), n := m.n + 1 }
def M.layL (m : M α) (what : Nat) (key : ByteArray) (v : α) : List Nat → M α
  | [] => m
  | g :: l => if fr (m.w g) = 0 then m.layL what key v l else m.putAt what key v g

omit [Inhabited α] in
theorem M.layL_skip (m : M α) {t g : Nat} {key : ByteArray} {v : α} (h : fr (m.w g) = 0) (r : List Nat) : m.layL t key v (g :: r) = m.layL t key v r := by simp only [M.layL, if_pos h]
omit [Inhabited α] in
theorem M.layL_at (m : M α) {t g : Nat} {key : ByteArray} {v : α} (h : fr (m.w g) ≠ 0) (r : List Nat) : m.layL t key v (g :: r) = m.putAt t key v g := by simp only [M.layL, if_neg h]

omit [Inhabited α] in
theorem M.layL_len (m : M α) (t : Nat) (key : ByteArray) (v : α) : ∀ l, (m.layL t key v l).ws.length = m.ws.length
  | [] => rfl
  | g :: l => by
    by_cases h : fr (m.w g) = 0
    · rw [m.layL_skip h]; exact M.layL_len m t key v l
    · rw [m.layL_at h]; simp [M.putAt]

def M.fullG (m : M α) (g : Nat) : List (ByteArray × α) := (bitsOf (fullN (m.w g))).map fun i => m.s (8 * g + i)
def M.fullTo (m : M α) (k : Nat) : List (ByteArray × α) := (List.range k).flatMap m.fullG
def M.full (m : M α) : List (ByteArray × α) := m.fullTo m.ws.length

theorem M.fullTo_succ (m : M α) (k : Nat) : m.fullTo (k + 1) = m.fullTo k ++ m.fullG k := by simp [M.fullTo, List.range_succ]
theorem M.fullG_len (m : M α) (g : Nat) : (m.fullG g).length ≤ 8 := by
  simp only [M.fullG, List.length_map, bitsOf]
  exact Nat.le_trans (List.length_filter_le _ _) (by simp)
theorem M.fullTo_len (m : M α) : ∀ k, (m.fullTo k).length ≤ 8 * k
  | 0 => by simp [M.fullTo]
  | k + 1 => by have := M.fullTo_len m k; have := m.fullG_len k; rw [M.fullTo_succ, List.length_append]; omega

def noWord : Nat := 9259542123273814144
def made (k0 k1 g : Nat) : M α := { k0, k1, ws := List.replicate g noWord, sl := List.replicate (8 * g) (noKey, default), n := 0, t := 0 }
end

/-- A slot is kept, as the program keeps it: the map's list of slots, as cells. -/
def slotCells {α : Type} (enc : α → Value) (sl : List (ByteArray × α)) : List Value := sl.flatMap fun s => [.string s.1, enc s.2]
theorem slotCells_length {α : Type} (enc : α → Value) : ∀ sl : List (ByteArray × α), (slotCells enc sl).length = 2 * sl.length
  | [] => rfl
  | s :: l => by have := slotCells_length enc l; simp [slotCells] at this ⊢; omega
theorem slotCells_at {α : Type} (enc : α → Value) : ∀ (sl : List (ByteArray × α)) (i : Nat) (s : ByteArray × α), sl[i]? = some s → (slotCells enc sl)[i * 2]? = some (.string s.1) ∧ (slotCells enc sl)[i * 2 + 1]? = some (enc s.2)
  | [], i, s, h => by simp at h
  | x :: l, 0, s, h => by simp at h; subst h; exact ⟨rfl, rfl⟩
  | x :: l, i + 1, s, h => by
    have := slotCells_at enc l i s (by simpa using h)
    rw [show (i + 1) * 2 = i * 2 + 1 + 1 by omega]
    exact this
theorem slotCells_set {α : Type} (enc : α → Value) : ∀ (sl : List (ByteArray × α)) (i : Nat) (s : ByteArray × α), slotCells enc (sl.set i s) = ((slotCells enc sl).set (i * 2) (.string s.1)).set (i * 2 + 1) (enc s.2)
  | [], i, s => by simp [slotCells]
  | x :: l, 0, s => rfl
  | x :: l, i + 1, s => by
    have := slotCells_set enc l i s
    rw [show (i + 1) * 2 = i * 2 + 1 + 1 by omega]
    show [_, _] ++ slotCells enc (l.set i s) = _
    rw [this]; rfl
theorem set_same {α : Type} {l : List α} {i : Nat} {x : α} (h : l[i]? = some x) : l.set i x = l := by
  apply List.ext_getElem?; intro k
  rw [List.getElem?_set]
  split
  · subst_vars
    split
    · exact h.symm
    · rename_i hn
      rw [List.getElem?_eq_none (by omega)]
  · rfl
theorem slotCells_set1 {α : Type} (enc : α → Value) (sl : List (ByteArray × α)) (i : Nat) (s : ByteArray × α) (v : α) (h : sl[i]? = some s) : slotCells enc (sl.set i (s.1, v)) = (slotCells enc sl).set (i * 2 + 1) (enc v) := by
  rw [slotCells_set]
  rw [set_same (slotCells_at enc sl i s h).1]
end Go.Mp
