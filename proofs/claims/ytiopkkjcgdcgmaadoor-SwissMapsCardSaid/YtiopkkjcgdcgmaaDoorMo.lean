/- The map's operations, in plain Lean, over the hash. -/
import Derived.Test.YtiopkkjcgdcgmaaDoorMi
import Derived.Test.YtiopkkjcgdcgmaaDoorSq
namespace Go.Proofs.YtiopkkjcgdcgmaaDoor
open Go.RowKit Go.Rg Go.Nm Go.Gp Go.Mp
section
variable {α : Type} [Inhabited α]
/-- A key's hash. -/
def hsh (m : M α) (key : ByteArray) : Nat := sum m.k0 m.k1 key.data.toList
def fnd (m : M α) (key : ByteArray) : Int := m.findL key (hsh m key % 128) (seq (hsh m key / 128) m.ws.length)
theorem fnd_cases (m : M α) (key : ByteArray) : fnd m key = -1 ∨ ∃ q : Nat, fnd m key = q ∧ q < 8 * m.ws.length := by
  have := m.findL_cases key (hsh m key % 128) m.ws.length (seq (hsh m key / 128) m.ws.length) (fun x hx => seq_lt hx)
  rcases this with h | ⟨q, h1, h2, _⟩
  · exact .inl h
  · exact .inr ⟨q, h1, h2⟩
def get (m : M α) (key : ByteArray) : α × Bool := if fnd m key < 0 then (default, false) else ((m.s (fnd m key).toNat).2, true)
def lay (m : M α) (key : ByteArray) (v : α) : M α := m.layL (hsh m key % 128) key v (seq (hsh m key / 128) m.ws.length)
def newG (m : M α) : Nat := if m.t = 0 ∨ 7 * (m.ws.length : Int) < 2 * m.n then 2 * m.ws.length else m.ws.length
def relay (m : M α) (k : Nat) : M α := (m.full.take k).foldl (fun x s => lay x s.1 s.2) (made m.k0 m.k1 (newG m))
theorem relay_succ (m : M α) (k : Nat) (s : ByteArray × α) (h : m.full[k]? = some s) : relay m (k + 1) = lay (relay m k) s.1 s.2 := by
  unfold relay
  rw [List.take_add_one, h]; simp
theorem relay_len (m : M α) (k : Nat) : (relay m k).ws.length = newG m := by
  unfold relay
  have : ∀ (l : List (ByteArray × α)) (x : M α), (l.foldl (fun x s => lay x s.1 s.2) x).ws.length = x.ws.length := by
    intro l
    induction l with
    | nil => intro x; rfl
    | cons s l ih => intro x; rw [List.foldl_cons, ih]; exact M.layL_len _ _ _ _ _
  rw [this]; simp [made]
def rehash (m : M α) : M α := relay m m.full.length
structure Rok (m : M α) : Prop where
  pg : Pw (newG m)
  sm : ∀ k, k ≤ m.full.length → Small (relay m k)
  key : ∀ s ∈ m.full, s.1.size ≤ maxLen
def stor (m : M α) (q : Nat) (v : α) : M α := { m with sl := m.sl.set q ((m.s q).1, v) }
def roomy (m : M α) : M α := if 7 * (m.ws.length : Int) ≤ m.n + m.t then rehash m else m
def put (m : M α) (key : ByteArray) (v : α) : M α × Bool × Int :=
  if 0 ≤ fnd m key then (stor m (fnd m key).toNat v, true, 0) else if 2000 ≤ m.n then (m, false, 7) else (lay (roomy m) key v, false, 0)
def drop (m : M α) (q : Nat) : M α :=
  let e := matchN (m.w (q / 8)) 128
  { m with t := if e = 0 then m.t + 1 else m.t, ws := m.ws.set (q / 8) (setN (m.w (q / 8)) (q % 8) (if e = 0 then 254 else 128)), sl := m.sl.set q (noKey, default), n := m.n - 1 }
def del (m : M α) (key : ByteArray) : M α × Bool := if fnd m key < 0 then (m, false) else (drop m (fnd m key).toNat, true)
def keys (m : M α) : List ByteArray := m.full.map (·.1)
end
end Go.Proofs.YtiopkkjcgdcgmaaDoor
