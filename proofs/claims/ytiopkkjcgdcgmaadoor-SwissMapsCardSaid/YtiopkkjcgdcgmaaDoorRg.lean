/- A rule for a region that draws its order: what each operation yields is stable under what the others do. -/
import Derived.WalkKit
import Derived.Orders
import Derived.Still
namespace Go.Rg

/-- Who must have come up ahead of each operation, by the edges that always bind. -/
def ancStep (acc : List (List Nat)) (o : Oper) : List (List Nat) :=
  acc ++ [o.after.toList.flatMap fun e => if Region.binds .any e then e.on :: acc.getD e.on [] else []]
def ancL (ops : List Oper) : List (List Nat) := ops.foldl ancStep []
def dstOf (ops : List Oper) (j : Nat) : Option Tmp := (ops[j]?).bind (·.dst)
def distinct : List Nat → Bool
  | [] => true
  | x :: l => !l.contains x && distinct l
/-- The check of a region: m operations ahead of the tail; D: whose values each of them looks at. -/
def chk (ops : List Oper) (m : Nat) (D : List (List Nat)) : Bool :=
  let an := ancL ops
  Region.noSelect ops.toArray && distinct (ops.filterMap (·.dst)) && decide (m ≤ ops.length) &&
  ((List.range m).all fun i => (D.getD i []).all (fun j => (an.getD i []).contains j && decide (j < m) && j != i) &&
    ((((ops[i]?).map fun o => o.looksAt ops.toArray).getD []).all fun t =>
      (List.range ops.length).all fun j => j == i || dstOf ops j != some t || (D.getD i []).contains j || (an.getD j []).contains i)) &&
  ((List.range (ops.length - m)).all fun k => (List.range (m + k)).all fun j => (an.getD (m + k) []).contains j) &&
  (List.range ops.length).all fun i => (((ops[i]?).map fun o => o.after.toList).getD []).all fun e => !Region.binds .any e || decide (e.on < i)

def frame (ops : List Oper) (a : Act) (vs : Nat → Value) (l : List Nat) : Act := l.foldl (fun A j => A.put (dstOf ops j) (vs j)) a

/-- The post of one operation: it has yielded v, and all is stable. -/
def post1 (R : World → World → Prop) (W : World) (G : Value → World → Prop) (A : Act) (d : Option Tmp) : Exit → Act → World → Prop
  | .normal, A', W' => ∃ v, A' = A.put d v ∧ R W W' ∧ G v W'
  | _, _, _ => False

/-! ### ancestors -/
theorem ancStep_length (acc : List (List Nat)) (o : Oper) : (ancStep acc o).length = acc.length + 1 := by simp [ancStep]
theorem anc_length (ops : List Oper) : ∀ acc, (ops.foldl ancStep acc).length = acc.length + ops.length := by
  induction ops with
  | nil => intro acc; simp
  | cons o l ih => intro acc; simp only [List.foldl_cons, ih, ancStep_length, List.length_cons]; omega
theorem ancL_prefix (ops : List Oper) : ∀ acc i, i < acc.length → (ops.foldl ancStep acc)[i]? = acc[i]? := by
  induction ops with
  | nil => intro acc i _; rfl
  | cons o l ih =>
    intro acc i hi
    simp only [List.foldl_cons]
    rw [ih _ _ (by rw [ancStep_length]; omega)]
    simp [ancStep, List.getElem?_append_left hi]
/-- A set that is closed under the edges holds each ancestor. -/
theorem anc_closed (S : Nat → Prop) (all : List Oper) (hS : ∀ i o, all[i]? = some o → S i → ∀ e ∈ o.after, Region.binds .any e = true → S e.on) :
    ∀ (rest done : List Oper) (acc : List (List Nat)), all = done ++ rest → acc.length = done.length →
      (∀ i, S i → ∀ j ∈ acc.getD i [], S j) → ∀ i, S i → ∀ j ∈ (rest.foldl ancStep acc).getD i [], S j := by
  intro rest
  induction rest with
  | nil => intro done acc _ _ h; exact h
  | cons o l ih =>
    intro done acc hall hlen h
    simp only [List.foldl_cons]
    refine ih (done ++ [o]) (ancStep acc o) (by rw [hall]; simp) (by rw [ancStep_length, hlen]; simp) ?_
    intro i hi j hj
    by_cases hlt : i < acc.length
    · refine h i hi j ?_
      simpa [ancStep, List.getD_eq_getElem?_getD, List.getElem?_append_left hlt] using hj
    · by_cases heq : i = acc.length
      · subst heq
        have : j ∈ (o.after.toList.flatMap fun e => if Region.binds .any e then e.on :: acc.getD e.on [] else []) := by
          simpa [ancStep, List.getD_eq_getElem?_getD] using hj
        rw [List.mem_flatMap] at this
        obtain ⟨e, he, hj'⟩ := this
        have ho : all[acc.length]? = some o := by rw [hall, hlen]; simp
        cases hb : Region.binds .any e with
        | false => rw [hb] at hj'; simp at hj'
        | true =>
          rw [hb] at hj'
          have hon : S e.on := hS _ o ho hi e (by simpa using he) hb
          simp only [if_true, List.mem_cons] at hj'
          rcases hj' with rfl | hj'
          · exact hon
          · exact h _ hon j hj'
      · have : (ancStep acc o).getD i [] = [] := by
          rw [List.getD_eq_getElem?_getD, List.getElem?_eq_none (by rw [ancStep_length]; omega)]; rfl
        rw [this] at hj; cases hj
theorem ancL_closed {S : Nat → Prop} {ops : List Oper} (hS : ∀ i o, ops[i]? = some o → S i → ∀ e ∈ o.after, Region.binds .any e = true → S e.on) {i j : Nat}
    (hi : S i) (hj : j ∈ (ancL ops).getD i []) : S j :=
  anc_closed S ops hS ops [] [] rfl rfl (fun _ _ _ h => by simp at h) i hi j hj
/-- The edges of an operation that may come up now are listed: so are its ancestors. -/
theorem ancL_ready {S : Nat → Prop} {ops : List Oper} (hS : ∀ i o, ops[i]? = some o → S i → ∀ e ∈ o.after, Region.binds .any e = true → S e.on) {i j : Nat} {o : Oper}
    (ho : ops[i]? = some o) (hr : ∀ e ∈ o.after, Region.binds .any e = true → S e.on) (hj : j ∈ (ancL ops).getD i []) (hne : j ≠ i) : S j := by
  have := ancL_closed (S := fun k => S k ∨ k = i) (ops := ops) (fun k o' hk hs e he hb => by
    rcases hs with hs | rfl
    · exact .inl (hS k o' hk hs e he hb)
    · rw [ho] at hk; cases hk; exact .inl (hr e he hb)) (.inr rfl) hj
  exact this.resolve_right hne

/-! ### frames -/
theorem put_size (a : Act) (d : Option Tmp) (v : Value) : (a.put d v).tmps.size = a.tmps.size := by cases d <;> simp [Act.put]
theorem put_defers (a : Act) (d : Option Tmp) (v : Value) : (a.put d v).defers = a.defers := by cases d <;> simp [Act.put]
theorem put_get (a : Act) (d : Option Tmp) (v : Value) (t : Nat) : (a.put d v).tmps[t]? = if d = some t ∧ t < a.tmps.size then some v else a.tmps[t]? := by
  cases d with
  | none => simp [Act.put]
  | some d =>
    by_cases h : d = t
    · subst h
      by_cases hs : d < a.tmps.size
      · simp [Act.put, hs]
      · simp [Act.put, hs]
    · simp [Act.put, Array.getElem?_setIfInBounds_ne h, h]
theorem frame_size (ops : List Oper) (vs : Nat → Value) : ∀ (l : List Nat) (a : Act), (frame ops a vs l).tmps.size = a.tmps.size := by
  intro l
  induction l with
  | nil => intro a; rfl
  | cons j l ih => intro a; show (frame ops (a.put _ _) vs l).tmps.size = _; rw [ih, put_size]
theorem frame_defers (ops : List Oper) (vs : Nat → Value) : ∀ (l : List Nat) (a : Act), (frame ops a vs l).defers = a.defers := by
  intro l
  induction l with
  | nil => intro a; rfl
  | cons j l ih => intro a; show (frame ops (a.put _ _) vs l).defers = _; rw [ih, put_defers]
theorem frame_other (ops : List Oper) (vs : Nat → Value) (t : Nat) : ∀ (l : List Nat) (a : Act), (∀ j ∈ l, dstOf ops j ≠ some t) → (frame ops a vs l).tmps[t]? = a.tmps[t]? := by
  intro l
  induction l with
  | nil => intro a _; rfl
  | cons j l ih =>
    intro a h
    show (frame ops (a.put _ _) vs l).tmps[t]? = _
    rw [ih _ (fun k hk => h k (List.mem_cons_of_mem _ hk)), put_get, if_neg (fun hh => h j List.mem_cons_self hh.1)]
theorem frame_at (ops : List Oper) (vs : Nat → Value) (t : Nat) (i : Nat) (hi : dstOf ops i = some t) (hu : ∀ j, dstOf ops j = some t → j = i) :
    ∀ (l : List Nat) (a : Act), i ∈ l → t < a.tmps.size → (frame ops a vs l).tmps[t]? = some (vs i) := by
  intro l
  induction l with
  | nil => intro a h; cases h
  | cons j l ih =>
    intro a h ht
    show (frame ops (a.put _ _) vs l).tmps[t]? = _
    by_cases hl : i ∈ l
    · exact ih _ hl (by rw [put_size]; exact ht)
    · have hji : j = i := ((List.mem_cons.1 h).resolve_right hl).symm
      subst hji
      rw [frame_other ops vs t l _ (fun k hk hd => hl ((hu k hd) ▸ hk)), put_get, if_pos ⟨hi, ht⟩]

theorem distinct_spec : ∀ (l : List Oper), distinct (l.filterMap (·.dst)) = true → ∀ i j t, dstOf l i = some t → dstOf l j = some t → i = j := by
  intro l
  induction l with
  | nil => intro _ i j t h; simp [dstOf] at h
  | cons o l ih =>
    intro h i j t hi hj
    have key : ∀ k, dstOf l k = some t → t ∈ l.filterMap (·.dst) := fun k hk => by
      simp only [dstOf] at hk
      cases hk' : l[k]? with
      | none => rw [hk'] at hk; cases hk
      | some o' => rw [hk'] at hk; exact List.mem_filterMap.2 ⟨o', List.mem_of_getElem? hk', hk⟩
    cases hd : o.dst with
    | none =>
      rw [List.filterMap_cons_none hd] at h
      cases i with
      | zero => simp [dstOf, hd] at hi
      | succ i =>
        cases j with
        | zero => simp [dstOf, hd] at hj
        | succ j => rw [ih h i j t (by simpa [dstOf] using hi) (by simpa [dstOf] using hj)]
    | some d =>
      rw [List.filterMap_cons_some hd] at h
      simp only [distinct, Bool.and_eq_true, Bool.not_eq_true'] at h
      cases i with
      | zero =>
        cases j with
        | zero => rfl
        | succ j =>
          have e : d = t := by simpa [dstOf, hd] using hi
          have := key j (by simpa [dstOf] using hj)
          rw [← e] at this
          have h1 := h.1
          rw [← Bool.not_eq_true, List.contains_iff_mem] at h1
          exact absurd this h1
      | succ i =>
        cases j with
        | zero =>
          have e : d = t := by simpa [dstOf, hd] using hj
          have := key i (by simpa [dstOf] using hi)
          rw [← e] at this
          have h1 := h.1
          rw [← Bool.not_eq_true, List.contains_iff_mem] at h1
          exact absurd this h1
        | succ j => rw [ih h.2 i j t (by simpa [dstOf] using hi) (by simpa [dstOf] using hj)]

/-! ### one operation -/
theorem put_same {A F : Act} {d : Option Tmp} {v v' : Value} (h : F.put d v = F.put d v') (hs : A.tmps.size = F.tmps.size) : A.put d v = A.put d v' := by
  cases d with
  | none => rfl
  | some d =>
    by_cases hd : d < F.tmps.size
    · have h1 : (F.put (some d) v).tmps[d]? = some v := by rw [put_get, if_pos ⟨rfl, hd⟩]
      have h2 : (F.put (some d) v').tmps[d]? = some v' := by rw [put_get, if_pos ⟨rfl, hd⟩]
      rw [h, h2] at h1
      cases h1; rfl
    · have e : ∀ u, A.put (some d) u = A := fun u => by
        have : ¬ d < A.tmps.size := by rw [hs]; exact hd
        simp [Act.put, Array.setIfInBounds, this]
      rw [e, e]

section
variable {P : Program} {R : World → World → Prop}

theorem wp_of_post {o : Oper} {F A : Act} {W : World} {G : Value → World → Prop} {K : Act → World → Prop} {Q : Exit → Act → World → Prop}
    (hop : execOp A.eval o = execOp F.eval o) (hs : A.tmps.size = F.tmps.size)
    (h : o.wp P F W (fun A' W' => ∃ v, A' = F.put o.dst v ∧ R W W' ∧ G v W') (post1 R W G F o.dst))
    (hK : ∀ v W', R W W' → G v W' → K (A.put o.dst v) W') : o.wp P A W K Q := by
  unfold Oper.wp at *
  rw [hop]
  have step : ∀ v W', (∃ v', F.put o.dst v = F.put o.dst v' ∧ R W W' ∧ G v' W') → K (A.put o.dst v) W' := fun v W' ⟨v', hv, hr, hg⟩ => by
    rw [put_same hv hs]; exact hK v' W' hr hg
  generalize (execOp F.eval o).run P W = r at *
  cases r with
  | ok n w' =>
    cases n <;> simp only [Oper.upon] at h ⊢ <;> try exact h
    case value v => exact step v w' h
    case skip => exact step undef w' h
    case enter f args =>
      refine h.mono fun e w'' he => ?_
      cases e with
      | returned v => exact step v w'' he
      | panicked c => exact he.elim
      | outgrown => obtain ⟨_, _, hf⟩ := he; exact hf.elim
    case row row args => exact h.mono fun v w'' hv => step v w'' hv
    case defer d =>
      obtain ⟨v, hv, _⟩ := h
      have hh := congrArg Act.defers hv
      rw [put_defers, put_defers] at hh
      have := congrArg List.length hh
      simp at this
  | halt x w' => cases x <;> simp only [Oper.upon] at h ⊢ <;> exact h.elim

theorem wpOp_of_post {ops : List Oper} {o : Oper} {i : Nat} {F A : Act} {W : World} {G : Value → World → Prop} {K : Act → World → Prop} {Q : Exit → Act → World → Prop}
    (hi : ops[i]? = some o) (hop : execOp A.eval o = execOp F.eval o) (hw : Region.wanted o (yielded ops.toArray A.tmps) = Region.wanted o (yielded ops.toArray F.tmps))
    (hs : A.tmps.size = F.tmps.size)
    (h : wpList P ops.toArray (post1 R W G F o.dst) [o] F W)
    (hK : ∀ v W', R W W' → G v W' → K (A.put o.dst v) W') : wpOp P ops.toArray Q i K A W := by
  unfold wpOp
  have hi' : ops.toArray[i]? = some o := by simpa using hi
  simp only [hi']
  rw [hw]
  unfold wpList at h
  split
  · rename_i hwt
    rw [if_pos hwt] at h
    rcases h with h | ⟨_, _, _, hf⟩
    · exact .inl (wp_of_post hop hs h hK)
    · exact hf.elim
  · rename_i hwt
    rw [if_neg hwt] at h
    obtain ⟨v, hv, hr, hg⟩ := h
    rw [put_same hv hs]; exact hK v W hr hg

/-- What holds at each point of the head, whatever has come up. -/
structure Inv (ops : List Oper) (m : Nat) (R : World → World → Prop) (Γ : Nat → Value → World → Prop) (a : Act) (w0 : World) (listed : Array Bool) (A : Act) (W : World) : Prop where
  size : listed.size = ops.length
  closed : ∀ i o, ops[i]? = some o → listed.getD i false = true → ∀ e ∈ o.after, Region.binds .any e = true → listed.getD e.on false = true
  tsize : A.tmps.size = a.tmps.size
  defers : A.defers = a.defers
  rel : R w0 W
  vals : ∃ vs : Nat → Value, (∀ t, (∀ j, listed.getD j false = true → dstOf ops j ≠ some t) → A.tmps[t]? = a.tmps[t]?) ∧
    (∀ j t, listed.getD j false = true → dstOf ops j = some t → t < a.tmps.size → A.tmps[t]? = some (vs j)) ∧ ∀ j, listed.getD j false = true → j < m → Γ j (vs j) W

theorem getD_set {l : Array Bool} {i j : Nat} (hi : i < l.size) : (l.setIfInBounds i true).getD j false = true ↔ j = i ∨ l.getD j false = true := by
  by_cases h : i = j
  · subst h
    simp [hi]
  · have : (l.setIfInBounds i true).getD j false = l.getD j false := by
      simp [Array.getElem?_setIfInBounds_ne h]
    rw [this]
    constructor
    · exact .inr
    · rintro (e | e)
      · exact absurd e.symm h
      · exact e

variable {Γ : Nat → Value → World → Prop} {a : Act} {w0 : World} {Q : Exit → Act → World → Prop}

theorem chk_spec {ops : List Oper} {m : Nat} {D : List (List Nat)} (h : chk ops m D = true) :
    (∀ (j : Nat) (o : Oper) cs b, ops[j]? = some o → o.op ≠ .select cs b) ∧ (∀ i j t, dstOf ops i = some t → dstOf ops j = some t → i = j) ∧ m ≤ ops.length ∧
    (∀ i, i < m → ∀ j ∈ D.getD i [], j ∈ (ancL ops).getD i [] ∧ j < m ∧ j ≠ i) ∧
    (∀ i o, i < m → ops[i]? = some o → ∀ t ∈ o.looksAt ops.toArray, ∀ j, dstOf ops j = some t → j = i ∨ j ∈ D.getD i [] ∨ i ∈ (ancL ops).getD j []) ∧
    (∀ k, m ≤ k → k < ops.length → ∀ j, j < k → j ∈ (ancL ops).getD k []) ∧
    (∀ i o, ops[i]? = some o → ∀ e ∈ o.after, Region.binds .any e = true → e.on < i) := by
  simp only [chk, Bool.and_eq_true, decide_eq_true_eq] at h
  obtain ⟨⟨⟨⟨⟨h1, h2⟩, h3⟩, h4⟩, h5⟩, h6⟩ := h
  refine ⟨fun j o cs b ho => Region.noSelect_spec h1 j o cs b (by simpa using ho), distinct_spec ops h2, h3, ?_, ?_, ?_, ?_⟩
  · intro i hi j hj
    have := List.all_eq_true.1 h4 i (List.mem_range.2 hi)
    simp only [Bool.and_eq_true] at this
    have := List.all_eq_true.1 this.1 j hj
    simp at this
    exact ⟨this.1.1, this.1.2, this.2⟩
  · intro i o hi ho t ht j hj
    have := List.all_eq_true.1 h4 i (List.mem_range.2 hi)
    simp only [Bool.and_eq_true, ho, Option.map_some, Option.getD_some] at this
    have := List.all_eq_true.1 this.2 t ht
    have hjl : j < ops.length := by
      simp only [dstOf] at hj
      cases hk : ops[j]? with
      | none => rw [hk] at hj; cases hj
      | some _ => exact (List.getElem?_eq_some_iff.1 hk).1
    have := List.all_eq_true.1 this j (List.mem_range.2 hjl)
    simp [hj] at this
    rcases this with (h | h) | h
    · exact .inl h
    · exact .inr (.inl h)
    · exact .inr (.inr h)
  · intro k hk hkl j hj
    have := List.all_eq_true.1 h5 (k - m) (List.mem_range.2 (by omega))
    rw [show m + (k - m) = k by omega] at this
    have := List.all_eq_true.1 this j (List.mem_range.2 hj)
    simpa using this
  · intro i o ho e he hb
    have := List.all_eq_true.1 h6 i (List.mem_range.2 (List.getElem?_eq_some_iff.1 ho).1)
    simp only [ho, Option.map_some, Option.getD_some] at this
    have := List.all_eq_true.1 this e (by simpa using he)
    simpa [hb] using this

theorem eval_congr {A F : Act} {x : Operand} (h : ∀ t, x = .tmp t → A.tmps[t]? = F.tmps[t]?) : A.eval x = F.eval x := by
  cases x with
  | tmp t => simp [Act.eval, h t rfl]
  | _ => rfl

theorem yielded_congr {ops : Array Oper} {A F : Act} {o : Oper} (h : ∀ t ∈ o.looksAt ops, A.tmps[t]? = F.tmps[t]?) :
    Region.wanted o (yielded ops A.tmps) = Region.wanted o (yielded ops F.tmps) := by
  unfold Region.wanted
  cases hg : o.guard with
  | none => rfl
  | some gw =>
    obtain ⟨g, want⟩ := gw
    have : yielded ops A.tmps g = yielded ops F.tmps g := by
      unfold yielded
      cases ht : (ops[g]?).bind (·.dst) with
      | none => rfl
      | some t =>
        have := h t (by simp [Oper.looksAt, hg, ht])
        simp [this]
    simp only [this]

/-- The head: whatever may come up keeps the invariant. -/
theorem inv_step {ops : List Oper} {m : Nat} {D : List (List Nat)} (hc : chk ops m D = true)
    (hRt : ∀ x y z, R x y → R y z → R x z) (hΓ : ∀ i v W W', Γ i v W → R W W' → Γ i v W')
    (hops : ∀ i o, i < m → ops[i]? = some o → ∀ (vs : Nat → Value) (W : World), R w0 W → (∀ j ∈ D.getD i [], Γ j (vs j) W) →
      wpList P ops.toArray (post1 R W (Γ i) (frame ops a vs (D.getD i [])) o.dst) [o] (frame ops a vs (D.getD i [])) W)
    {listed : Array Bool} {A : Act} {W : World} (inv : Inv ops m R Γ a w0 listed A W) {i : Nat} (hi : i ∈ Region.ready .any ops.toArray listed) (him : i < m)
    {K : Act → World → Prop} (hK : ∀ A' W', Inv ops m R Γ a w0 (listed.setIfInBounds i true) A' W' → K A' W') : wpOp P ops.toArray Q i K A W := by
  obtain ⟨hsel, huniq, _, hD, hlook, _, _⟩ := chk_spec hc
  obtain ⟨hun, o, ho, hall⟩ := mem_ready.1 hi
  have ho' : ops[i]? = some o := by simpa using ho
  obtain ⟨vs, hv1, hv2, hv3⟩ := inv.vals
  have hilt : i < listed.size := by
    rw [inv.size]; exact (List.getElem?_eq_some_iff.1 ho').1
  have hni : listed.getD i false = false := by
    have : listed.getD i true = listed.getD i false := by simp [hilt]
    rw [← this]; exact hun
  have hanc : ∀ j ∈ D.getD i [], listed.getD j false = true := fun j hj =>
    ancL_ready (S := fun k => listed.getD k false = true) inv.closed ho' hall (hD i him j hj).1 (hD i him j hj).2.2
  have hlk : ∀ t ∈ o.looksAt ops.toArray, A.tmps[t]? = (frame ops a vs (D.getD i [])).tmps[t]? := fun t ht => by
    by_cases hex : ∃ j, j ∈ D.getD i [] ∧ dstOf ops j = some t
    · obtain ⟨j, hj, hd⟩ := hex
      by_cases hs : t < a.tmps.size
      · rw [hv2 j t (hanc j hj) hd hs, frame_at ops vs t j hd (fun k hk => huniq k j t hk hd) _ _ hj hs]
      · have hs' := Nat.le_of_not_lt hs
        rw [Array.getElem?_eq_none (by rw [inv.tsize]; exact hs'), Array.getElem?_eq_none (by rw [frame_size]; exact hs')]
    · rw [frame_other ops vs t _ _ (fun j hj hd => hex ⟨j, hj, hd⟩)]
      refine hv1 t fun j hj hd => ?_
      rcases hlook i o him ho' t ht j hd with rfl | h | h
      · rw [hni] at hj; cases hj
      · exact hex ⟨j, h, hd⟩
      · have := ancL_closed (S := fun k => listed.getD k false = true) inv.closed hj h
        rw [hni] at this; cases this
  have hop : execOp A.eval o = execOp (frame ops a vs (D.getD i [])).eval o :=
    execOp_congr o (fun cs b => hsel i o cs b ho') fun x hx => eval_congr fun t e => hlk t (by
      subst e
      exact List.mem_append_left _ (List.mem_filterMap.2 ⟨.tmp t, by simpa using hx, rfl⟩))
  refine wpOp_of_post ho' hop (yielded_congr hlk) (by rw [inv.tsize, frame_size]) (hops i o him ho' vs W inv.rel fun j hj => hv3 j (hanc j hj) (hD i him j hj).2.1) ?_
  intro v W' hr hg
  refine hK _ _ ⟨by simp [inv.size], ?_, by rw [put_size, inv.tsize], by rw [put_defers, inv.defers], hRt _ _ _ inv.rel hr, fun k => if k = i then v else vs k, ?_, ?_, ?_⟩
  · intro k o' hk hl e he hb
    rw [getD_set hilt] at hl ⊢
    rcases hl with rfl | hl
    · rw [ho'] at hk; cases hk; exact .inr (hall e he hb)
    · exact .inr (inv.closed k o' hk hl e he hb)
  · intro t ht
    have hdi : o.dst ≠ some t := by
      have := ht i ((getD_set hilt).2 (.inl rfl))
      simpa [dstOf, ho'] using this
    rw [put_get, if_neg (fun h => hdi h.1)]
    exact hv1 t fun j hj => ht j ((getD_set hilt).2 (.inr hj))
  · intro j t hj hd hs
    rw [put_get]
    by_cases hji : j = i
    · subst hji
      have : o.dst = some t := by simpa [dstOf, ho'] using hd
      rw [if_pos ⟨this, by rw [inv.tsize]; exact hs⟩]; simp
    · have hne : o.dst ≠ some t := fun h => hji (huniq j i t hd (by simp [dstOf, ho', h]))
      rw [if_neg (fun h => hne h.1)]
      simp only [hji, if_false]
      exact hv2 j t (((getD_set hilt).1 hj).resolve_left hji) hd hs
  · intro j hj hjm
    by_cases hji : j = i
    · subst hji; simpa using hg
    · simp only [hji, if_false]
      exact hΓ j _ _ _ (hv3 j (((getD_set hilt).1 hj).resolve_left hji) hjm) hr

/-- The first that has not come up may come up. -/
theorem first_ready {ops : List Oper} (hedge : ∀ i o, ops[i]? = some o → ∀ e ∈ o.after, Region.binds .any e = true → e.on < i) {listed : Array Bool} (hsz : listed.size = ops.length) {k : Nat} (hk : k < ops.length)
    (hlo : ∀ j, j < k → listed.getD j false = true) (hno : listed.getD k false = false) : k ∈ Region.ready .any ops.toArray listed := by
  rw [mem_ready]
  refine ⟨by simp [hsz, hk] at hno ⊢; exact hno, ops[k], by simp [hk], fun e he hb => hlo _ (hedge k _ (by simp [hk]) e he hb)⟩

/-- The tail: one behind the other. -/
theorem any_tail {ops : List Oper} {m : Nat} (hanc : ∀ k, m ≤ k → k < ops.length → ∀ j, j < k → j ∈ (ancL ops).getD k [])
    (hedge : ∀ i o, ops[i]? = some o → ∀ e ∈ o.after, Region.binds .any e = true → e.on < i) :
    ∀ (l : List Oper) (k : Nat) (listed : Array Bool) (A : Act) (W : World), m ≤ k → k + l.length = ops.length → (∀ j, l[j]? = ops[k + j]?) → listed.size = ops.length →
      (∀ j, listed.getD j false = true ↔ j < k) → (∀ i o, ops[i]? = some o → listed.getD i false = true → ∀ e ∈ o.after, Region.binds .any e = true → listed.getD e.on false = true) →
      wpList P ops.toArray Q l A W → wpAny P .any ops.toArray Q l.length listed A W := by
  have only : ∀ (k : Nat) (listed : Array Bool), m ≤ k → listed.size = ops.length → (∀ j, listed.getD j false = true ↔ j < k) →
      (∀ i o, ops[i]? = some o → listed.getD i false = true → ∀ e ∈ o.after, Region.binds .any e = true → listed.getD e.on false = true) →
      ∀ i ∈ Region.ready .any ops.toArray listed, i = k := fun k listed hk hsz hl hcl i hi => by
    obtain ⟨hun, o, ho, hall⟩ := mem_ready.1 hi
    have ho' : ops[i]? = some o := by simpa using ho
    have hil : i < ops.length := (List.getElem?_eq_some_iff.1 ho').1
    have hni : listed.getD i false = false := by
      have : listed.getD i true = listed.getD i false := by simp [hsz, hil]
      rw [← this]; exact hun
    have h1 : ¬ i < k := fun h => by rw [(hl i).2 h] at hni; cases hni
    rcases Nat.lt_trichotomy i k with h | h | h
    · exact absurd h h1
    · exact h
    · have := ancL_ready (S := fun j => listed.getD j false = true) hcl ho' hall (hanc i (by omega) hil k h) (by omega)
      have := (hl k).1 this; omega
  intro l
  induction l with
  | nil =>
    intro k listed A W hk hkl hl hsz hli hcl h
    refine ⟨?_, h⟩
    rw [List.eq_nil_iff_forall_not_mem]
    intro i hi
    have e := only k listed hk hsz hli hcl i hi
    obtain ⟨_, o, ho, _⟩ := mem_ready.1 hi
    have ho' : ops[i]? = some o := by simpa using ho
    have := (List.getElem?_eq_some_iff.1 ho').1
    simp at hkl
    omega
  | cons o l ih =>
    intro k listed A W hk hkl hl hsz hli hcl h
    have hok : ops[k]? = some o := by simpa using (hl 0).symm
    have hkl' : k < ops.length := (List.getElem?_eq_some_iff.1 hok).1
    have hks : k < listed.size := by rw [hsz]; exact hkl'
    have hno : listed.getD k false = false := by
      rw [← Bool.not_eq_true]; intro hh; have := (hli k).1 hh; omega
    refine ⟨fun hr => ?_, fun i hi => ?_⟩
    · have := first_ready hedge hsz hkl' (fun j hj => (hli j).2 hj) hno
      rw [hr] at this; cases this
    · obtain rfl := only k listed hk hsz hli hcl i hi
      have hw : wpOp P ops.toArray Q i (wpList P ops.toArray Q l) A W := by
        unfold wpOp
        have : ops.toArray[i]? = some o := by simpa using hok
        simp only [this]; exact h
      refine wpOp_mono (fun a' w' h' => ih (i + 1) _ a' w' (by omega) (by simp at hkl; omega) (fun j => by have := hl (j + 1); simpa [Nat.add_assoc, Nat.add_comm 1 j] using this) (by simp [hsz]) (fun j => ?_) ?_ h') hw
      · rw [getD_set hks, hli j]; omega
      · intro j o' hj hjl e he hb
        rw [getD_set hks] at hjl ⊢
        rcases hjl with rfl | hjl
        · exact .inr ((hli _).2 (hedge j o' hj e he hb))
        · exact .inr (hcl j o' hj hjl e he hb)

def cnt (p : Nat → Bool) : Nat → Nat
  | 0 => 0
  | n + 1 => cnt p n + if p n then 1 else 0
theorem cnt_zero {p : Nat → Bool} : ∀ {n : Nat}, cnt p n = 0 → ∀ j, j < n → p j = false
  | 0, _, j, hj => by omega
  | n + 1, h, j, hj => by
    simp only [cnt] at h
    by_cases hp : p n = true
    · rw [if_pos hp] at h; omega
    · by_cases e : j = n
      · subst e; simpa using hp
      · exact cnt_zero (n := n) (by omega) j (by omega)
theorem cnt_pos {p : Nat → Bool} : ∀ {n : Nat}, cnt p n ≠ 0 → ∃ j, j < n ∧ p j = true
  | 0, h => by simp [cnt] at h
  | n + 1, h => by
    by_cases hp : p n = true
    · exact ⟨n, by omega, hp⟩
    · obtain ⟨j, hj, h'⟩ := cnt_pos (p := p) (n := n) (by simp only [cnt, if_neg hp] at h; omega)
      exact ⟨j, by omega, h'⟩
theorem cnt_congr {p q : Nat → Bool} : ∀ {n : Nat}, (∀ j, j < n → p j = q j) → cnt p n = cnt q n
  | 0, _ => rfl
  | n + 1, h => by simp only [cnt]; rw [cnt_congr (n := n) (fun j hj => h j (by omega)), h n (by omega)]
theorem cnt_set {p q : Nat → Bool} {i : Nat} (hp : p i = true) (hq : q i = false) (h : ∀ j, j ≠ i → q j = p j) : ∀ {n : Nat}, i < n → cnt p n = cnt q n + 1
  | 0, hi => by omega
  | n + 1, hi => by
    simp only [cnt]
    by_cases e : i = n
    · subst e
      rw [hp, hq, cnt_congr (p := p) (q := q) (n := i) (fun j hj => (h j (by omega)).symm)]; simp
    · rw [cnt_set hp hq h (n := n) (by omega), h n (by omega)]; omega
theorem cnt_all {p : Nat → Bool} (h : ∀ j, p j = true) : ∀ n, cnt p n = n
  | 0 => rfl
  | n + 1 => by simp [cnt, cnt_all h n, h n]

/-- The whole region: m operations in whatever order, then the tail. -/
theorem any_of_facts {ops : List Oper} {m : Nat} {D : List (List Nat)} (hc : chk ops m D = true)
    (hRt : ∀ x y z, R x y → R y z → R x z) (hΓ : ∀ i v W W', Γ i v W → R W W' → Γ i v W')
    (hops : ∀ i o, i < m → ops[i]? = some o → ∀ (vs : Nat → Value) (W : World), R w0 W → (∀ j ∈ D.getD i [], Γ j (vs j) W) →
      wpList P ops.toArray (post1 R W (Γ i) (frame ops a vs (D.getD i [])) o.dst) [o] (frame ops a vs (D.getD i [])) W)
    (htail : ∀ (vs : Nat → Value) (W : World), R w0 W → (∀ j, j < m → Γ j (vs j) W) → wpList P ops.toArray Q (ops.drop m) (frame ops a vs (List.range m)) W) :
    ∀ (n : Nat) (listed : Array Bool) (A : Act) (W : World), Inv ops m R Γ a w0 listed A W → (∀ j, listed.getD j false = true → j < m) →
      n = cnt (fun j => !listed.getD j false) m → wpAny P .any ops.toArray Q (n + (ops.length - m)) listed A W := by
  obtain ⟨hsel, huniq, hml, hD, hlook, hanc, hedge⟩ := chk_spec hc
  intro n
  induction n with
  | zero =>
    intro listed A W inv hlt hn
    -- all of the head has come up
    have hall : ∀ j, j < m → listed.getD j false = true := fun j hj => by
      have := cnt_zero hn.symm j hj
      simpa using this
    obtain ⟨vs, hv1, hv2, hv3⟩ := inv.vals
    have hA : A = frame ops a vs (List.range m) := by
      have ht : A.tmps = (frame ops a vs (List.range m)).tmps := by
        refine Array.ext_getElem? fun t => ?_
        by_cases hex : ∃ j, j < m ∧ dstOf ops j = some t
        · obtain ⟨j, hj, hd⟩ := hex
          by_cases hs : t < a.tmps.size
          · rw [hv2 j t (hall j hj) hd hs, frame_at ops vs t j hd (fun k hk => huniq k j t hk hd) _ _ (List.mem_range.2 hj) hs]
          · have hs' := Nat.le_of_not_lt hs
            rw [Array.getElem?_eq_none (by rw [inv.tsize]; exact hs'), Array.getElem?_eq_none (by rw [frame_size]; exact hs')]
        · rw [frame_other ops vs t _ _ (fun j hj hd => hex ⟨j, List.mem_range.1 hj, hd⟩)]
          exact hv1 t fun j hj hd => hex ⟨j, hlt j hj, hd⟩
      have hd : A.defers = (frame ops a vs (List.range m)).defers := by rw [frame_defers, inv.defers]
      cases A; simp only at ht hd; subst ht; subst hd; rfl
    rw [hA, Nat.zero_add]
    have hdl : (ops.drop m).length = ops.length - m := by simp
    rw [← hdl]
    refine any_tail hanc hedge (ops.drop m) m listed _ W (Nat.le_refl _) (by rw [hdl]; omega) (fun j => by simp [List.getElem?_drop]) inv.size (fun j => ⟨hlt j, hall j⟩) inv.closed
      (htail vs W inv.rel fun j hj => hv3 j (hall j hj) hj)
  | succ n ih =>
    intro listed A W inv hlt hn
    rw [show n + 1 + (ops.length - m) = (n + (ops.length - m)) + 1 by omega]
    -- some of the head has not come up
    have hex : ∃ j, j < m ∧ listed.getD j false = false := by
      obtain ⟨j, hj, h⟩ := cnt_pos (p := fun j => !listed.getD j false) (n := m) (by omega)
      exact ⟨j, hj, by simpa using h⟩
    have hready : ∀ i ∈ Region.ready .any ops.toArray listed, i < m := fun i hi => by
      refine Nat.lt_of_not_le fun hmi => ?_
      obtain ⟨_, o, ho, hall⟩ := mem_ready.1 hi
      have ho' : ops[i]? = some o := by simpa using ho
      obtain ⟨j, hj, hf⟩ := hex
      have := ancL_ready (S := fun j => listed.getD j false = true) inv.closed ho' hall (hanc i hmi (List.getElem?_eq_some_iff.1 ho').1 j (by omega)) (by omega)
      rw [hf] at this; cases this
    refine ⟨fun hr => ?_, fun i hi => ?_⟩
    · exfalso
      have hmin : ∃ k, k < m ∧ listed.getD k false = false ∧ ∀ j, j < k → listed.getD j false = true := by
        obtain ⟨j, hj, hf⟩ := hex
        induction j using Nat.strongRecOn with
        | _ j ihj =>
          by_cases h : ∃ k, k < j ∧ listed.getD k false = false
          · obtain ⟨k, hk, hkf⟩ := h
            exact ihj k hk (by omega) hkf
          · exact ⟨j, hj, hf, fun k hk => by rw [← Bool.not_eq_false]; exact fun hh => h ⟨k, hk, hh⟩⟩
      obtain ⟨k, hk, hkf, hlo⟩ := hmin
      have := first_ready hedge inv.size (k := k) (by omega) hlo hkf
      rw [hr] at this; cases this
    · have him := hready i hi
      obtain ⟨hun, o, ho, hall⟩ := mem_ready.1 hi
      have ho' : ops[i]? = some o := by simpa using ho
      have hil : i < ops.length := (List.getElem?_eq_some_iff.1 ho').1
      have hni : listed.getD i false = false := by
        have : listed.getD i true = listed.getD i false := by simp [inv.size, hil]
        rw [← this]; exact hun
      refine inv_step hc hRt hΓ hops inv hi him fun A' W' inv' => ih _ A' W' inv' (fun j hj => ?_) ?_
      · rcases (getD_set (by rw [inv.size]; exact hil)).1 hj with rfl | h
        · exact him
        · exact hlt j h
      · have hs : i < listed.size := by rw [inv.size]; exact hil
        have := cnt_set (p := fun j => !listed.getD j false) (q := fun j => !(listed.setIfInBounds i true).getD j false) (i := i) (by simp only [hni]; rfl)
          (by simp only [(getD_set (j := i) hs).2 (.inl rfl)]; rfl) (fun j hj => by simp [Array.getElem?_setIfInBounds_ne (Ne.symm hj)]) (n := m) him
        omega

/-- THE RULE. -/
theorem wp_region_facts {id : Nat} {ops : List Oper} {m : Nat} {D : List (List Nat)} {w : World} (hm : P.follows .mixedOrders = true) (hc : chk ops m D = true)
    (hRr : ∀ x, R x x) (hRt : ∀ x y z, R x y → R y z → R x z) (hΓ : ∀ i v W W', Γ i v W → R W W' → Γ i v W')
    (hops : ∀ i o, i < m → ops[i]? = some o → ∀ (vs : Nat → Value) (W : World), R w.drew W → (∀ j ∈ D.getD i [], Γ j (vs j) W) →
      wpList P ops.toArray (post1 R W (Γ i) (frame ops a vs (D.getD i [])) o.dst) [o] (frame ops a vs (D.getD i [])) W)
    (htail : ∀ (vs : Nat → Value) (W : World), R w.drew W → (∀ j, j < m → Γ j (vs j) W) → wpList P ops.toArray Q (ops.drop m) (frame ops a vs (List.range m)) W) :
    (Code.region id ops.toArray true).wp P Q a w := by
  refine wp_region_any hm ?_
  have hml := (chk_spec hc).2.2.1
  have hf : ∀ j, (Array.replicate ops.length false).getD j false = false := fun j => by simp [Array.getElem?_replicate]; split <;> rfl
  have := any_of_facts (P := P) (Q := Q) hc hRt hΓ hops htail m (Array.replicate ops.length false) a w.drew
    ⟨by simp, fun i o _ h => (by rw [hf] at h; cases h), rfl, rfl, hRr _, fun _ => undef, fun _ _ => rfl, fun j t h => (by rw [hf] at h; cases h), fun j h => (by rw [hf] at h; cases h)⟩
    (fun j h => (by rw [hf] at h; cases h)) (cnt_all (fun j => by simp only [hf]; rfl) m).symm
  rw [show m + (ops.length - m) = ops.length by omega] at this
  simpa using this

/-! ### the rule, spelt out -/
abbrev Dep := Option Tmp × Nat
def frameE (a : Act) (vs : Nat → Value) (l : List Dep) : Act := l.foldl (fun A d => A.put d.1 (vs d.2)) a
def Deps (Γ : Nat → Value → World → Prop) (vs : Nat → Value) (W : World) : List Dep → Prop → Prop
  | [], X => X
  | d :: l, X => Γ d.2 (vs d.2) W → Deps Γ vs W l X
/-- One goal for each operation of the head. -/
def Each (P : Program) (R : World → World → Prop) (Γ : Nat → Value → World → Prop) (a : Act) (w0 : World) (ops : Array Oper) : Nat → List Oper → List (List Dep) → Prop
  | i, o :: l, d :: D => (∀ (vs : Nat → Value) (W : World), R w0 W → Deps Γ vs W d (wpList P ops (post1 R W (Γ i) (frameE a vs d) o.dst) [o] (frameE a vs d) W)) ∧ Each P R Γ a w0 ops (i + 1) l D
  | _, _, _ => True
def depsOk (ops : List Oper) (D : List (List Dep)) : Bool := D.all fun l => l.all fun d => dstOf ops d.2 == d.1
def Facts (Γ : Nat → Value → World → Prop) (vs : Nat → Value) (W : World) (X : Prop) : Nat → Nat → Prop
  | _, 0 => X
  | i, n + 1 => Γ i (vs i) W → Facts Γ vs W X (i + 1) n
def allDeps (ops : List Oper) : Nat → List Dep → Bool
  | i, d :: l => d.2 == i && dstOf ops i == d.1 && allDeps ops (i + 1) l
  | _, [] => true

theorem deps_elim {Γ : Nat → Value → World → Prop} {vs : Nat → Value} {W : World} {X : Prop} : ∀ {l : List Dep}, Deps Γ vs W l X → (∀ d ∈ l, Γ d.2 (vs d.2) W) → X
  | [], h, _ => h
  | d :: l, h, hl => deps_elim (l := l) (h (hl d List.mem_cons_self)) (fun e he => hl e (List.mem_cons_of_mem _ he))
theorem facts_elim {Γ : Nat → Value → World → Prop} {vs : Nat → Value} {W : World} {X : Prop} : ∀ {n i : Nat}, Facts Γ vs W X i n → (∀ j, i ≤ j → j < i + n → Γ j (vs j) W) → X
  | 0, _, h, _ => h
  | n + 1, i, h, hl => facts_elim (n := n) (i := i + 1) (h (hl i (Nat.le_refl _) (by omega))) (fun j h1 h2 => hl j (by omega) (by omega))
theorem frameE_eq {ops : List Oper} {vs : Nat → Value} : ∀ {l : List Dep} {a : Act}, (∀ d ∈ l, dstOf ops d.2 = d.1) → frame ops a vs (l.map (·.2)) = frameE a vs l
  | [], _, _ => rfl
  | d :: l, a, h => by
    show frame ops (a.put (dstOf ops d.2) (vs d.2)) vs (l.map (·.2)) = frameE (a.put d.1 (vs d.2)) vs l
    rw [h d List.mem_cons_self]
    exact frameE_eq (fun e he => h e (List.mem_cons_of_mem _ he))
theorem each_elim {Γ : Nat → Value → World → Prop} {ops : Array Oper} : ∀ {l : List Oper} {D : List (List Dep)} {k : Nat}, Each P R Γ a w0 ops k l D → ∀ i o d, l[i]? = some o → D[i]? = some d →
    ∀ (vs : Nat → Value) (W : World), R w0 W → Deps Γ vs W d (wpList P ops (post1 R W (Γ (k + i)) (frameE a vs d) o.dst) [o] (frameE a vs d) W)
  | [], _, _, _, i, o, d, h, _ => by simp at h
  | _ :: _, [], _, _, i, o, d, _, h => by simp at h
  | o' :: l, d' :: D, k, h, i, o, d, ho, hd => by
    cases i with
    | zero => simp at ho hd; subst ho; subst hd; exact h.1
    | succ i =>
      have := each_elim (l := l) (D := D) h.2 i o d (by simpa using ho) (by simpa using hd)
      rw [show k + 1 + i = k + (i + 1) by omega] at this; exact this
theorem allDeps_spec {ops : List Oper} : ∀ {l : List Dep} {i : Nat}, allDeps ops i l = true → l.map (·.2) = List.range' i l.length ∧ ∀ d ∈ l, dstOf ops d.2 = d.1
  | [], _, _ => ⟨rfl, fun _ h => by cases h⟩
  | d :: l, i, h => by
    simp only [allDeps, Bool.and_eq_true, beq_iff_eq] at h
    obtain ⟨⟨h1, h2⟩, h3⟩ := h
    obtain ⟨e1, e2⟩ := allDeps_spec h3
    refine ⟨by simp [h1, e1, List.range'_succ], fun e he => ?_⟩
    rcases List.mem_cons.1 he with rfl | he
    · rw [h1]; exact h2
    · exact e2 e he

/-- THE RULE, SPELT OUT. T: the head's operations, each with its slot; D: of each, whose values it looks at. -/
theorem region {id : Nat} {ops : List Oper} {w : World} (R : World → World → Prop) (Γ : Nat → Value → World → Prop) (T : List Dep) (D : List (List Dep))
    (hm : P.follows .mixedOrders = true) (hc : (chk ops T.length (D.map fun l => l.map (·.2)) && allDeps ops 0 T && depsOk ops D && decide (D.length = T.length)) = true)
    (hRr : ∀ x, R x x) (hRt : ∀ x y z, R x y → R y z → R x z) (hΓ : ∀ i v W W', Γ i v W → R W W' → Γ i v W')
    (hops : Each P R Γ a w.drew ops.toArray 0 ops D)
    (htail : ∀ (vs : Nat → Value) (W : World), R w.drew W → Facts Γ vs W (wpList P ops.toArray Q (ops.drop T.length) (frameE a vs T) W) 0 T.length) :
    (Code.region id ops.toArray true).wp P Q a w := by
  simp only [Bool.and_eq_true, decide_eq_true_eq] at hc
  obtain ⟨⟨⟨hc, ht⟩, hd⟩, hl⟩ := hc
  have hds : ∀ l ∈ D, ∀ d ∈ l, dstOf ops d.2 = d.1 := fun l hl d hdl => by
    have := List.all_eq_true.1 (List.all_eq_true.1 hd l hl) d hdl
    simpa using this
  refine wp_region_facts hm hc hRr hRt hΓ (fun i o him ho vs W hr hdep => ?_) (fun vs W hr hfacts => ?_)
  · have hid : i < D.length := by omega
    have hD : D[i]? = some D[i] := by simp [hid]
    have h1 := each_elim hops i o D[i] ho hD vs W hr
    have h2 : (D.map fun l => l.map (·.2)).getD i [] = D[i].map (·.2) := by simp [hid]
    rw [h2] at hdep ⊢
    rw [frameE_eq (hds _ (List.getElem_mem hid))]
    rw [Nat.zero_add] at h1
    exact deps_elim h1 fun d hdm => hdep d.2 (List.mem_map.2 ⟨d, hdm, rfl⟩)
  · obtain ⟨e1, e2⟩ := allDeps_spec ht
    have h1 := facts_elim (htail vs W hr) fun j _ hj => hfacts j (by omega)
    rw [← frameE_eq (ops := ops) e2, e1, ← List.range_eq_range'] at h1
    exact h1

/-- A fact on a value that lasts. -/
structure SP (R : World → World → Prop) where
  p : Value → World → Prop
  st : ∀ v W W', p v W → R W W' → p v W'
/-- One value, whatever the world. -/
def SP.c (R : World → World → Prop) (c : Value) : SP R := ⟨fun v _ => v = c, fun _ _ _ h _ => h⟩
def SP.t (R : World → World → Prop) : SP R := ⟨fun _ _ => True, fun _ _ _ h _ => h⟩
def SP.at {R : World → World → Prop} : List (SP R) → Nat → Value → World → Prop
  | [], _ => fun _ _ => True
  | s :: _, 0 => s.p
  | _ :: l, i + 1 => SP.at l i
theorem SP.at_st {R : World → World → Prop} : ∀ (l : List (SP R)) (i : Nat) (v : Value) (W W' : World), SP.at l i v W → R W W' → SP.at l i v W'
  | [], _, _, _, _, h, _ => h
  | s :: _, 0, v, W, W', h, hr => s.st v W W' h hr
  | _ :: l, i + 1, v, W, W', h, hr => SP.at_st l i v W W' h hr
theorem regionL {id : Nat} {ops : List Oper} {w : World} (R : World → World → Prop) (L : List (SP R)) (T : List Dep) (D : List (List Dep))
    (hm : P.follows .mixedOrders = true) (hc : (chk ops T.length (D.map fun l => l.map (·.2)) && allDeps ops 0 T && depsOk ops D && decide (D.length = T.length)) = true)
    (hRr : ∀ x, R x x) (hRt : ∀ x y z, R x y → R y z → R x z)
    (hops : Each P R (SP.at L) a w.drew ops.toArray 0 ops D)
    (htail : ∀ (vs : Nat → Value) (W : World), R w.drew W → Facts (SP.at L) vs W (wpList P ops.toArray Q (ops.drop T.length) (frameE a vs T) W) 0 T.length) :
    (Code.region id ops.toArray true).wp P Q a w :=
  region R (SP.at L) T D hm hc hRr hRt (SP.at_st L) hops htail
end
end Go.Rg
