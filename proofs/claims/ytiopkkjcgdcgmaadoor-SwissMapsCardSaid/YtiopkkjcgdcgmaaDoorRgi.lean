/- The rule for a region that draws, in a round of a range over a function (the wide fence). -/
import Derived.Test.YtiopkkjcgdcgmaaDoorRg
import Derived.OrdersIn
import Derived.TacticsIn
import Derived.RangeFuncCalls
namespace Go.Rg
def NoDef (ops : List Oper) : Prop := ∀ (i : Nat) (o : Oper), ops[i]? = some o → ∀ c, o.op ≠ .defer c
def noDefB (ops : List Oper) : Bool := ops.all fun o => match o.op with | .defer _ => false | _ => true
theorem noDef_of {ops : List Oper} (h : noDefB ops = true) : NoDef ops := fun i o ho c e => by
  have := List.all_eq_true.1 h o (List.mem_of_getElem? ho)
  rw [e] at this; cases this
theorem rowsIn_wide {n : Nat} {P : Program} {row : String} {args : Array Value} {w : World} {R : Value → World → Prop} (h : Rows P row args w R) : RowsIn Fence.wide n P row args w R :=
  fun c cs _ => let ⟨v, w', r, s⟩ := h c cs; ⟨v, w', r, stepsIn_wide.2 s⟩
section
variable {P : Program} {R : World → World → Prop} {ll nn : Nat} {Γ : Nat → Value → World → Prop} {a : Act} {w0 : World} {Q : Exit → Act → World → Prop}
theorem wpIn_of_post {o : Oper} {F A : Act} {W : World} {G : Value → World → Prop} {K : Act → World → Prop} (hnd : ∀ c, o.op ≠ .defer c)
    (hop : execOp A.eval o = execOp F.eval o) (hs : A.tmps.size = F.tmps.size)
    (h : o.wp P F W (fun A' W' => ∃ v, A' = F.put o.dst v ∧ R W W' ∧ G v W') (post1 R W G F o.dst))
    (hK : ∀ v W', R W W' → G v W' → K (A.put o.dst v) W') : o.wpIn (Fence.wide.inRound ll) nn P A W K Q := by
  refine ⟨fun _ _ => trivial, ?_⟩
  rw [Oper.semAt_eq _ _ _ hnd, hop]
  unfold Oper.wp at h
  have step : ∀ v W', (∃ v', F.put o.dst v = F.put o.dst v' ∧ R W W' ∧ G v' W') → K (A.put o.dst v) W' := fun v W' ⟨v', hv, hr, hg⟩ => by
    rw [put_same hv hs]; exact hK v' W' hr hg
  have hdep : (Fence.wide.inRound ll).depth.isSome = true → 1 ≤ nn := fun h => by cases h
  generalize (execOp F.eval o).run P W = r at *
  cases r with
  | ok n w' =>
    cases n <;> simp only [Oper.upon, Oper.uponIn] at h ⊢ <;> try exact h
    case value v => exact step v w' h
    case skip => exact step undef w' h
    case enter f args =>
      refine ⟨hdep, CallsIn.inRound ll (callsIn_wide.2 (h.mono fun e w'' he => ?_))⟩
      cases e with
      | returned v => exact step v w'' he
      | panicked c => exact he.elim
      | outgrown => obtain ⟨_, _, hf⟩ := he; exact hf.elim
    case row row args => exact ⟨hdep, fun c cs hr => rowsIn_wide (n := nn - 1) (h.mono fun v w'' hv => step v w'' hv) c cs hr⟩
    case defer d =>
      obtain ⟨v, hv, _⟩ := h
      have hh := congrArg Act.defers hv
      rw [put_defers, put_defers] at hh
      have := congrArg List.length hh
      simp at this
  | halt x w' => cases x <;> simp only [Oper.upon, Oper.uponIn] at h ⊢ <;> exact h.elim

theorem wpOpIn_of_post {ops : List Oper} {o : Oper} {i : Nat} {F A : Act} {W : World} {G : Value → World → Prop} {K : Act → World → Prop} (hnd : ∀ c, o.op ≠ .defer c)
    (hi : ops[i]? = some o) (hop : execOp A.eval o = execOp F.eval o) (hw : Region.wanted o (yielded ops.toArray A.tmps) = Region.wanted o (yielded ops.toArray F.tmps))
    (hs : A.tmps.size = F.tmps.size)
    (h : wpList P ops.toArray (post1 R W G F o.dst) [o] F W)
    (hK : ∀ v W', R W W' → G v W' → K (A.put o.dst v) W') : wpOpIn (Fence.wide.inRound ll) nn P ops.toArray Q i K A W := by
  unfold wpOpIn
  have hi' : ops.toArray[i]? = some o := by simpa using hi
  simp only [hi']
  rw [hw]
  unfold wpList at h
  split
  · rename_i hwt
    rw [if_pos hwt] at h
    rcases h with h | ⟨_, _, _, hf⟩
    · exact wpIn_of_post hnd hop hs h hK
    · exact hf.elim
  · rename_i hwt
    rw [if_neg hwt] at h
    obtain ⟨v, hv, hr, hg⟩ := h
    rw [put_same hv hs]; exact ⟨fun _ _ => trivial, hK v W hr hg⟩

/-- The head: whatever may come up keeps the invariant. -/
theorem inv_step_in {ops : List Oper} {m : Nat} {D : List (List Nat)} (hnd : NoDef ops) (hc : chk ops m D = true)
    (hRt : ∀ x y z, R x y → R y z → R x z) (hΓ : ∀ i v W W', Γ i v W → R W W' → Γ i v W')
    (hops : ∀ i o, i < m → ops[i]? = some o → ∀ (vs : Nat → Value) (W : World), R w0 W → (∀ j ∈ D.getD i [], Γ j (vs j) W) →
      wpList P ops.toArray (post1 R W (Γ i) (frame ops a vs (D.getD i [])) o.dst) [o] (frame ops a vs (D.getD i [])) W)
    {listed : Array Bool} {A : Act} {W : World} (inv : Inv ops m R Γ a w0 listed A W) {i : Nat} (hi : i ∈ Region.ready .any ops.toArray listed) (him : i < m)
    {K : Act → World → Prop} (hK : ∀ A' W', Inv ops m R Γ a w0 (listed.setIfInBounds i true) A' W' → K A' W') : wpOpIn (Fence.wide.inRound ll) nn P ops.toArray Q i K A W := by
  obtain ⟨hsel, huniq, _, hD, hlook, _, _⟩ := chk_spec hc
  obtain ⟨hun, o, ho, hall⟩ := mem_ready.1 hi
  have ho' : ops[i]? = some o := by simpa using ho
  obtain ⟨vs, hv1, hv2, hv3⟩ := inv.vals
  have hilt : i < listed.size := by
    rw [inv.size]; exact (List.getElem?_eq_some_iff.1 ho').1
  have hni : listed.getD i false = false := by
    have : listed.getD i true = listed.getD i false := by simp [hilt]
    rw [← this]; exact hun
  have hanc : ∀ j ∈ D.getD i [], listed.getD j false = true := fun j hj =>
    ancL_ready (S := fun k => listed.getD k false = true) inv.closed ho' hall (hD i him j hj).1 (hD i him j hj).2.2
  have hlk : ∀ t ∈ o.looksAt ops.toArray, A.tmps[t]? = (frame ops a vs (D.getD i [])).tmps[t]? := fun t ht => by
    by_cases hex : ∃ j, j ∈ D.getD i [] ∧ dstOf ops j = some t
    · obtain ⟨j, hj, hd⟩ := hex
      by_cases hs : t < a.tmps.size
      · rw [hv2 j t (hanc j hj) hd hs, frame_at ops vs t j hd (fun k hk => huniq k j t hk hd) _ _ hj hs]
      · have hs' := Nat.le_of_not_lt hs
        rw [Array.getElem?_eq_none (by rw [inv.tsize]; exact hs'), Array.getElem?_eq_none (by rw [frame_size]; exact hs')]
    · rw [frame_other ops vs t _ _ (fun j hj hd => hex ⟨j, hj, hd⟩)]
      refine hv1 t fun j hj hd => ?_
      rcases hlook i o him ho' t ht j hd with rfl | h | h
      · rw [hni] at hj; cases hj
      · exact hex ⟨j, h, hd⟩
      · have := ancL_closed (S := fun k => listed.getD k false = true) inv.closed hj h
        rw [hni] at this; cases this
  have hop : execOp A.eval o = execOp (frame ops a vs (D.getD i [])).eval o :=
    execOp_congr o (fun cs b => hsel i o cs b ho') fun x hx => eval_congr fun t e => hlk t (by
      subst e
      exact List.mem_append_left _ (List.mem_filterMap.2 ⟨.tmp t, by simpa using hx, rfl⟩))
  refine wpOpIn_of_post (hnd i o ho') ho' hop (yielded_congr hlk) (by rw [inv.tsize, frame_size]) (hops i o him ho' vs W inv.rel fun j hj => hv3 j (hanc j hj) (hD i him j hj).2.1) ?_
  intro v W' hr hg
  refine hK _ _ ⟨by simp [inv.size], ?_, by rw [put_size, inv.tsize], by rw [put_defers, inv.defers], hRt _ _ _ inv.rel hr, fun k => if k = i then v else vs k, ?_, ?_, ?_⟩
  · intro k o' hk hl e he hb
    rw [getD_set hilt] at hl ⊢
    rcases hl with rfl | hl
    · rw [ho'] at hk; cases hk; exact .inr (hall e he hb)
    · exact .inr (inv.closed k o' hk hl e he hb)
  · intro t ht
    have hdi : o.dst ≠ some t := by
      have := ht i ((getD_set hilt).2 (.inl rfl))
      simpa [dstOf, ho'] using this
    rw [put_get, if_neg (fun h => hdi h.1)]
    exact hv1 t fun j hj => ht j ((getD_set hilt).2 (.inr hj))
  · intro j t hj hd hs
    rw [put_get]
    by_cases hji : j = i
    · subst hji
      have : o.dst = some t := by simpa [dstOf, ho'] using hd
      rw [if_pos ⟨this, by rw [inv.tsize]; exact hs⟩]; simp
    · have hne : o.dst ≠ some t := fun h => hji (huniq j i t hd (by simp [dstOf, ho', h]))
      rw [if_neg (fun h => hne h.1)]
      simp only [hji, if_false]
      exact hv2 j t (((getD_set hilt).1 hj).resolve_left hji) hd hs
  · intro j hj hjm
    by_cases hji : j = i
    · subst hji; simpa using hg
    · simp only [hji, if_false]
      exact hΓ j _ _ _ (hv3 j (((getD_set hilt).1 hj).resolve_left hji) hjm) hr


/-- The tail: one behind the other. -/
theorem any_tail_in {ops : List Oper} {m : Nat} (hanc : ∀ k, m ≤ k → k < ops.length → ∀ j, j < k → j ∈ (ancL ops).getD k [])
    (hedge : ∀ i o, ops[i]? = some o → ∀ e ∈ o.after, Region.binds .any e = true → e.on < i) :
    ∀ (l : List Oper) (k : Nat) (listed : Array Bool) (A : Act) (W : World), m ≤ k → k + l.length = ops.length → (∀ j, l[j]? = ops[k + j]?) → listed.size = ops.length →
      (∀ j, listed.getD j false = true ↔ j < k) → (∀ i o, ops[i]? = some o → listed.getD i false = true → ∀ e ∈ o.after, Region.binds .any e = true → listed.getD e.on false = true) →
      wpListIn (Fence.wide.inRound ll) nn P ops.toArray Q l A W → wpAnyIn (Fence.wide.inRound ll) nn P .any ops.toArray Q l.length listed A W := by
  have only : ∀ (k : Nat) (listed : Array Bool), m ≤ k → listed.size = ops.length → (∀ j, listed.getD j false = true ↔ j < k) →
      (∀ i o, ops[i]? = some o → listed.getD i false = true → ∀ e ∈ o.after, Region.binds .any e = true → listed.getD e.on false = true) →
      ∀ i ∈ Region.ready .any ops.toArray listed, i = k := fun k listed hk hsz hl hcl i hi => by
    obtain ⟨hun, o, ho, hall⟩ := mem_ready.1 hi
    have ho' : ops[i]? = some o := by simpa using ho
    have hil : i < ops.length := (List.getElem?_eq_some_iff.1 ho').1
    have hni : listed.getD i false = false := by
      have : listed.getD i true = listed.getD i false := by simp [hsz, hil]
      rw [← this]; exact hun
    have h1 : ¬ i < k := fun h => by rw [(hl i).2 h] at hni; cases hni
    rcases Nat.lt_trichotomy i k with h | h | h
    · exact absurd h h1
    · exact h
    · have := ancL_ready (S := fun j => listed.getD j false = true) hcl ho' hall (hanc i (by omega) hil k h) (by omega)
      have := (hl k).1 this; omega
  intro l
  induction l with
  | nil =>
    intro k listed A W hk hkl hl hsz hli hcl h
    refine ⟨?_, h⟩
    rw [List.eq_nil_iff_forall_not_mem]
    intro i hi
    have e := only k listed hk hsz hli hcl i hi
    obtain ⟨_, o, ho, _⟩ := mem_ready.1 hi
    have ho' : ops[i]? = some o := by simpa using ho
    have := (List.getElem?_eq_some_iff.1 ho').1
    simp at hkl
    omega
  | cons o l ih =>
    intro k listed A W hk hkl hl hsz hli hcl h
    have hok : ops[k]? = some o := by simpa using (hl 0).symm
    have hkl' : k < ops.length := (List.getElem?_eq_some_iff.1 hok).1
    have hks : k < listed.size := by rw [hsz]; exact hkl'
    have hno : listed.getD k false = false := by
      rw [← Bool.not_eq_true]; intro hh; have := (hli k).1 hh; omega
    refine ⟨fun hr => ?_, fun i hi => ?_⟩
    · have := first_ready hedge hsz hkl' (fun j hj => (hli j).2 hj) hno
      rw [hr] at this; cases this
    · obtain rfl := only k listed hk hsz hli hcl i hi
      have hw : wpOpIn (Fence.wide.inRound ll) nn P ops.toArray Q i (wpListIn (Fence.wide.inRound ll) nn P ops.toArray Q l) A W := by
        unfold wpOpIn
        have : ops.toArray[i]? = some o := by simpa using hok
        simp only [this]; exact h
      refine wpOpIn_mono (fun a' w' h' => ih (i + 1) _ a' w' (by omega) (by simp at hkl; omega) (fun j => by have := hl (j + 1); simpa [Nat.add_assoc, Nat.add_comm 1 j] using this) (by simp [hsz]) (fun j => ?_) ?_ h') hw
      · rw [getD_set hks, hli j]; omega
      · intro j o' hj hjl e he hb
        rw [getD_set hks] at hjl ⊢
        rcases hjl with rfl | hjl
        · exact .inr ((hli _).2 (hedge j o' hj e he hb))
        · exact .inr (hcl j o' hj hjl e he hb)


/-- The whole region: m operations in whatever order, then the tail. -/
theorem any_of_facts_in {ops : List Oper} {m : Nat} {D : List (List Nat)} (hnd : NoDef ops) (hc : chk ops m D = true)
    (hRt : ∀ x y z, R x y → R y z → R x z) (hΓ : ∀ i v W W', Γ i v W → R W W' → Γ i v W')
    (hops : ∀ i o, i < m → ops[i]? = some o → ∀ (vs : Nat → Value) (W : World), R w0 W → (∀ j ∈ D.getD i [], Γ j (vs j) W) →
      wpList P ops.toArray (post1 R W (Γ i) (frame ops a vs (D.getD i [])) o.dst) [o] (frame ops a vs (D.getD i [])) W)
    (htail : ∀ (vs : Nat → Value) (W : World), R w0 W → (∀ j, j < m → Γ j (vs j) W) → wpListIn (Fence.wide.inRound ll) nn P ops.toArray Q (ops.drop m) (frame ops a vs (List.range m)) W) :
    ∀ (n : Nat) (listed : Array Bool) (A : Act) (W : World), Inv ops m R Γ a w0 listed A W → (∀ j, listed.getD j false = true → j < m) →
      n = cnt (fun j => !listed.getD j false) m → wpAnyIn (Fence.wide.inRound ll) nn P .any ops.toArray Q (n + (ops.length - m)) listed A W := by
  obtain ⟨hsel, huniq, hml, hD, hlook, hanc, hedge⟩ := chk_spec hc
  intro n
  induction n with
  | zero =>
    intro listed A W inv hlt hn
    -- all of the head has come up
    have hall : ∀ j, j < m → listed.getD j false = true := fun j hj => by
      have := cnt_zero hn.symm j hj
      simpa using this
    obtain ⟨vs, hv1, hv2, hv3⟩ := inv.vals
    have hA : A = frame ops a vs (List.range m) := by
      have ht : A.tmps = (frame ops a vs (List.range m)).tmps := by
        refine Array.ext_getElem? fun t => ?_
        by_cases hex : ∃ j, j < m ∧ dstOf ops j = some t
        · obtain ⟨j, hj, hd⟩ := hex
          by_cases hs : t < a.tmps.size
          · rw [hv2 j t (hall j hj) hd hs, frame_at ops vs t j hd (fun k hk => huniq k j t hk hd) _ _ (List.mem_range.2 hj) hs]
          · have hs' := Nat.le_of_not_lt hs
            rw [Array.getElem?_eq_none (by rw [inv.tsize]; exact hs'), Array.getElem?_eq_none (by rw [frame_size]; exact hs')]
        · rw [frame_other ops vs t _ _ (fun j hj hd => hex ⟨j, List.mem_range.1 hj, hd⟩)]
          exact hv1 t fun j hj hd => hex ⟨j, hlt j hj, hd⟩
      have hd : A.defers = (frame ops a vs (List.range m)).defers := by rw [frame_defers, inv.defers]
      cases A; simp only at ht hd; subst ht; subst hd; rfl
    rw [hA, Nat.zero_add]
    have hdl : (ops.drop m).length = ops.length - m := by simp
    rw [← hdl]
    refine any_tail_in hanc hedge (ops.drop m) m listed _ W (Nat.le_refl _) (by rw [hdl]; omega) (fun j => by simp [List.getElem?_drop]) inv.size (fun j => ⟨hlt j, hall j⟩) inv.closed
      (htail vs W inv.rel fun j hj => hv3 j (hall j hj) hj)
  | succ n ih =>
    intro listed A W inv hlt hn
    rw [show n + 1 + (ops.length - m) = (n + (ops.length - m)) + 1 by omega]
    -- some of the head has not come up
    have hex : ∃ j, j < m ∧ listed.getD j false = false := by
      obtain ⟨j, hj, h⟩ := cnt_pos (p := fun j => !listed.getD j false) (n := m) (by omega)
      exact ⟨j, hj, by simpa using h⟩
    have hready : ∀ i ∈ Region.ready .any ops.toArray listed, i < m := fun i hi => by
      refine Nat.lt_of_not_le fun hmi => ?_
      obtain ⟨_, o, ho, hall⟩ := mem_ready.1 hi
      have ho' : ops[i]? = some o := by simpa using ho
      obtain ⟨j, hj, hf⟩ := hex
      have := ancL_ready (S := fun j => listed.getD j false = true) inv.closed ho' hall (hanc i hmi (List.getElem?_eq_some_iff.1 ho').1 j (by omega)) (by omega)
      rw [hf] at this; cases this
    refine ⟨fun hr => ?_, fun i hi => ?_⟩
    · exfalso
      have hmin : ∃ k, k < m ∧ listed.getD k false = false ∧ ∀ j, j < k → listed.getD j false = true := by
        obtain ⟨j, hj, hf⟩ := hex
        induction j using Nat.strongRecOn with
        | _ j ihj =>
          by_cases h : ∃ k, k < j ∧ listed.getD k false = false
          · obtain ⟨k, hk, hkf⟩ := h
            exact ihj k hk (by omega) hkf
          · exact ⟨j, hj, hf, fun k hk => by rw [← Bool.not_eq_false]; exact fun hh => h ⟨k, hk, hh⟩⟩
      obtain ⟨k, hk, hkf, hlo⟩ := hmin
      have := first_ready hedge inv.size (k := k) (by omega) hlo hkf
      rw [hr] at this; cases this
    · have him := hready i hi
      obtain ⟨hun, o, ho, hall⟩ := mem_ready.1 hi
      have ho' : ops[i]? = some o := by simpa using ho
      have hil : i < ops.length := (List.getElem?_eq_some_iff.1 ho').1
      have hni : listed.getD i false = false := by
        have : listed.getD i true = listed.getD i false := by simp [inv.size, hil]
        rw [← this]; exact hun
      refine inv_step_in hnd hc hRt hΓ hops inv hi him fun A' W' inv' => ih _ A' W' inv' (fun j hj => ?_) ?_
      · rcases (getD_set (by rw [inv.size]; exact hil)).1 hj with rfl | h
        · exact him
        · exact hlt j h
      · have hs : i < listed.size := by rw [inv.size]; exact hil
        have := cnt_set (p := fun j => !listed.getD j false) (q := fun j => !(listed.setIfInBounds i true).getD j false) (i := i) (by simp only [hni]; rfl)
          (by simp only [(getD_set (j := i) hs).2 (.inl rfl)]; rfl) (fun j hj => by simp [Array.getElem?_setIfInBounds_ne (Ne.symm hj)]) (n := m) him
        omega

/-- THE RULE. -/
theorem wp_region_facts_in {id : Nat} {ops : List Oper} {m : Nat} {D : List (List Nat)} {w : World} (hnd : NoDef ops) (hm : P.follows .mixedOrders = true) (hc : chk ops m D = true)
    (hRr : ∀ x, R x x) (hRt : ∀ x y z, R x y → R y z → R x z) (hΓ : ∀ i v W W', Γ i v W → R W W' → Γ i v W')
    (hops : ∀ i o, i < m → ops[i]? = some o → ∀ (vs : Nat → Value) (W : World), R w.drew W → (∀ j ∈ D.getD i [], Γ j (vs j) W) →
      wpList P ops.toArray (post1 R W (Γ i) (frame ops a vs (D.getD i [])) o.dst) [o] (frame ops a vs (D.getD i [])) W)
    (htail : ∀ (vs : Nat → Value) (W : World), R w.drew W → (∀ j, j < m → Γ j (vs j) W) → wpListIn (Fence.wide.inRound ll) nn P ops.toArray Q (ops.drop m) (frame ops a vs (List.range m)) W) :
    (Code.region id ops.toArray true).wpIn (Fence.wide.inRound ll) nn P Q a w := by
  refine wpIn_region_any hm ?_
  have hml := (chk_spec hc).2.2.1
  have hf : ∀ j, (Array.replicate ops.length false).getD j false = false := fun j => by simp [Array.getElem?_replicate]; split <;> rfl
  have := any_of_facts_in (P := P) (Q := Q) hnd hc hRt hΓ hops htail m (Array.replicate ops.length false) a w.drew
    ⟨by simp, fun i o _ h => (by rw [hf] at h; cases h), rfl, rfl, hRr _, fun _ => undef, fun _ _ => rfl, fun j t h => (by rw [hf] at h; cases h), fun j h => (by rw [hf] at h; cases h)⟩
    (fun j h => (by rw [hf] at h; cases h)) (cnt_all (fun j => by simp only [hf]; rfl) m).symm
  rw [show m + (ops.length - m) = ops.length by omega] at this
  simpa using this


/-- THE RULE, SPELT OUT. T: the head's operations, each with its slot; D: of each, whose values it looks at. -/
theorem region_in {id : Nat} {ops : List Oper} {w : World} (R : World → World → Prop) (Γ : Nat → Value → World → Prop) (T : List Dep) (D : List (List Dep)) (hdb : noDefB ops = true)
    (hm : P.follows .mixedOrders = true) (hc : (chk ops T.length (D.map fun l => l.map (·.2)) && allDeps ops 0 T && depsOk ops D && decide (D.length = T.length)) = true)
    (hRr : ∀ x, R x x) (hRt : ∀ x y z, R x y → R y z → R x z) (hΓ : ∀ i v W W', Γ i v W → R W W' → Γ i v W')
    (hops : Each P R Γ a w.drew ops.toArray 0 ops D)
    (htail : ∀ (vs : Nat → Value) (W : World), R w.drew W → Facts Γ vs W (wpListIn (Fence.wide.inRound ll) nn P ops.toArray Q (ops.drop T.length) (frameE a vs T) W) 0 T.length) :
    (Code.region id ops.toArray true).wpIn (Fence.wide.inRound ll) nn P Q a w := by
  simp only [Bool.and_eq_true, decide_eq_true_eq] at hc
  obtain ⟨⟨⟨hc, ht⟩, hd⟩, hl⟩ := hc
  have hds : ∀ l ∈ D, ∀ d ∈ l, dstOf ops d.2 = d.1 := fun l hl d hdl => by
    have := List.all_eq_true.1 (List.all_eq_true.1 hd l hl) d hdl
    simpa using this
  refine wp_region_facts_in (noDef_of hdb) hm hc hRr hRt hΓ (fun i o him ho vs W hr hdep => ?_) (fun vs W hr hfacts => ?_)
  · have hid : i < D.length := by omega
    have hD : D[i]? = some D[i] := by simp [hid]
    have h1 := each_elim hops i o D[i] ho hD vs W hr
    have h2 : (D.map fun l => l.map (·.2)).getD i [] = D[i].map (·.2) := by simp [hid]
    rw [h2] at hdep ⊢
    rw [frameE_eq (hds _ (List.getElem_mem hid))]
    rw [Nat.zero_add] at h1
    exact deps_elim h1 fun d hdm => hdep d.2 (List.mem_map.2 ⟨d, hdm, rfl⟩)
  · obtain ⟨e1, e2⟩ := allDeps_spec ht
    have h1 := facts_elim (htail vs W hr) fun j _ hj => hfacts j (by omega)
    rw [← frameE_eq (ops := ops) e2, e1, ← List.range_eq_range'] at h1
    exact h1


theorem regionL_in {id : Nat} {ops : List Oper} {w : World} (R : World → World → Prop) (L : List (SP R)) (T : List Dep) (D : List (List Dep)) (hdb : noDefB ops = true)
    (hm : P.follows .mixedOrders = true) (hc : (chk ops T.length (D.map fun l => l.map (·.2)) && allDeps ops 0 T && depsOk ops D && decide (D.length = T.length)) = true)
    (hRr : ∀ x, R x x) (hRt : ∀ x y z, R x y → R y z → R x z)
    (hops : Each P R (SP.at L) a w.drew ops.toArray 0 ops D)
    (htail : ∀ (vs : Nat → Value) (W : World), R w.drew W → Facts (SP.at L) vs W (wpListIn (Fence.wide.inRound ll) nn P ops.toArray Q (ops.drop T.length) (frameE a vs T) W) 0 T.length) :
    (Code.region id ops.toArray true).wpIn (Fence.wide.inRound ll) nn P Q a w :=
  region_in R (SP.at L) T D hdb hm hc hRr hRt (SP.at_st L) hops htail
end
end Go.Rg
