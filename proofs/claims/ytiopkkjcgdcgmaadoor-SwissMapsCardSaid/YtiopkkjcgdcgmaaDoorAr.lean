/- What comes in: a key of the hash, texts, acts. -/
import Derived.Test.YtiopkkjcgdcgmaaDoorCd
import Derived.Test.YtiopkkjcgdcgmaaDoorAx
import Derived.Deep.Slices
import Derived.SliceStrings
import Derived.SizedLaws
namespace Go.Proofs.YtiopkkjcgdcgmaaDoor
open Go.ChangeShapes Go.WideShapes Go.ChangeAt Go.RowKit Go.Rg Go.Nm
set_option maxRecDepth 100000
section
variable {H : Type} {enc : TypeId × Value → H} {w : World}
theorem open_key {r : Reach} {b0 : Nat} {v : Value} {d : DataW H} {p : List MemPlace} (hv : Value.okWide Tryd.prog w r b0 24 v) (h : DataW.Trod enc Tryd.prog w 0 (fun _ => true) true 24 v d p) :
    ∃ k0 k1 : Nat, v = .agg #[.int .u64 k0, .int .u64 k1] ∧ k0 < U ∧ k1 < U := by
  obtain ⟨v0, v1, y0, y1, n, rfl, _, _, h0, h1⟩ := Joins.open_agg2 Tryd.underlying24 (by kernel_rfl) (by kernel_rfl) hv h
  obtain ⟨n0, e0, _, w0⟩ := DataW.trod_int Tryd.underlying22 h0
  obtain ⟨n1, e1, _, w1⟩ := DataW.trod_int Tryd.underlying22 h1
  cases e0; cases e1
  have f0 : 0 ≤ n0 ∧ n0 ≤ 18446744073709551615 := by simpa [Lit.wf, IntKind.min, IntKind.max, IntKind.signed, IntKind.bits] using w0
  have f1 : 0 ≤ n1 ∧ n1 ≤ 18446744073709551615 := by simpa [Lit.wf, IntKind.min, IntKind.max, IntKind.signed, IntKind.bits] using w1
  refine ⟨n0.toNat, n1.toNat, ?_, ?_, ?_⟩
  · rw [Int.toNat_of_nonneg f0.1, Int.toNat_of_nonneg f1.1]
  · show n0.toNat < 18446744073709551616; omega
  · show n1.toNat < 18446744073709551616; omega
theorem cells9 : Tryd.prog.cellsOf 9 = 1 := by kernel_rfl
theorem open_texts {r : Reach} {b0 : Nat} {v : Value} {d : DataW H} {p : List MemPlace} (hv : Value.okWide Tryd.prog w r b0 30 v) (h : DataW.Trod enc Tryd.prog w 0 (fun _ => true) true 30 v d p) :
    ∃ l : List ByteArray, Sl w v (l.map strV) ∧ (∀ s ∈ l, s.size ≤ maxLen) ∧ l.length ≤ maxLen := by
  obtain ⟨a0, len, cap, rfl⟩ := okWide_slice Tryd.underlying30 hv
  obtain ⟨fuel, hf⟩ := h
  rcases open_strings Tryd.underlying30 Tryd.underlying9 cells9 hf with ⟨hcs, _⟩ | ⟨a, len', cap', ss, hcs, _, hl, hm, hz, _, hcell, hws⟩
  · simp [Value.cells] at hcs
    obtain ⟨rfl, rfl, rfl⟩ := hcs
    exact ⟨[], Sl.nil _, (fun _ h => by cases h), Nat.zero_le _⟩
  · simp [Value.cells] at hcs
    obtain ⟨rfl, rfl, rfl⟩ := hcs
    simp only [if_true] at hz
    have hlen : (ss.take len).length = len := by rw [List.length_take]; omega
    refine ⟨ss.take len, ⟨some a, cap, by rw [List.length_map, hlen], fun j u hj => ?_⟩, fun s hs => hws s (List.mem_of_mem_take hs), by omega⟩
    rw [List.getElem?_map] at hj
    obtain ⟨s, hs, rfl⟩ := Option.map_eq_some_iff.1 hj
    have hjl : j < len := by have := (List.getElem?_eq_some_iff.1 hs).1; omega
    have hc := hcell j (by omega)
    have hss : ss.getD j ByteArray.empty = s := by
      rw [List.getElem?_take_of_lt hjl] at hs
      rw [List.getD_eq_getElem?_getD, hs]; rfl
    rw [hss] at hc
    obtain ⟨b, off, spot⟩ := a
    have hsp : spot = none := by
      have := World.cell?_spot (hcell 0 (by omega))
      simpa [Addr.add] using this
    subst hsp
    rw [add_plain] at hc
    exact ⟨b, off, rfl, hc⟩
omit enc w in
theorem weightsAll_mem {P : Program} {e : TypeId} : ∀ {l : List (DataW H)} {d : DataW H}, d ∈ l → ∀ n ∈ d.weights P e, n ∈ DataW.weightsAll P e l
  | _ :: _, _, hd, n, hn => by
    simp only [DataW.weightsAll, List.mem_append]
    rcases List.mem_cons.1 hd with rfl | h
    · exact .inl hn
    · exact .inr (weightsAll_mem h n hn)
theorem sized {P : Program} {ts : List TypeId} {ds : List (DataW H)} {j : Nat} {t : TypeId} {d : DataW H} (h : (DataW.weightsEach P ts ds).all (· ≤ reachBytes) = true) (ht : ts[j]? = some t) (hd : ds[j]? = some d) : ∀ n ∈ d.weights P t, n ≤ 140737488351232 := by
  intro n hn
  have := List.all_eq_true.1 h n (DataW.weights_mem_each ht hd n hn)
  exact of_decide_eq_true this
theorem open_acts {r : Reach} {b0 : Nat} {v : Value} {d : DataW H} {p : List MemPlace} {t e : TypeId} {fs : Array Field} (ht : Tryd.prog.underlying t = some (.slice e)) (he : Tryd.prog.underlying e = some (.struct fs))
    (hfs : fs.size = 3 ∧ (fs[0]?.map fun f => (f.type, f.offset)) = some (3, 0) ∧ (fs[1]?.map fun f => (f.type, f.offset)) = some (9, 1) ∧ (fs[2]?.map fun f => (f.type, f.offset)) = some (9, 2)) (hC : Tryd.prog.cellsOf e = 3)
    (hv : Value.okWide Tryd.prog w r b0 t v) (h : DataW.Trod enc Tryd.prog w 0 (fun _ => true) true t v d p) (hz : ∀ n ∈ d.weights Tryd.prog t, n ≤ 140737488351232) : ∃ l : List Act, Ac w v l ∧ l.length ≤ maxLen := by
  obtain ⟨a0, len, cap, rfl⟩ := okWide_slice ht hv
  obtain ⟨fuel, hf⟩ := h
  rcases Deep.open_slice ht hf with ⟨hcs, _⟩ | ⟨a, len', cap', m, n, D, Pl, hcs, _, hl, hm, hmm, hxd, hi⟩
  · simp [Value.cells] at hcs
    obtain ⟨rfl, rfl, rfl⟩ := hcs
    exact ⟨[], ⟨none, 0, rfl, fun j a hj => by simp at hj⟩, Nat.zero_le _⟩
  · simp [Value.cells] at hcs
    obtain ⟨rfl, rfl, rfl⟩ := hcs
    simp only [if_true] at hmm
    subst hmm
    rw [hC] at hi
    have hd : d = .slice ((List.range len).map D) ((List.range (_ - len)).map fun j => D (len + j)) := congrArg Prod.fst hxd
    have hzi : ∀ i, i < len → ∀ n ∈ (D i).weights Tryd.prog e, n ≤ 140737488351232 := fun i hil n hn => hz n (by
      rw [hd]
      simp only [DataW.weights, ht, List.mem_cons, List.mem_append]
      exact .inr (.inl (weightsAll_mem (List.mem_map.2 ⟨i, List.mem_range.2 hil, rfl⟩) n hn)))
    have key : ∀ i, i < len → ∃ x : Act, x.key.size ≤ 140737488351232 ∧ x.val.size ≤ 140737488351232 ∧ w.cell? (a.add (i * 3)) = some (.int .i64 x.kind) ∧ w.cell? (a.add (i * 3 + 1)) = some (.string x.key) ∧ w.cell? (a.add (i * 3 + 2)) = some (.string x.val) := by
      intro i hil
      obtain ⟨cs, hc, hT⟩ := hi i (by omega)
      obtain ⟨_, hcl, hat⟩ := World.cells?_some hc
      obtain ⟨ys, n', _, hDi, _, hyl, hfld⟩ := DataW.trod_struct he hT
      have hDi' : D i = .agg (ys.map (·.1)) := congrArg Prod.fst hDi
      have hzz := hzi i hil
      obtain ⟨hsz, g0, g1, g2⟩ := hfs
      have c3 : Tryd.prog.cellsOf 3 = 1 := by kernel_rfl
      match cs, hcl with
      | [x0, x1, x2], _ =>
        match ys, hyl.trans hsz, hDi', hfld with
        | [y0, y1, y2], _, hDi', hfld =>
          obtain ⟨q0, e0, k0⟩ := Option.map_eq_some_iff.1 g0
          obtain ⟨q1, e1, k1⟩ := Option.map_eq_some_iff.1 g1
          obtain ⟨q2, e2, k2⟩ := Option.map_eq_some_iff.1 g2
          simp only [Prod.mk.injEq] at k0 k1 k2
          have t0 := hfld 0 q0 e0
          have t1 := hfld 1 q1 e1
          have t2 := hfld 2 q2 e2
          rw [k0.1, k0.2, c3] at t0
          rw [k1.1, k1.2, cells9] at t1
          rw [k2.1, k2.2, cells9] at t2
          obtain ⟨z0, r0, _, _⟩ := DataW.trod_int Tryd.underlying3 (show DataW.trod enc Tryd.prog w 0 (fun _ => true) true n' 3 [x0] = some y0 from t0)
          obtain ⟨z1, r1, v1, _⟩ := DataW.trod_string Tryd.underlying9 (show DataW.trod enc Tryd.prog w 0 (fun _ => true) true n' 9 [x1] = some y1 from t1)
          obtain ⟨z2, r2, v2, _⟩ := DataW.trod_string Tryd.underlying9 (show DataW.trod enc Tryd.prog w 0 (fun _ => true) true n' 9 [x2] = some y2 from t2)
          cases r0; cases r1; cases r2
          have hts : ∀ (j : Nat) (q : Field), fs[j]? = some q → (fs.toList.map (·.type))[j]? = some q.type := fun j q hq => by rw [List.getElem?_map, Array.getElem?_toList, hq]; rfl
          have s1 : z1.size ≤ 140737488351232 := by
            have := hzz z1.data.toList.length (by
              rw [hDi']
              simp only [DataW.weights, he]
              exact DataW.weights_mem_each (j := 1) (hts 1 q1 e1) rfl _ (by rw [v1]; simp [DataW.weights]))
            simpa using this
          have s2 : z2.size ≤ 140737488351232 := by
            have := hzz z2.data.toList.length (by
              rw [hDi']
              simp only [DataW.weights, he]
              exact DataW.weights_mem_each (j := 2) (hts 2 q2 e2) rfl _ (by rw [v2]; simp [DataW.weights]))
            simpa using this
          have a0 := hat 0 (by omega)
          have a1 := hat 1 (by omega)
          have a2 := hat 2 (by omega)
          rw [Deep.add_add] at a0 a1 a2
          exact ⟨⟨z0, z1, z2⟩, s1, s2, a0, a1, a2⟩
    have hall : ∀ k, k ≤ len → ∃ l : List Act, l.length = k ∧ ∀ j x, l[j]? = some x → x.key.size ≤ 140737488351232 ∧ x.val.size ≤ 140737488351232 ∧ w.cell? (a.add (j * 3)) = some (.int .i64 x.kind) ∧ w.cell? (a.add (j * 3 + 1)) = some (.string x.key) ∧ w.cell? (a.add (j * 3 + 2)) = some (.string x.val) := by
      intro k
      induction k with
      | zero => exact fun _ => ⟨[], rfl, fun j x hj => by simp at hj⟩
      | succ k ih =>
        intro hk
        obtain ⟨l, h1, h2⟩ := ih (by omega)
        obtain ⟨x, hx⟩ := key k (by omega)
        refine ⟨l ++ [x], by simp [h1], fun j y hj => ?_⟩
        by_cases hjk : j < k
        · rw [List.getElem?_append_left (by omega)] at hj
          exact h2 j y hj
        · have hjl := (List.getElem?_eq_some_iff.1 hj).1
          simp [h1] at hjl
          obtain rfl : j = k := by omega
          rw [List.getElem?_append_right (by omega), h1] at hj
          simp at hj
          subst hj; exact hx
    obtain ⟨l, h1, h2⟩ := hall len (Nat.le_refl _)
    refine ⟨l, ⟨some a, _, by rw [h1], fun j x hj => ?_⟩, by omega⟩
    obtain ⟨s1, s2, c0, c1, c2⟩ := h2 j x hj
    obtain ⟨b, off, spot⟩ := a
    have hjl := (List.getElem?_eq_some_iff.1 hj).1
    have hsp : spot = none := by
      obtain ⟨_, _, _, d0, _⟩ := key 0 (by omega)
      have := World.cell?_spot d0
      simpa [Addr.add] using this
    subst hsp
    rw [add_plain] at c0 c1 c2
    exact ⟨s1, s2, b, off, rfl, c0, by rw [Nat.add_assoc]; exact c1, by rw [Nat.add_assoc]; exact c2⟩
end
end Go.Proofs.YtiopkkjcgdcgmaaDoor
