/- slices.Repeat: as many words. -/
import Derived.Test.YtiopkkjcgdcgmaaDoorMi
import Derived.Laws.CopyOwn
import Derived.Deep.Cut
namespace Go.Proofs.YtiopkkjcgdcgmaaDoor
open Go.RowKit Go.Rg Go.Nm Go.Gp Go.Mp
set_option maxHeartbeats 1000000
set_option maxRecDepth 20000
theorem mul_w (g : Nat) (hg : g ≤ 1024) (w : World) : Calls Tryd.prog 111 #[.int .u64 1, .int .u64 g] w fun e w' => e = .returned (.tuple #[.int .u64 0, .int .u64 g]) ∧ w = w' := by
  have hb : bits .and .u64 (g : Int) 4294967295 = (g : Int) := by
    rw [show (4294967295 : Int) = ((4294967295 : Nat) : Int) from rfl, andU (by show _ < 18446744073709551616; omega) (by decide)]
    have := Nat.and_two_pow_sub_one_eq_mod g 32
    simp only [show (2 : Nat) ^ 32 - 1 = 4294967295 from rfl, show (2 : Nat) ^ 32 = 4294967296 from rfl] at this
    rw [this]; omega
  have hd : (g : Int) / 4294967296 = 0 := by omega
  have hb1 : bits .and .u64 1 4294967295 = 1 := by decide
  have hb0 : bits .and .u64 0 4294967295 = 0 := by decide
  go_enter Tryd.func111, Tryd.ntmps111
  go_wp2
  go_ret2
  exact ⟨rfl, rfl⟩

theorem info22 : (Tryd.prog.info? 22).map (fun i => (i.zero, i.size, i.bytes)) = some (some (.int .u64 0), 1, 8) := by kernel_rfl
theorem size22 : (Tryd.prog.info? 22).map (·.size) = some 1 := by kernel_rfl
/-- g words, of which the first k are x. -/
def Pre (b g x k : Nat) (w : World) : Prop := ∃ cur : Array Value, At w b cur 22 ∧ cur.size = g ∧ ∀ i, i < k → cur[i]? = some (u64V x)
structure CpR (b g x : Nat) (v w : World) : Prop where
  kp : Kp (fun k => k = b) v w
  pre : ∀ k, Pre b g x k v → Pre b g x k w
theorem CpR.refl (b g x : Nat) (w : World) : CpR b g x w w := ⟨Kp.refl _ w, fun _ h => h⟩
theorem CpR.trans (b g x : Nat) (u v w : World) (h : CpR b g x u v) (k : CpR b g x v w) : CpR b g x u w := ⟨h.kp.trans k.kp, fun j hj => k.pre j (h.pre j hj)⟩
theorem kp_setRow (w : World) (b : Nat) (cs : Array Value) : Kp (fun k => k = b) w (w.setRow b cs) :=
  ⟨rfl, rfl, rfl, by simp [World.setRow], fun k _ hn => setRow_other w b k cs hn⟩
theorem copied {b g x k : Nat} {w : World} {cur : Array Value} (hA : At w b cur 22) (hs : cur.size = g) (hp : ∀ i, i < k → cur[i]? = some (u64V x)) {n : Nat} (off : Nat) (hoff : off ≤ k) (hn : off + n ≤ g) :
    Pre b g x (off + n) (w.setRow b (cur.toList.take off ++ (List.replicate n (u64V x) ++ cur.toList.drop (off + n))).toArray) ∧ CpR b g x w (w.setRow b (cur.toList.take off ++ (List.replicate n (u64V x) ++ cur.toList.drop (off + n))).toArray) := by
  have hlen : cur.toList.length = g := by simpa using hs
  have hat : ∀ i, (cur.toList.take off ++ (List.replicate n (u64V x) ++ cur.toList.drop (off + n))).toArray[i]? = if i < off then cur[i]? else if i < off + n then some (u64V x) else cur[i]? := by
    intro i
    rw [List.getElem?_toArray]
    by_cases h1 : i < off
    · rw [List.getElem?_append_left (by simp; omega), List.getElem?_take_of_lt h1, if_pos h1]; simp
    · rw [List.getElem?_append_right (by simp; omega), if_neg h1]
      have : (List.take off cur.toList).length = off := by simp; omega
      rw [this]
      by_cases h2 : i < off + n
      · rw [List.getElem?_append_left (by simp; omega), if_pos h2, List.getElem?_replicate, if_pos (by omega)]
      · rw [List.getElem?_append_right (by simp; omega), if_neg h2, List.getElem?_drop]
        simp only [List.length_replicate]
        rw [show off + n + (i - off - n) = i by omega]; simp
  have hsz : (cur.toList.take off ++ (List.replicate n (u64V x) ++ cur.toList.drop (off + n))).toArray.size = g := by simp [hs]; omega
  have hA' := setRow_heap w b cur (cur.toList.take off ++ (List.replicate n (u64V x) ++ cur.toList.drop (off + n))).toArray 22 (0, 0) hA
  refine ⟨⟨_, hA', hsz, fun i hi => ?_⟩, kp_setRow _ _ _, fun j ⟨cur', hA2, hs2, hp2⟩ => ?_⟩
  · rw [hat]
    split
    · exact hp i (by omega)
    · first | rfl | (rw [if_pos hi])
  · have : cur' = cur := by
      unfold At at hA hA2; rw [hA] at hA2; cases hA2; rfl
    subst this
    refine ⟨_, hA', hsz, fun i hi => ?_⟩
    rw [hat]
    split
    · exact hp2 i hi
    · split
      · rfl
      · exact hp2 i hi

theorem copyL {P : Program} {w : World} {ops : Array Oper} {rest : List Oper} {o : Oper} {a : Act} {Q : Exit → Act → World → Prop} (hgd : o.guard = none) (d s : Operand) (t : TypeId)
    (ho : o.op = .call { callee := .builtin .copy, args := #[d, s], argTypes := #[t, t] }) (hu : P.underlying t = some (.slice 22)) (hsz : (P.info? 22).map (·.size) = some 1)
    {b g x k : Nat} (off n dLen dCap b0 off0 sLen sCap : Nat) (hd : a.eval d = .slice (some ⟨b, off, none⟩) dLen dCap) (hs : a.eval s = .slice (some ⟨b0, off0, none⟩) sLen sCap)
    (hP : Pre b g x k w) (hoff : off ≤ k) (hn : n = min sLen dLen) (hfit : off + n ≤ g) (hsrc : ∀ j, j < n → w.cell? ⟨b0, off0 + j, none⟩ = some (u64V x))
    (h : ∀ w', Pre b g x (off + n) w' → CpR b g x w w' → wpList P ops Q rest (a.put o.dst (.int .i64 n)) w') : wpList P ops Q (o :: rest) a w := by
  obtain ⟨cur, hA, hcs, hp⟩ := hP
  obtain ⟨h2, h3⟩ := copied hA hcs hp off hoff hfit
  refine wpList_copy_own hgd d s t t ho 22 hu hsz b off dLen dCap ⟨b0, off0, none⟩ sLen sCap hd hs cur 22 hA (List.replicate n (u64V x)) (by rw [List.length_replicate]; exact hn) (fun j v hj => ?_) (by rw [List.length_replicate, hcs]; exact hfit) (fun v hv => by rw [(List.mem_replicate.1 hv).2]; rfl) ?_
  · rw [List.getElem?_replicate] at hj
    split at hj
    · rename_i hjn
      cases hj
      have := hsrc j hjn
      by_cases hj0 : j = 0 <;> simp_all [Addr.add]
    · cases hj
  · have := h _ h2 h3
    simpa [goInt] using this
theorem Pre.src {b g x k : Nat} {w : World} (h : Pre b g x k w) : ∀ j, j < k → w.cell? ⟨b, 0 + j, none⟩ = some (u64V x) := fun j hj => by
  obtain ⟨cur, hA, _, hp⟩ := h
  rw [Nat.zero_add]; exact hA.cell (hp j hj)
theorem Pre.row {b g x : Nat} {w : World} (h : Pre b g x g w) : Row w b 22 (List.replicate g (u64V x)) := by
  obtain ⟨cur, hA, hs, hp⟩ := h
  refine ⟨cur, hA, ?_⟩
  have : cur.toList = List.replicate g (u64V x) := by
    apply List.ext_getElem?
    intro i
    by_cases hi : i < g
    · rw [Array.getElem?_toList, hp i hi, List.getElem?_replicate, if_pos hi]
    · rw [List.getElem?_eq_none (by simp; omega), List.getElem?_eq_none (by simp; omega)]
  rw [this]; exact List.prefix_refl _
theorem repeat_w (g x b0 : Nat) (h1 : 1 ≤ g) (hg : g ≤ 1024) (w : World) (hc0 : w.cell? ⟨b0, 0, none⟩ = some (.int .u64 x)) :
    Calls Tryd.prog 96 #[.slice (some ⟨b0, 0, none⟩) 1 1, .int .i64 g] w fun e w' => ∃ b, e = .returned (.slice (some ⟨b, 0, none⟩) g g) ∧ Row w' b 22 (List.replicate g (u64V x)) ∧ Ext w w' ∧ w.heap.size ≤ b := by
  have hb0 := cell_lt hc0
  go_enter Tryd.func96, Tryd.ntmps96
  go_upto_region 7 with (first
    | (go_at_call 111; refine (mul_w g hg _).mono ?_; rintro e w1 ⟨rfl, rfl⟩)
    | (at_make; refine makeL rfl _ _ 60 rfl 22 info22 Tryd.underlying60 (by decide) _ _ _ _ g rfl rfl rfl rfl (by omega) ?_; intro w1 hA1 hE1))
  have hc1 := hE1.cell hc0
  have hs0 : (madeCells (Value.int .u64 0).cells (g * 1)).size = g := by simp [madeCells]
  have hP1 : Pre w.heap.size g x 0 w1 := ⟨_, hA1, hs0, fun i hi => by omega⟩
  clear hA1 hs0
  have hsrc1 : ∀ j, j < 1 → w1.cell? ⟨b0, 0 + j, none⟩ = some (u64V x) := fun j hj => by
    obtain rfl : j = 0 := by omega
    exact hc1
  go_wp2_with (refine copyL rfl (.tmp 31) (.tmp 32) 60 rfl Tryd.underlying60 size22 0 1 g g b0 0 1 1 rfl rfl hP1 (Nat.le_refl _) (show 1 = min 1 g by omega) (by omega) hsrc1 ?_; intro w2 hP2 hC2; have hE2 : Ext w w2 := hE1.join hC2.kp (fun b hb e => by omega))
  have hE2 : Ext w w2 := hE1.join hC2.kp (fun b hb e => by omega)
  clear hC2 hP1 hE1 hc1 hsrc1
  go_loopw [8] (fun i wr => ∃ k : Nat, 1 ≤ k ∧ k ≤ g ∧ i = .int .i64 k ∧ Pre w.heap.size g x k wr ∧ Ext w wr) (fun i _ => g - (intOf i).toNat)
  case atStart => exact ⟨1, by omega, by omega, rfl, hP2, hE2⟩
  case round =>
    obtain ⟨k, hk1, hk, rfl, hP, hE⟩ := hrel
    by_cases hlt : k < g
    · obtain ⟨n, hn⟩ : ∃ n, n = min k (g - k) := ⟨_, rfl⟩
      have hn1 : 1 ≤ n := by omega
      have hkn : k + n ≤ g := by omega
      have HN := Lib.hid hn
      clear hn
      go_wp2
      apply Rg.regionL ((CpR w.heap.size g x)) [.c _ _, .c _ _, .c _ _, .c _ _, .c _ _, .c _ _, .c _ _, ⟨fun v W => v = .int .i64 (n : Nat) ∧ Pre w.heap.size g x (k + n) W, fun v W W' h hr => ⟨h.1, hr.pre _ h.2⟩⟩]
        [(some 38, 0), (some 39, 1), (some 40, 2), (some 41, 3), (some 42, 4), (some 43, 5), (some 44, 6), (some 45, 7)]
        [[], [], [], [(some 39, 1), (some 40, 2)], [], [], [(some 42, 4), (some 43, 5)], [(some 41, 3), (some 44, 6)]]
        (by kernel_rfl) (by kernel_rfl) (CpR.refl _ _ _) (CpR.trans _ _ _)
      case hops =>
        refine ⟨?_, ?_, ?_, ?_, ?_, ?_, ?_, ?_, trivial⟩
        · intro vs W hR 
          simp only [Rg.Deps, Rg.frameE, List.foldl]
          go_wp2
          exact ⟨_, rfl, (CpR.refl _ _ _) _, rfl⟩
        · intro vs W hR 
          simp only [Rg.Deps, Rg.frameE, List.foldl]
          go_wp2
          exact ⟨_, rfl, (CpR.refl _ _ _) _, rfl⟩
        · intro vs W hR 
          simp only [Rg.Deps, Rg.frameE, List.foldl]
          go_wp2
          exact ⟨_, rfl, (CpR.refl _ _ _) _, rfl⟩
        · intro vs W hR h1 h2
          replace h1 : vs 1 = _ := h1
          replace h2 : vs 2 = _ := h2
          simp only [Rg.Deps, Rg.frameE, List.foldl, h1, h2]
          go_wp2
          exact ⟨_, rfl, (CpR.refl _ _ _) _, rfl⟩
        · intro vs W hR 
          simp only [Rg.Deps, Rg.frameE, List.foldl]
          go_wp2
          exact ⟨_, rfl, (CpR.refl _ _ _) _, rfl⟩
        · intro vs W hR 
          simp only [Rg.Deps, Rg.frameE, List.foldl]
          go_wp2
          exact ⟨_, rfl, (CpR.refl _ _ _) _, rfl⟩
        · intro vs W hR h4 h5
          replace h4 : vs 4 = _ := h4
          replace h5 : vs 5 = _ := h5
          simp only [Rg.Deps, Rg.frameE, List.foldl, h4, h5]
          go_wp2
          exact ⟨_, rfl, (CpR.refl _ _ _) _, rfl⟩
        · intro vs W hR h3 h6
          replace h3 : vs 3 = _ := h3
          replace h6 : vs 6 = _ := h6
          have hPW := hR.pre k hP
          have hsr := hPW.src
          simp only [Rg.Deps, Rg.frameE, List.foldl, h3, h6]
          go_wp2_with (refine copyL rfl (.tmp 41) (.tmp 44) 60 rfl Tryd.underlying60 size22 k n _ _ _ 0 k _ rfl rfl hPW (Nat.le_refl _) HN.out hkn (fun j hj => hsr j (by have := HN.out; omega)) ?_; intro w3 hP3 hC3)
          exact ⟨_, rfl, hC3, rfl, hP3⟩
      case htail =>
        intro vs W hR h0 h1 h2 h3 h4 h5 h6 h7
        replace h0 : vs 0 = _ := h0
        replace h1 : vs 1 = _ := h1
        replace h2 : vs 2 = _ := h2
        replace h3 : vs 3 = _ := h3
        replace h4 : vs 4 = _ := h4
        replace h5 : vs 5 = _ := h5
        replace h6 : vs 6 = _ := h6
        obtain ⟨h7, hP7⟩ := h7
        simp only [Rg.Facts, Rg.frameE, List.foldl, List.drop, List.length, h0, h1, h2, h3, h4, h5, h6, h7]
        clear h0 h1 h2 h3 h4 h5 h6 h7
        simp only [Act.put, List.setIfInBounds_toArray, List.set_cons_zero, List.set_cons_succ]
        have hE7 : Ext w W := (Ext.trans _ _ _ hE (Ext.drew wr)).join hR.kp (fun b hb e => by omega)
        go_wp2
        go_roundw
        case rel => exact ⟨k + n, by omega, hkn, by go_num, hP7, hE7⟩
        case measure => simp [intOf]; omega
    · obtain rfl : k = g := by omega
      go_wp2
      go_ret
      exact ⟨_, rfl, hP.row, hE, Nat.le_refl _⟩
end Go.Proofs.YtiopkkjcgdcgmaaDoor
