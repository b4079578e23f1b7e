/- Are two lists alike? -/
import Derived.Test.YtiopkkjcgdcgmaaDoorRf
namespace Go.Proofs.YtiopkkjcgdcgmaaDoor
open Go.RowKit Go.Rg Go.Nm Go.Gp
set_option maxHeartbeats 1000000
set_option maxRecDepth 20000
/-- A slice that reads so (elements of one cell). -/
def Sl (w : World) (v : Value) (xs : List Value) : Prop :=
  ∃ p cap, v = .slice p xs.length cap ∧ ∀ j u, xs[j]? = some u → ∃ b o, p = some ⟨b, o, none⟩ ∧ w.cell? ⟨b, o + j, none⟩ = some u
theorem Sl.nil (w : World) : Sl w (.slice none 0 0) [] := ⟨none, 0, rfl, fun j u h => by simp at h⟩
theorem Sl.row {w : World} {base : Nat} {e : TypeId} {v : Value} {n : Nat} {xs : List Value} (h : w.ownsRow base e 1 v n xs) : Sl w v xs := by
  have hl : xs.length = n := by have := h.1; omega
  rcases h.2 with ⟨rfl, rfl⟩ | ⟨g, cap, cur, rfl, _⟩
  · exact ⟨none, 0, by rw [hl], fun j u hj => by rw [List.eq_nil_of_length_eq_zero hl] at hj; simp at hj⟩
  · refine ⟨_, cap, by rw [hl], fun j u hj => ⟨g, 0, rfl, ?_⟩⟩
    have := h.cells (g := g) rfl j u hj
    by_cases hj0 : j = 0 <;> simp_all [Addr.add]
theorem Sl.kp {S : Nat → Prop} {w w' : World} {v : Value} {xs : List Value} (h : Sl w v xs) (hk : Kp S w w') (hS : ∀ k, v.ownBlock = some k → ¬ S k) : Sl w' v xs := by
  obtain ⟨p, cap, rfl, hc⟩ := h
  refine ⟨p, cap, rfl, fun j u hj => ?_⟩
  obtain ⟨b, o, rfl, h1⟩ := hc j u hj
  exact ⟨b, o, rfl, hk.cell h1 (hS b rfl)⟩
theorem Sl.ext {w w' : World} {v : Value} {xs : List Value} (h : Sl w v xs) (hk : Ext w w') : Sl w' v xs := h.kp hk fun _ _ f => f
def u64V (n : Nat) : Value := .int .u64 (n : Int)

theorem take_succ_eq {α : Type} {a b : List α} {k : Nat} {x y : α} (h : a.take k = b.take k) (hx : a[k]? = some x) (hy : b[k]? = some y) (he : x = y) : a.take (k + 1) = b.take (k + 1) := by
  rw [List.take_add_one, List.take_add_one, h, hx, hy, he]
theorem ne_of_at {α : Type} {a b : List α} {k : Nat} {x y : α} (hx : a[k]? = some x) (hy : b[k]? = some y) (he : x ≠ y) : a ≠ b := fun e => by
  rw [e, hy] at hx; exact he (Option.some.inj hx).symm

theorem words_w (va vb : Value) (xa xb : List Nat) (w : World) (ha : Sl w va (xa.map u64V)) (hb : Sl w vb (xb.map u64V)) (hla : xa.length < 4611686018427387904) :
    Calls Tryd.prog 45 #[va, vb] w fun e w' => e = .returned (.bool (xa == xb)) ∧ Ext w w' := by
  obtain ⟨p, ca, rfl, hca⟩ := ha
  obtain ⟨q, cb, rfl, hcb⟩ := hb
  simp only [List.length_map]
  by_cases hl : xa.length = xb.length
  · have HR : Hid (xb.length = xa.length) := Lib.hid hl.symm
    rw [HR.out]
    obtain ⟨n, hn⟩ : ∃ n, Hid (xa.length = n) := ⟨_, Lib.hid rfl⟩
    rw [hn.out] at hla ⊢
    clear hl
    go_enter Tryd.func45, Tryd.ntmps45
    go_wp2
    go_loopw [13] (fun i wr => ∃ k : Nat, k ≤ n ∧ i = .int .i64 k ∧ Ext w wr ∧ Hid (xa.take k = xb.take k)) (fun i _ => n - (intOf i).toNat)
    case atStart => exact ⟨0, by omega, rfl, Ext.refl _, Lib.hid rfl⟩
    case round =>
      obtain ⟨k, hk, rfl, hE, HT⟩ := hrel
      by_cases hlt : k < n
      · obtain ⟨x, hx⟩ : ∃ x, xa[k]? = some x := ⟨xa[k]'(by rw [hn.out]; exact hlt), by simp [hn.out, hlt]⟩
        obtain ⟨y, hy⟩ : ∃ y, xb[k]? = some y := ⟨xb[k]'(by rw [HR.out, hn.out]; exact hlt), by simp [HR.out, hn.out, hlt]⟩
        obtain ⟨b1, o1, rfl, hc1⟩ := hca k (u64V x) (by simp [hx])
        obtain ⟨b2, o2, rfl, hc2⟩ := hcb k (u64V y) (by simp [hy])
        unfold u64V at hc1 hc2
        have c1 := hE.cell hc1
        have c2 := hE.cell hc2
        have HX := Lib.hid hx
        have HY := Lib.hid hy
        clear hx hy
        have hE1 := Ext.trans _ _ _ hE (Ext.drew wr)
        by_cases he : x = y
        · have HT' : Hid (xa.take (k + 1) = xb.take (k + 1)) := Lib.hid (take_succ_eq HT.out HX.out HY.out he)
          subst he
          go_wp2
          apply Rg.regionL (Ext) [.c _ _, .c _ _, .c _ _, .c _ _, .c _ _, .c _ _, .c _ _, .c _ _, .c _ _]
            [(some 16, 0), (some 17, 1), (some 18, 2), (some 19, 3), (some 20, 4), (some 21, 5), (some 22, 6), (some 23, 7), (some 24, 8)]
            [[], [], [(some 16, 0), (some 17, 1)], [(some 18, 2)], [], [], [(some 20, 4), (some 21, 5)], [(some 22, 6)], [(some 19, 3), (some 23, 7)]]
            (by kernel_rfl) (by kernel_rfl) Ext.refl Ext.trans
          case hops =>
            refine ⟨?_, ?_, ?_, ?_, ?_, ?_, ?_, ?_, ?_, trivial⟩
            · intro vs W hR 
              simp only [Rg.Deps, Rg.frameE, List.foldl]
              go_wp2
              exact ⟨_, rfl, Ext.refl _, rfl⟩
            · intro vs W hR 
              simp only [Rg.Deps, Rg.frameE, List.foldl]
              go_wp2
              exact ⟨_, rfl, Ext.refl _, rfl⟩
            · intro vs W hR h0 h1
              replace h0 : vs 0 = _ := h0
              replace h1 : vs 1 = _ := h1
              have fx0 := hR.cell c1
              have fx1 := hR.cell c2
              simp only [Rg.Deps, Rg.frameE, List.foldl, h0, h1]
              go_wp2
              exact ⟨_, rfl, Ext.refl _, rfl⟩
            · intro vs W hR h2
              replace h2 : vs 2 = _ := h2
              have fx0 := hR.cell c1
              have fx1 := hR.cell c2
              simp only [Rg.Deps, Rg.frameE, List.foldl, h2]
              go_wp2
              exact ⟨_, rfl, Ext.refl _, rfl⟩
            · intro vs W hR 
              simp only [Rg.Deps, Rg.frameE, List.foldl]
              go_wp2
              exact ⟨_, rfl, Ext.refl _, rfl⟩
            · intro vs W hR 
              simp only [Rg.Deps, Rg.frameE, List.foldl]
              go_wp2
              exact ⟨_, rfl, Ext.refl _, rfl⟩
            · intro vs W hR h4 h5
              replace h4 : vs 4 = _ := h4
              replace h5 : vs 5 = _ := h5
              have fx0 := hR.cell c1
              have fx1 := hR.cell c2
              simp only [Rg.Deps, Rg.frameE, List.foldl, h4, h5]
              go_wp2
              exact ⟨_, rfl, Ext.refl _, rfl⟩
            · intro vs W hR h6
              replace h6 : vs 6 = _ := h6
              have fx0 := hR.cell c1
              have fx1 := hR.cell c2
              simp only [Rg.Deps, Rg.frameE, List.foldl, h6]
              go_wp2
              exact ⟨_, rfl, Ext.refl _, rfl⟩
            · intro vs W hR h3 h7
              replace h3 : vs 3 = _ := h3
              replace h7 : vs 7 = _ := h7
              simp only [Rg.Deps, Rg.frameE, List.foldl, h3, h7]
              go_wp2
              exact ⟨_, rfl, Ext.refl _, rfl⟩
          case htail =>
            intro vs W hR h0 h1 h2 h3 h4 h5 h6 h7 h8
            replace h0 : vs 0 = _ := h0
            replace h1 : vs 1 = _ := h1
            replace h2 : vs 2 = _ := h2
            replace h3 : vs 3 = _ := h3
            replace h4 : vs 4 = _ := h4
            replace h5 : vs 5 = _ := h5
            replace h6 : vs 6 = _ := h6
            replace h7 : vs 7 = _ := h7
            replace h8 : vs 8 = _ := h8
            simp only [Rg.Facts, Rg.frameE, List.foldl, List.drop, List.length, h0, h1, h2, h3, h4, h5, h6, h7, h8]
            clear h0 h1 h2 h3 h4 h5 h6 h7 h8
            simp only [wpList, Act.put, List.setIfInBounds_toArray, List.set_cons_zero, List.set_cons_succ]
            have hE2 : Ext w W := Ext.trans _ _ _ hE1 hR
            go_wp2
            go_roundw
            case rel => exact ⟨k + 1, by omega, by go_num, hE2, HT'⟩
            case measure => simp [intOf]; omega
        · have hb1 : ((x : Int) == (y : Int)) = false := by simp; omega
          have HF : Hid ((xa == xb) = false) := Lib.hid (by simpa using ne_of_at HX.out HY.out he)
          clear he
          go_wp2
          apply Rg.regionL (Ext) [.c _ _, .c _ _, .c _ _, .c _ _, .c _ _, .c _ _, .c _ _, .c _ _, .c _ _]
            [(some 16, 0), (some 17, 1), (some 18, 2), (some 19, 3), (some 20, 4), (some 21, 5), (some 22, 6), (some 23, 7), (some 24, 8)]
            [[], [], [(some 16, 0), (some 17, 1)], [(some 18, 2)], [], [], [(some 20, 4), (some 21, 5)], [(some 22, 6)], [(some 19, 3), (some 23, 7)]]
            (by kernel_rfl) (by kernel_rfl) Ext.refl Ext.trans
          case hops =>
            refine ⟨?_, ?_, ?_, ?_, ?_, ?_, ?_, ?_, ?_, trivial⟩
            · intro vs W hR 
              simp only [Rg.Deps, Rg.frameE, List.foldl]
              go_wp2
              exact ⟨_, rfl, Ext.refl _, rfl⟩
            · intro vs W hR 
              simp only [Rg.Deps, Rg.frameE, List.foldl]
              go_wp2
              exact ⟨_, rfl, Ext.refl _, rfl⟩
            · intro vs W hR h0 h1
              replace h0 : vs 0 = _ := h0
              replace h1 : vs 1 = _ := h1
              have fx0 := hR.cell c1
              have fx1 := hR.cell c2
              simp only [Rg.Deps, Rg.frameE, List.foldl, h0, h1]
              go_wp2
              exact ⟨_, rfl, Ext.refl _, rfl⟩
            · intro vs W hR h2
              replace h2 : vs 2 = _ := h2
              have fx0 := hR.cell c1
              have fx1 := hR.cell c2
              simp only [Rg.Deps, Rg.frameE, List.foldl, h2]
              go_wp2
              exact ⟨_, rfl, Ext.refl _, rfl⟩
            · intro vs W hR 
              simp only [Rg.Deps, Rg.frameE, List.foldl]
              go_wp2
              exact ⟨_, rfl, Ext.refl _, rfl⟩
            · intro vs W hR 
              simp only [Rg.Deps, Rg.frameE, List.foldl]
              go_wp2
              exact ⟨_, rfl, Ext.refl _, rfl⟩
            · intro vs W hR h4 h5
              replace h4 : vs 4 = _ := h4
              replace h5 : vs 5 = _ := h5
              have fx0 := hR.cell c1
              have fx1 := hR.cell c2
              simp only [Rg.Deps, Rg.frameE, List.foldl, h4, h5]
              go_wp2
              exact ⟨_, rfl, Ext.refl _, rfl⟩
            · intro vs W hR h6
              replace h6 : vs 6 = _ := h6
              have fx0 := hR.cell c1
              have fx1 := hR.cell c2
              simp only [Rg.Deps, Rg.frameE, List.foldl, h6]
              go_wp2
              exact ⟨_, rfl, Ext.refl _, rfl⟩
            · intro vs W hR h3 h7
              replace h3 : vs 3 = _ := h3
              replace h7 : vs 7 = _ := h7
              simp only [Rg.Deps, Rg.frameE, List.foldl, h3, h7]
              go_wp2
              exact ⟨_, rfl, Ext.refl _, rfl⟩
          case htail =>
            intro vs W hR h0 h1 h2 h3 h4 h5 h6 h7 h8
            replace h0 : vs 0 = _ := h0
            replace h1 : vs 1 = _ := h1
            replace h2 : vs 2 = _ := h2
            replace h3 : vs 3 = _ := h3
            replace h4 : vs 4 = _ := h4
            replace h5 : vs 5 = _ := h5
            replace h6 : vs 6 = _ := h6
            replace h7 : vs 7 = _ := h7
            replace h8 : vs 8 = _ := h8
            simp only [Rg.Facts, Rg.frameE, List.foldl, List.drop, List.length, h0, h1, h2, h3, h4, h5, h6, h7, h8]
            clear h0 h1 h2 h3 h4 h5 h6 h7 h8
            simp only [wpList, Act.put, List.setIfInBounds_toArray, List.set_cons_zero, List.set_cons_succ]
            have hE2 : Ext w W := Ext.trans _ _ _ hE1 hR
            go_wp2
            go_ret
            exact ⟨by rw [HF.out]; rfl, hE2⟩
      · obtain rfl : k = n := by omega
        have HF : Hid ((xa == xb) = true) := Lib.hid (by
          have := HT.out
          rw [List.take_of_length_le (by rw [hn.out]; omega), List.take_of_length_le (by rw [HR.out, hn.out]; omega)] at this
          simpa using this)
        go_wp2
        go_ret
        exact ⟨by rw [HF.out]; rfl, hE⟩
  · have HF : Hid ((xa == xb) = false) := Lib.hid (by simpa using fun e => hl (by rw [e]))
    have hb1 : ((xa.length : Int) == (xb.length : Int)) = false := by simp; omega
    go_enter Tryd.func45, Tryd.ntmps45
    go_wp2
    go_ret
    exact ⟨by rw [HF.out]; rfl, Ext.refl _⟩
theorem ba_inj {x y : ByteArray} (h : x.toList = y.toList) : x = y := by
  rw [ByteArray.toList_eq, ByteArray.toList_eq] at h
  cases x; cases y; congr; exact Array.toList_inj.1 h
theorem ba_ne {x y : ByteArray} (h : x ≠ y) : (x.toList == y.toList) = false := by simpa using fun e => h (ba_inj e)
def strV (s : ByteArray) : Value := .string s
theorem texts_w (va vb : Value) (xa xb : List ByteArray) (w : World) (ha : Sl w va (xa.map strV)) (hb : Sl w vb (xb.map strV)) (hla : xa.length < 4611686018427387904) :
    Calls Tryd.prog 46 #[va, vb] w fun e w' => e = .returned (.bool (decide (xa = xb))) ∧ Ext w w' := by
  obtain ⟨p, ca, rfl, hca⟩ := ha
  obtain ⟨q, cb, rfl, hcb⟩ := hb
  simp only [List.length_map]
  by_cases hl : xa.length = xb.length
  · have HR : Hid (xb.length = xa.length) := Lib.hid hl.symm
    rw [HR.out]
    obtain ⟨n, hn⟩ : ∃ n, Hid (xa.length = n) := ⟨_, Lib.hid rfl⟩
    rw [hn.out] at hla ⊢
    clear hl
    go_enter Tryd.func46, Tryd.ntmps46
    go_wp2
    go_loopw [13] (fun i wr => ∃ k : Nat, k ≤ n ∧ i = .int .i64 k ∧ Ext w wr ∧ Hid (xa.take k = xb.take k)) (fun i _ => n - (intOf i).toNat)
    case atStart => exact ⟨0, by omega, rfl, Ext.refl _, Lib.hid rfl⟩
    case round =>
      obtain ⟨k, hk, rfl, hE, HT⟩ := hrel
      by_cases hlt : k < n
      · obtain ⟨x, hx⟩ : ∃ x, xa[k]? = some x := ⟨xa[k]'(by rw [hn.out]; exact hlt), by simp [hn.out, hlt]⟩
        obtain ⟨y, hy⟩ : ∃ y, xb[k]? = some y := ⟨xb[k]'(by rw [HR.out, hn.out]; exact hlt), by simp [HR.out, hn.out, hlt]⟩
        obtain ⟨b1, o1, rfl, hc1⟩ := hca k (strV x) (by simp [hx])
        obtain ⟨b2, o2, rfl, hc2⟩ := hcb k (strV y) (by simp [hy])
        unfold strV at hc1 hc2
        have c1 := hE.cell hc1
        have c2 := hE.cell hc2
        have HX := Lib.hid hx
        have HY := Lib.hid hy
        clear hx hy
        have hE1 := Ext.trans _ _ _ hE (Ext.drew wr)
        by_cases he : x = y
        · have HT' : Hid (xa.take (k + 1) = xb.take (k + 1)) := Lib.hid (take_succ_eq HT.out HX.out HY.out he)
          subst he
          go_wp2
          apply Rg.regionL (Ext) [.c _ _, .c _ _, .c _ _, .c _ _, .c _ _, .c _ _, .c _ _, .c _ _, .c _ _]
            [(some 16, 0), (some 17, 1), (some 18, 2), (some 19, 3), (some 20, 4), (some 21, 5), (some 22, 6), (some 23, 7), (some 24, 8)]
            [[], [], [(some 16, 0), (some 17, 1)], [(some 18, 2)], [], [], [(some 20, 4), (some 21, 5)], [(some 22, 6)], [(some 19, 3), (some 23, 7)]]
            (by kernel_rfl) (by kernel_rfl) Ext.refl Ext.trans
          case hops =>
            refine ⟨?_, ?_, ?_, ?_, ?_, ?_, ?_, ?_, ?_, trivial⟩
            · intro vs W hR 
              simp only [Rg.Deps, Rg.frameE, List.foldl]
              go_wp2
              exact ⟨_, rfl, Ext.refl _, rfl⟩
            · intro vs W hR 
              simp only [Rg.Deps, Rg.frameE, List.foldl]
              go_wp2
              exact ⟨_, rfl, Ext.refl _, rfl⟩
            · intro vs W hR h0 h1
              replace h0 : vs 0 = _ := h0
              replace h1 : vs 1 = _ := h1
              have fx0 := hR.cell c1
              have fx1 := hR.cell c2
              simp only [Rg.Deps, Rg.frameE, List.foldl, h0, h1]
              go_wp2
              exact ⟨_, rfl, Ext.refl _, rfl⟩
            · intro vs W hR h2
              replace h2 : vs 2 = _ := h2
              have fx0 := hR.cell c1
              have fx1 := hR.cell c2
              simp only [Rg.Deps, Rg.frameE, List.foldl, h2]
              go_wp2
              exact ⟨_, rfl, Ext.refl _, rfl⟩
            · intro vs W hR 
              simp only [Rg.Deps, Rg.frameE, List.foldl]
              go_wp2
              exact ⟨_, rfl, Ext.refl _, rfl⟩
            · intro vs W hR 
              simp only [Rg.Deps, Rg.frameE, List.foldl]
              go_wp2
              exact ⟨_, rfl, Ext.refl _, rfl⟩
            · intro vs W hR h4 h5
              replace h4 : vs 4 = _ := h4
              replace h5 : vs 5 = _ := h5
              have fx0 := hR.cell c1
              have fx1 := hR.cell c2
              simp only [Rg.Deps, Rg.frameE, List.foldl, h4, h5]
              go_wp2
              exact ⟨_, rfl, Ext.refl _, rfl⟩
            · intro vs W hR h6
              replace h6 : vs 6 = _ := h6
              have fx0 := hR.cell c1
              have fx1 := hR.cell c2
              simp only [Rg.Deps, Rg.frameE, List.foldl, h6]
              go_wp2
              exact ⟨_, rfl, Ext.refl _, rfl⟩
            · intro vs W hR h3 h7
              replace h3 : vs 3 = _ := h3
              replace h7 : vs 7 = _ := h7
              simp only [Rg.Deps, Rg.frameE, List.foldl, h3, h7]
              go_wp2
              exact ⟨_, rfl, Ext.refl _, rfl⟩
          case htail =>
            intro vs W hR h0 h1 h2 h3 h4 h5 h6 h7 h8
            replace h0 : vs 0 = _ := h0
            replace h1 : vs 1 = _ := h1
            replace h2 : vs 2 = _ := h2
            replace h3 : vs 3 = _ := h3
            replace h4 : vs 4 = _ := h4
            replace h5 : vs 5 = _ := h5
            replace h6 : vs 6 = _ := h6
            replace h7 : vs 7 = _ := h7
            replace h8 : vs 8 = _ := h8
            simp only [Rg.Facts, Rg.frameE, List.foldl, List.drop, List.length, h0, h1, h2, h3, h4, h5, h6, h7, h8]
            clear h0 h1 h2 h3 h4 h5 h6 h7 h8
            simp only [wpList, Act.put, List.setIfInBounds_toArray, List.set_cons_zero, List.set_cons_succ]
            have hE2 : Ext w W := Ext.trans _ _ _ hE1 hR
            go_wp2
            go_roundw
            case rel => exact ⟨k + 1, by omega, by go_num, hE2, HT'⟩
            case measure => simp [intOf]; omega
        · have hb1 : (x.toList == y.toList) = false := ba_ne he
          have HF : Hid ((decide (xa = xb)) = false) := Lib.hid (by simpa using ne_of_at HX.out HY.out he)
          clear he
          go_wp2
          apply Rg.regionL (Ext) [.c _ _, .c _ _, .c _ _, .c _ _, .c _ _, .c _ _, .c _ _, .c _ _, .c _ _]
            [(some 16, 0), (some 17, 1), (some 18, 2), (some 19, 3), (some 20, 4), (some 21, 5), (some 22, 6), (some 23, 7), (some 24, 8)]
            [[], [], [(some 16, 0), (some 17, 1)], [(some 18, 2)], [], [], [(some 20, 4), (some 21, 5)], [(some 22, 6)], [(some 19, 3), (some 23, 7)]]
            (by kernel_rfl) (by kernel_rfl) Ext.refl Ext.trans
          case hops =>
            refine ⟨?_, ?_, ?_, ?_, ?_, ?_, ?_, ?_, ?_, trivial⟩
            · intro vs W hR 
              simp only [Rg.Deps, Rg.frameE, List.foldl]
              go_wp2
              exact ⟨_, rfl, Ext.refl _, rfl⟩
            · intro vs W hR 
              simp only [Rg.Deps, Rg.frameE, List.foldl]
              go_wp2
              exact ⟨_, rfl, Ext.refl _, rfl⟩
            · intro vs W hR h0 h1
              replace h0 : vs 0 = _ := h0
              replace h1 : vs 1 = _ := h1
              have fx0 := hR.cell c1
              have fx1 := hR.cell c2
              simp only [Rg.Deps, Rg.frameE, List.foldl, h0, h1]
              go_wp2
              exact ⟨_, rfl, Ext.refl _, rfl⟩
            · intro vs W hR h2
              replace h2 : vs 2 = _ := h2
              have fx0 := hR.cell c1
              have fx1 := hR.cell c2
              simp only [Rg.Deps, Rg.frameE, List.foldl, h2]
              go_wp2
              exact ⟨_, rfl, Ext.refl _, rfl⟩
            · intro vs W hR 
              simp only [Rg.Deps, Rg.frameE, List.foldl]
              go_wp2
              exact ⟨_, rfl, Ext.refl _, rfl⟩
            · intro vs W hR 
              simp only [Rg.Deps, Rg.frameE, List.foldl]
              go_wp2
              exact ⟨_, rfl, Ext.refl _, rfl⟩
            · intro vs W hR h4 h5
              replace h4 : vs 4 = _ := h4
              replace h5 : vs 5 = _ := h5
              have fx0 := hR.cell c1
              have fx1 := hR.cell c2
              simp only [Rg.Deps, Rg.frameE, List.foldl, h4, h5]
              go_wp2
              exact ⟨_, rfl, Ext.refl _, rfl⟩
            · intro vs W hR h6
              replace h6 : vs 6 = _ := h6
              have fx0 := hR.cell c1
              have fx1 := hR.cell c2
              simp only [Rg.Deps, Rg.frameE, List.foldl, h6]
              go_wp2
              exact ⟨_, rfl, Ext.refl _, rfl⟩
            · intro vs W hR h3 h7
              replace h3 : vs 3 = _ := h3
              replace h7 : vs 7 = _ := h7
              simp only [Rg.Deps, Rg.frameE, List.foldl, h3, h7]
              go_wp2
              exact ⟨_, rfl, Ext.refl _, rfl⟩
          case htail =>
            intro vs W hR h0 h1 h2 h3 h4 h5 h6 h7 h8
            replace h0 : vs 0 = _ := h0
            replace h1 : vs 1 = _ := h1
            replace h2 : vs 2 = _ := h2
            replace h3 : vs 3 = _ := h3
            replace h4 : vs 4 = _ := h4
            replace h5 : vs 5 = _ := h5
            replace h6 : vs 6 = _ := h6
            replace h7 : vs 7 = _ := h7
            replace h8 : vs 8 = _ := h8
            simp only [Rg.Facts, Rg.frameE, List.foldl, List.drop, List.length, h0, h1, h2, h3, h4, h5, h6, h7, h8]
            clear h0 h1 h2 h3 h4 h5 h6 h7 h8
            simp only [wpList, Act.put, List.setIfInBounds_toArray, List.set_cons_zero, List.set_cons_succ]
            have hE2 : Ext w W := Ext.trans _ _ _ hE1 hR
            go_wp2
            go_ret
            exact ⟨by rw [HF.out]; rfl, hE2⟩
      · obtain rfl : k = n := by omega
        have HF : Hid ((decide (xa = xb)) = true) := Lib.hid (by
          have := HT.out
          rw [List.take_of_length_le (by rw [hn.out]; omega), List.take_of_length_le (by rw [HR.out, hn.out]; omega)] at this
          simpa using this)
        go_wp2
        go_ret
        exact ⟨by rw [HF.out]; rfl, hE⟩
  · have HF : Hid ((decide (xa = xb)) = false) := Lib.hid (by simpa using fun e => hl (by rw [e]))
    have hb1 : ((xa.length : Int) == (xb.length : Int)) = false := by simp; omega
    go_enter Tryd.func46, Tryd.ntmps46
    go_wp2
    go_ret
    exact ⟨by rw [HF.out]; rfl, Ext.refl _⟩
end Go.Proofs.YtiopkkjcgdcgmaaDoor
