/- The document's examples of layer 5: lives answers true. -/
import Derived.Test.YtiopkkjcgdcgmaaDoorLoi
import Derived.Laws.BytesArg
namespace Go.Proofs.YtiopkkjcgdcgmaaDoor.i
open Go.RowKit Go.Rg Go.Nm Go.Gp Go.Mp
set_option maxHeartbeats 1000000
set_option maxRecDepth 20000
/-- The letters. -/
def kb (j : Nat) : ByteArray := ⟨#[UInt8.ofNat (97 + j)]⟩
theorem kb_inj : ∀ i j : Fin 8, kb i.val = kb j.val → i = j := by decide
theorem kb_size (j : Nat) : (kb j).size ≤ maxLen := by show 1 ≤ maxLen; decide
structure LV (k : Nat) (m : M Int) : Prop where
  inv : Inv m
  n : m.n = k
  t : m.t = 0
  len : m.ws.length = if k ≤ 7 then 1 else 2
  look : ∀ j, j < 8 → look m (kb j) = if j < k then some (j : Int) else none
theorem pw1 : Pw 1 := ⟨0, by omega, rfl⟩
theorem lv0 : LV 0 (made 0 0 1) := ⟨made_inv (by decide) (by decide) pw1, rfl, rfl, rfl, fun j _ => by rw [made_look (by decide) (by decide) pw1]; simp⟩
theorem lvS {k : Nat} {m : M Int} (h : LV k m) (hk : k < 8) {r : M Int × Bool × Int} (hp : PutAs m (kb k) (k : Int) r) : LV (k + 1) r.1 := by
  have hl := h.look k hk
  rw [if_neg (by omega)] at hl
  refine ⟨hp.inv, ?_, hp.t h.t, ?_, ?_⟩
  · rw [hp.n, hl, h.n]; simp
  · have hn := h.n
    have ht := h.t
    have hlen := h.len
    rw [hp.len, hl]
    rw [if_pos (show k ≤ 7 by omega)] at hlen
    simp only [Option.isSome_none, Bool.false_eq_true, if_false]
    rw [hlen, hn, ht]
    by_cases h7 : k = 7
    · subst h7
      unfold newG
      rw [hlen, ht]; rfl
    · rw [if_neg (by omega), if_pos (by omega)]
  · intro j hj
    rw [hp.look]
    by_cases e : j = k
    · subst e; rw [if_pos rfl, if_pos (by omega)]
    · rw [if_neg (fun e' => e (congrArg Fin.val (kb_inj ⟨j, hj⟩ ⟨k, hk⟩ e'))), h.look j hj]
      by_cases h2 : j < k
      · rw [if_pos h2, if_pos (by omega)]
      · rw [if_neg h2, if_neg (by omega)]

theorem lives_w (w : World) (hSh : Sh w) : Calls Tryd.prog 15 #[] w fun e w' => e = .returned (.bool true) ∧ Ext w w' := by
  have hN := New_w 0 0 0 w
  rw [show need 0 = 1 from rfl] at hN
  go_enter Tryd.func15, Tryd.ntmps15
  go_wp2_with (first
    | (go_at_call 64; refine hN.mono ?_; rintro e w1 (⟨h, _⟩ | ⟨_, f0, rfl, hI, hNw⟩); exact absurd h (by decide)))
  have hO := new_o (Ext.refl w) hI (lv0).inv hNw
  clear hN hI hNw
  obtain ⟨b, hb⟩ : ∃ b, f0.b = b := ⟨_, rfl⟩
  rw [hb]
  have hL := lv0
  generalize (made 0 0 1 : M Int) = m0 at hO hL
  have HB := Lib.hid hb
  clear hb
  go_loopw [2, 3, 4] (fun i _ _ wr => ∃ (k : Nat) (f : Ft) (m : M Int), k ≤ 8 ∧ i = .int .i64 k ∧ Hid (f.b = b) ∧ Ow w wr f m ∧ LV k m) (fun i _ _ _ => 8 - (intOf i).toNat)
  case atStart => exact ⟨0, f0, m0, by omega, rfl, HB, hO, hL⟩
  case round =>
    clear hO hL HB
    obtain ⟨k, f, m, hk, rfl, HB, hO, hL⟩ := hrel
    by_cases h8 : k < 8
    · have hl := hL.look k h8
      rw [if_neg (by omega)] at hl
      have hput := fun w1 (h : Ow w w1 f m) => put_o h hSh (kb k) (kb_size k) (k : Int) (by rw [hL.n]; omega)
      rw [hl, HB.out] at hput
      unfold enc at hput
      have hconv : (convert 102 9 (.slice (some ⟨wr.heap.size, 0, none⟩) 1 1)).run Tryd.prog (wr.alloc (.cells #[.int .u8 (97 + (k : Int))] 5)) = .ok (.string (kb k)) (wr.alloc (.cells #[.int .u8 (97 + (k : Int))] 5)) := by
        rw [run_convert_bytes_arg (P := Tryd.prog) _ 102 5 Tryd.underlying102 Tryd.underlying5 wr.heap.size 0 1 1 [97 + (k : Int)] rfl (fun i hi => by
          obtain rfl : i = 0 := by omega
          exact (At.new wr #[.int .u8 (97 + (k : Int))] 5).cell rfl) 9 Tryd.underlying9]
        rw [show strOfNums [97 + (k : Int)] = kb k by
          unfold kb strOfNums; rw [show 97 + k = (97 + (k : Int)).toNat by omega]; rfl]
      go_wp2_with (first
        | (go_at_call 54; refine (hput _ (hO.alloc _)).mono ?_; rintro e w2 ⟨rfl, f2, hF, hO2, hp, hK⟩; clear hput hconv hl hO; have hL2 := lvS hL h8 hp; have HB2 := Lib.hid (hF.1.trans HB.out); generalize (put m (kb k) (k : Int)).1 = m2 at hO2 hL2; clear hp hF hK)
        | (go_at_call 59; have hlen := hL2.len; rw [if_pos (by omega)] at hlen; have hctl := ctl_o hO2; rw [hlen, HB2.out] at hctl; refine hctl.mono ?_; rintro e w3 ⟨pc, cc, rfl, _, hO3, _⟩; clear hlen hctl))
      · refine ⟨⟨k + 1, f2, m2, by omega, by go_num, HB2, hO3, hL2⟩, by simp [intOf]; omega⟩
      · refine ⟨⟨k + 1, f2, m2, by omega, by go_num, HB2, hO2, hL2⟩, by simp [intOf]; omega⟩
    · obtain rfl : k = 8 := by omega
      have hl := hL.look 2 (by omega)
      rw [if_pos (by omega)] at hl
      have hlen := hL.len
      rw [if_neg (by omega)] at hlen
      have hn := hL.n
      have hput := put_o hO hSh (kb 2) (kb_size 2) 9 (by rw [hn]; decide)
      rw [hl, HB.out] at hput
      unfold enc at hput
      go_wp2_with (first
        | (go_at_call 54; refine hput.mono ?_; rintro e w2 ⟨rfl, f2, hF, hO2, hp, hK⟩)
        | fail)
      have hg := hp.look (kb 2)
      rw [if_pos rfl] at hg
      have hn2 := hp.n
      rw [hl, hn] at hn2
      have hlen2 := hp.len
      rw [hl, hlen] at hlen2
      have hb2 := hF.1.trans HB.out
      generalize (put m (kb 2) 9).1 = m2 at *
      have hn3 : m2.n = 8 := by rw [hn2]; simp
      have hlen3 : m2.ws.length = 2 := by rw [hlen2]; simp
      have hget := fun w0 (h : Ow w w0 f2 m2) => get_o h (kb 2) (kb_size 2)
      have hlenC := fun w0 (h : Ow w w0 f2 m2) => len_o h
      have hctl := fun w0 (h : Ow w w0 f2 m2) => ctl_o h
      rw [hg, hb2] at hget
      rw [hn3, hb2] at hlenC
      rw [hlen3, hb2] at hctl
      unfold enc at hget
      clear hp hF hK hO hL hl hlen hn hput hg hn2 hlen2 hb2 hn3 hlen3
      go_wp2_with (first
        | (go_at_call 55; refine (hget _ hO2).mono ?_; rintro e w3 ⟨rfl, hO3, _⟩)
        | (go_at_call 57; refine (hlenC _ hO3).mono ?_; rintro e w4 ⟨rfl, rfl⟩)
        | (go_at_call 59; refine (hctl _ hO3).mono ?_; rintro e w5 ⟨pc, cc, rfl, _, hO5, _⟩))
      go_ret
      exact ⟨rfl, hO5.ext⟩
end Go.Proofs.YtiopkkjcgdcgmaaDoor.i
