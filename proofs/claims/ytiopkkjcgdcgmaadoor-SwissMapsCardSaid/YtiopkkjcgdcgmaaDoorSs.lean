/- The hash is a word. -/
import Derived.Test.YtiopkkjcgdcgmaaDoorSq
namespace Go.Proofs.YtiopkkjcgdcgmaaDoor
open Go.RowKit Go.Rg Go.Nm
theorem sip_ok (v : V4) (l : List UInt8) (hv : v.ok) : (sip v l).1.ok ∧ (sip v l).2.length < 8 := by
  fun_induction sip v l with
  | case1 v l h ih => exact ih (V4.take_ok hv (wordL_ltU (by simp; omega)))
  | case2 v l h => exact ⟨hv, show l.length < 8 by omega⟩
theorem sum_lt (k0 k1 : Nat) (h0 : k0 < U) (h1 : k1 < U) (l : List UInt8) : sum k0 k1 l < U := by
  unfold sum
  obtain ⟨a, b⟩ := sip_ok (sip0 k0 k1) l ⟨xor_lt h0 (by decide), xor_lt h1 (by decide), xor_lt h0 (by decide), xor_lt h1 (by decide)⟩
  have hm : wordL (sip (sip0 k0 k1) l).2 ||| l.length % 256 * 72057594037927936 < U := or_lt (wordL_ltU (by omega)) (by show _ < 18446744073709551616; omega)
  obtain ⟨x1, x2, x3, x4⟩ := V4.take_ok a hm
  have := V4.round_ok (V4.round_ok (V4.round_ok (V4.round_ok (v := { (sip (sip0 k0 k1) l).1.take (wordL (sip (sip0 k0 k1) l).2 ||| l.length % 256 * 72057594037927936) with c := ((sip (sip0 k0 k1) l).1.take (wordL (sip (sip0 k0 k1) l).2 ||| l.length % 256 * 72057594037927936)).c ^^^ 255 }) ⟨x1, x2, xor_lt x3 (by decide), x4⟩)))
  obtain ⟨y1, y2, y3, y4⟩ := this
  exact xor_lt (xor_lt (xor_lt y1 y2) y3) y4
end Go.Proofs.YtiopkkjcgdcgmaaDoor
