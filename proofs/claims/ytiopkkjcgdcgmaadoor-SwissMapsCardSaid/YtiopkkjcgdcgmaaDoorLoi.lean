/- A map that a law owns: one word for all that its operations need. -/
import Derived.Test.YtiopkkjcgdcgmaaDoorMki
import Derived.Test.YtiopkkjcgdcgmaaDoorPk
namespace Go.Proofs.YtiopkkjcgdcgmaaDoor.i
open Go.RowKit Go.Rg Go.Nm Go.Gp Go.Mp
set_option maxHeartbeats 1000000
set_option maxRecDepth 20000
/-- A map m in the blocks f, all of them made behind w0; the world has else only grown. -/
structure Ow (w0 w : World) (f : Ft) (m : M Int) : Prop where
  is : Is w f m
  inv : Inv m
  own : ∀ k, f.fp k → w0.heap.size ≤ k
  ext : Ext w0 w
theorem Ow.alloc {w0 w : World} {f : Ft} {m : M Int} (h : Ow w0 w f m) (o : Obj) : Ow w0 (w.alloc o) f m := ⟨h.is.alloc o, h.inv, h.own, Kp.alloc h.ext o⟩
theorem Ow.next {w0 w w' : World} {f : Ft} {m : M Int} (h : Ow w0 w f m) (hE : Ext w w') : Ow w0 w' f m := ⟨h.is.ext hE, h.inv, h.own, Ext.trans _ _ _ h.ext hE⟩
/-- What another map's call keeps. -/
theorem Ow.kp {w0 w w' : World} {S : Nat → Prop} {f : Ft} {m : M Int} (h : Ow w0 w f m) (hK : Kp S w w') (hS : ∀ k, S k → w0.heap.size ≤ k) (hn : ∀ k, f.fp k → ¬ S k) : Ow w0 w' f m :=
  ⟨h.is.kp hK hn, h.inv, h.own, Kp.join h.ext hK (fun b hb hs => absurd (hS b hs) (by omega))⟩
theorem Sh.own {w0 w : World} (h : Sh w0) (hE : Ext w0 w) : Sh w := h.kp hE (fun f => f)
theorem new_o {w0 w w' : World} {f : Ft} {m : M Int} (hE : Ext w0 w) (hI : Is w' f m) (hm : Inv m) (hN : New w w' f) : Ow w0 w' f m :=
  ⟨hI, hm, fun k hk => Nat.le_trans hE.size (hN.2 k hk), Ext.trans _ _ _ hE hN.1⟩
theorem put_o {w0 w : World} {f : Ft} {m : M Int} (h : Ow w0 w f m) (hSh : Sh w0) (key : ByteArray) (hk : key.size ≤ maxLen) (v : Int) (hn : m.n < 2000) :
    Calls Tryd.prog 54 #[.pointer (some ⟨f.b, 0, none⟩), .string key, enc v] w fun e w' => e = .returned (.tuple #[.bool (look m key).isSome, .int .i64 0]) ∧
      ∃ f', From w f f' ∧ Ow w0 w' f' (put m key v).1 ∧ PutAs m key v (put m key v) ∧ Kp f.fp w w' := by
  have hp := put_spec h.inv key v hk hn
  refine (Put_w w f m h.is h.inv.small (Sh.own hSh h.ext) key hk v (rok' h.inv)).mono ?_
  rintro e w' ⟨rfl, f', hF, hI, hK⟩
  rw [hp.is]
  refine ⟨rfl, f', hF, ⟨hI, hp.inv, ?_, Kp.join h.ext hK (fun b hb hs => absurd (h.own b hs) (by omega))⟩, hp, hK⟩
  intro k hk
  rcases hF.2 k hk with h1 | h1
  · exact h.own k h1
  · exact Nat.le_trans h.ext.size h1
theorem del_o {w0 w : World} {f : Ft} {m : M Int} (h : Ow w0 w f m) (hSh : Sh w0) (key : ByteArray) (hk : key.size ≤ maxLen) :
    Calls Tryd.prog 56 #[.pointer (some ⟨f.b, 0, none⟩), .string key] w fun e w' => e = .returned (.bool (look m key).isSome) ∧
      Ow w0 w' f (del m key).1 ∧ DelAs m key (del m key) ∧ Kp f.fp w w' := by
  have hp := del_spec h.inv key
  refine (Del_w w f m h.is h.inv.small (Sh.own hSh h.ext) key hk).mono ?_
  rintro e w' ⟨rfl, hI, hK⟩
  rw [hp.is]
  exact ⟨rfl, ⟨hI, hp.inv, h.own, Kp.join h.ext hK (fun b hb hs => absurd (h.own b hs) (by omega))⟩, hp, hK⟩
theorem get_o {w0 w : World} {f : Ft} {m : M Int} (h : Ow w0 w f m) (key : ByteArray) (hk : key.size ≤ maxLen) :
    Calls Tryd.prog 55 #[.pointer (some ⟨f.b, 0, none⟩), .string key] w fun e w' => e = .returned (.tuple #[enc ((look m key).getD default), .bool (look m key).isSome]) ∧ Ow w0 w' f m ∧ Ext w w' := by
  refine (Get_w w f m h.is h.inv.small key hk).mono ?_
  rintro e w' ⟨rfl, hE⟩
  rw [get_look]
  exact ⟨rfl, h.next hE, hE⟩
theorem len_o {w0 w : World} {f : Ft} {m : M Int} (h : Ow w0 w f m) : Calls Tryd.prog 57 #[.pointer (some ⟨f.b, 0, none⟩)] w fun e w' => e = .returned (.int .i64 m.n) ∧ w = w' := Len_w w f m h.is h.inv.pw
theorem tombs_o {w0 w : World} {f : Ft} {m : M Int} (h : Ow w0 w f m) : Calls Tryd.prog 58 #[.pointer (some ⟨f.b, 0, none⟩)] w fun e w' => e = .returned (.int .i64 m.t) ∧ w = w' := Tombs_w w f m h.is h.inv.pw
theorem keys_o {w0 w : World} {f : Ft} {m : M Int} (h : Ow w0 w f m) : Calls Tryd.prog 60 #[.pointer (some ⟨f.b, 0, none⟩)] w fun e w' =>
    ∃ p cap, e = .returned (.slice p (keys m).length cap) ∧ w'.ownsRow w.heap.size 9 1 (.slice p (keys m).length cap) (keys m).length ((keys m).map strV) ∧ Ow w0 w' f m ∧ Ext w w' :=
  (Keys_w w f m h.is h.inv.small).mono fun e w' ⟨v, he, ho, hE⟩ => by
    obtain ⟨p, cap, rfl⟩ := row_shape ho
    exact ⟨p, cap, he, ho, h.next hE, hE⟩
theorem ctl_o {w0 w : World} {f : Ft} {m : M Int} (h : Ow w0 w f m) : Calls Tryd.prog 59 #[.pointer (some ⟨f.b, 0, none⟩)] w fun e w' =>
    ∃ p cap, e = .returned (.slice p m.ws.length cap) ∧ w'.ownsRow w.heap.size 22 1 (.slice p m.ws.length cap) m.ws.length (m.ws.map u64V) ∧ Ow w0 w' f m ∧ Ext w w' :=
  (Ctl_w w f m h.is h.inv.small).mono fun e w' ⟨v, he, ho, hE⟩ => by
    obtain ⟨p, cap, rfl⟩ := row_shape ho
    exact ⟨p, cap, he, ho, h.next hE, hE⟩
end Go.Proofs.YtiopkkjcgdcgmaaDoor.i
