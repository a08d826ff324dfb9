/- What a call does, plainly; the calls of a link, whatever their arguments. No condition but sizes. -/
import Derived.Test.YtpkbdodclkgjpaaLnkNew
set_option linter.unusedVariables false
set_option linter.unusedSimpArgs false
namespace Go.Proofs.Ytpkbdodclkgjpaa
open Go Go.RowKit Go.Shelf W
namespace Ln
structure Ac where
  k : Int
  w : Int
  i : Int
  t : Int
  m : UInt32
  b : List UInt8
def doY (y : Way) (c : Ac) : Way × List UInt8 × Bool :=
  if c.k = 0 then (putW ⟨y.l, y.s + 1, y.x⟩ (c.b, false), [], true)
  else if h : c.i.toNat < y.l.length ∧ 0 ≤ c.i then
    if c.k = 1 then (⟨y.l.eraseIdx c.i.toNat, y.s, y.x⟩, (y.l[c.i.toNat]'h.1).1, true)
    else if c.k = 2 then (⟨y.l.eraseIdx c.i.toNat, y.s, y.x + 1⟩, [], true)
    else if c.k = 3 then (putW y (y.l[c.i.toNat]'h.1), [], true)
    else if (y.l[c.i.toNat]'h.1).2 then (y, [], false)
    else (⟨y.l.set c.i.toNat (Crc.turned (y.l[c.i.toNat]'h.1).1 c.t c.m, true), y.s, y.x⟩, [], true)
  else (y, [], false)
def doP (a b : Way) (c : Ac) : Way × Way × List UInt8 × Bool :=
  if c.w = 0 then ((doY a c).1, b, (doY a c).2) else if c.w = 1 then (a, (doY b c).1, (doY b c).2) else (a, b, [], false)
/-- A way of little. -/
structure Okw (y : Way) : Prop where
  l : y.l.length ≤ 16
  s : y.s < 1000000
  x : y.x < 1000000
  p : ∀ i (h : i < y.l.length), (y.l[i]).1.length ≤ 100
/-- What a call leaves. -/
def Left (w w' : World) (g : Nat) (a b : Way) : Prop := Lk w' g a b ∧ KT w w' ∧ Below g w w'
theorem Left.same {w : World} {g : Nat} {a b : Way} (h : Lk w g a b) : Left w w g a b := ⟨h, KT.refl w, Below.refl _ _⟩
theorem way_of {c : Ac} (h : c.w = 0 ∨ c.w = 1) : ∃ k : Nat, k < 2 ∧ c.w = (k : Int) ∧ ∀ a b, doP a b c = (setA k (doY (sel k a b) c).1 a, setB k (doY (sel k a b) c).1 b, (doY (sel k a b) c).2) := by
  rcases h with h | h
  · exact ⟨0, by omega, h, fun a b => by unfold doP; rw [if_pos h]; rfl⟩
  · exact ⟨1, by omega, h, fun a b => by unfold doP; rw [if_neg (by omega), if_pos h]; rfl⟩
theorem no_way {c : Ac} (h : ¬ (c.w = 0 ∨ c.w = 1)) (a b : Way) : doP a b c = (a, b, [], false) := by
  unfold doP; rw [if_neg (fun e => h (.inl e)), if_neg (fun e => h (.inr e))]
theorem sel_same (k : Nat) (a b : Way) : setA k (sel k a b) a = a ∧ setB k (sel k a b) b = b := by
  unfold setA setB sel
  by_cases h : k = 0 <;> simp [h]
theorem doY_out {y : Way} {c : Ac} (h0 : c.k ≠ 0) (h : ¬ (0 ≤ c.i ∧ c.i < (y.l.length : Int))) : doY y c = (y, [], false) := by
  unfold doY
  rw [if_neg h0, dif_neg (by omega)]
theorem drop_any {w : World} {g : Nat} {a b : Way} (h : Lk w g a b) (ha : Okw a) (hb : Okw b) (c : Ac) (hk : c.k = 2) :
    Calls Try.prog 16 #[.pointer (some ⟨g, 0, none⟩), .int .i64 c.w, .int .i64 c.i] w fun e w' => e = .returned (.bool (doP a b c).2.2.2) ∧ (doP a b c).2.2.1 = [] ∧ Left w w' g (doP a b c).1 (doP a b c).2.1 := by
  by_cases hw : c.w = 0 ∨ c.w = 1
  · obtain ⟨k, k2, hwk, hd⟩ := way_of hw
    rw [hd, hwk]
    have hs : Okw (sel k a b) := by unfold sel; split <;> assumption
    by_cases hi : 0 ≤ c.i ∧ c.i < ((sel k a b).l.length : Int)
    · have e : c.i = (c.i.toNat : Int) := by omega
      have e2 : doY (sel k a b) c = (⟨(sel k a b).l.eraseIdx c.i.toNat, (sel k a b).s, (sel k a b).x + 1⟩, [], true) := by
        unfold doY
        rw [if_neg (by omega), dif_pos (by omega), if_neg (by omega), if_pos hk]
      rw [e2]
      have := drop_k k2 w h c.i.toNat (by omega) (by have := hs.l; omega) (by have := hs.x; omega)
      rw [← e] at this
      exact this.mono fun e w' ⟨q1, q2⟩ => ⟨q1, rfl, q2⟩
    · rw [doY_out (by omega) hi, (sel_same k a b).1, (sel_same k a b).2]
      exact (drop_none _ _ _ w (noPk_out h k k2 c.i hi)).mono fun e w' ⟨q1, q2⟩ => ⟨q1, rfl, by rw [q2]; exact Left.same h⟩
  · rw [no_way hw]
    exact (drop_none _ _ _ w (noPk_way (noWay_out g c.w (by omega)) c.i w)).mono fun e w' ⟨q1, q2⟩ => ⟨q1, rfl, by rw [q2]; exact Left.same h⟩
theorem double_any {w : World} {g : Nat} {a b : Way} (h : Lk w g a b) (ha : Okw a) (hb : Okw b) (c : Ac) (hk : c.k = 3) :
    Calls Try.prog 17 #[.pointer (some ⟨g, 0, none⟩), .int .i64 c.w, .int .i64 c.i] w fun e w' => e = .returned (.bool (doP a b c).2.2.2) ∧ (doP a b c).2.2.1 = [] ∧ Left w w' g (doP a b c).1 (doP a b c).2.1 := by
  by_cases hw : c.w = 0 ∨ c.w = 1
  · obtain ⟨k, k2, hwk, hd⟩ := way_of hw
    rw [hd, hwk]
    have hs : Okw (sel k a b) := by unfold sel; split <;> assumption
    by_cases hi : 0 ≤ c.i ∧ c.i < ((sel k a b).l.length : Int)
    · have e : c.i = (c.i.toNat : Int) := by omega
      have e2 : doY (sel k a b) c = (putW (sel k a b) ((sel k a b).l[c.i.toNat]'(by omega)), [], true) := by
        unfold doY
        rw [if_neg (by omega), dif_pos (by omega), if_neg (by omega), if_neg (by omega), if_pos hk]
      rw [e2]
      have := double_k k2 w h c.i.toNat (by omega) (by have := hs.l; omega) (by have := hs.x; omega)
      rw [← e] at this
      exact this.mono fun e w' ⟨q1, q2⟩ => ⟨q1, rfl, q2⟩
    · rw [doY_out (by omega) hi, (sel_same k a b).1, (sel_same k a b).2]
      exact (double_none _ _ _ w (noPk_out h k k2 c.i hi)).mono fun e w' ⟨q1, q2⟩ => ⟨q1, rfl, by rw [q2]; exact Left.same h⟩
  · rw [no_way hw]
    exact (double_none _ _ _ w (noPk_way (noWay_out g c.w (by omega)) c.i w)).mono fun e w' ⟨q1, q2⟩ => ⟨q1, rfl, by rw [q2]; exact Left.same h⟩
theorem deliver_any {w : World} {g : Nat} {a b : Way} (h : Lk w g a b) (ha : Okw a) (hb : Okw b) (c : Ac) (hk : c.k = 1) :
    Calls Try.prog 15 #[.pointer (some ⟨g, 0, none⟩), .int .i64 c.w, .int .i64 c.i] w fun e w' => ∃ v, e = .returned (.tuple #[v, .bool (doP a b c).2.2.2]) ∧ OB 5 w' w.heap.size v (doP a b c).2.2.1 ∧ Left w w' g (doP a b c).1 (doP a b c).2.1 := by
  by_cases hw : c.w = 0 ∨ c.w = 1
  · obtain ⟨k, k2, hwk, hd⟩ := way_of hw
    rw [hd, hwk]
    have hs : Okw (sel k a b) := by unfold sel; split <;> assumption
    by_cases hi : 0 ≤ c.i ∧ c.i < ((sel k a b).l.length : Int)
    · have e : c.i = (c.i.toNat : Int) := by omega
      have e2 : doY (sel k a b) c = (⟨(sel k a b).l.eraseIdx c.i.toNat, (sel k a b).s, (sel k a b).x⟩, ((sel k a b).l[c.i.toNat]'(by omega)).1, true) := by
        unfold doY
        rw [if_neg (by omega), dif_pos (by omega), if_pos hk]
      rw [e2]
      have := deliver_k k2 w h c.i.toNat (by omega) (by have := hs.l; omega) (by have := hs.p c.i.toNat (by omega); omega)
      rw [← e] at this
      exact this.mono fun e w' ⟨v, q1, q2, q3⟩ => ⟨v, q1, q2, q3⟩
    · rw [doY_out (by omega) hi, (sel_same k a b).1, (sel_same k a b).2]
      exact (deliver_none _ _ _ w (noPk_out h k k2 c.i hi)).mono fun e w' ⟨q1, q2⟩ => ⟨_, q1, OB.nil_, by rw [q2]; exact Left.same h⟩
  · rw [no_way hw]
    exact (deliver_none _ _ _ w (noPk_way (noWay_out g c.w (by omega)) c.i w)).mono fun e w' ⟨q1, q2⟩ => ⟨_, q1, OB.nil_, by rw [q2]; exact Left.same h⟩
theorem send_any {w : World} {g : Nat} {a b : Way} (h : Lk w g a b) (ha : Okw a) (hb : Okw b) (c : Ac) (hk : c.k = 0) (hc : c.b.length ≤ 100) (Ab : Option Addr) (cb : Nat) (hub : UB w Ab c.b) :
    Calls Try.prog 14 #[.pointer (some ⟨g, 0, none⟩), .int .i64 c.w, .slice Ab c.b.length cb] w fun e w' => e = .returned (.tuple #[]) ∧ (doP a b c).2.2 = ([], decide (c.w = 0 ∨ c.w = 1)) ∧ Left w w' g (doP a b c).1 (doP a b c).2.1 := by
  by_cases hw : c.w = 0 ∨ c.w = 1
  · obtain ⟨k, k2, hwk, hd⟩ := way_of hw
    rw [hd, decide_eq_true hw, hwk]
    have hs : Okw (sel k a b) := by unfold sel; split <;> assumption
    have e2 : doY (sel k a b) c = (putW ⟨(sel k a b).l, (sel k a b).s + 1, (sel k a b).x⟩ (c.b, false), [], true) := by
      unfold doY
      rw [if_pos hk]
    rw [e2]
    exact (send_k k2 w h (by have := hs.l; omega) (by have := hs.s; omega) (by have := hs.x; omega) Ab cb c.b (by omega) hub).mono fun e w' ⟨q1, q2⟩ => ⟨q1, rfl, q2⟩
  · rw [no_way hw, decide_eq_false hw]
    exact (send_none _ _ _ (noWay_out g c.w (by omega)) w).mono fun e w' ⟨q1, q2⟩ => ⟨q1, rfl, by rw [q2]; exact Left.same h⟩
theorem turn_any {w : World} {g : Nat} {a b : Way} (h : Lk w g a b) (ha : Okw a) (hb : Okw b) (c : Ac) (h0 : c.k ≠ 0) (h1 : c.k ≠ 1) (h2 : c.k ≠ 2) (h3 : c.k ≠ 3) (ht1 : -9223372036854775808 ≤ c.t) (ht2 : c.t ≤ 9223372036854775807) :
    Calls Try.prog 18 #[.pointer (some ⟨g, 0, none⟩), .int .i64 c.w, .int .i64 c.i, .int .i64 c.t, .int .u32 (n32 c.m)] w fun e w' => e = .returned (.bool (doP a b c).2.2.2) ∧ (doP a b c).2.2.1 = [] ∧ Left w w' g (doP a b c).1 (doP a b c).2.1 := by
  by_cases hw : c.w = 0 ∨ c.w = 1
  · obtain ⟨k, k2, hwk, hd⟩ := way_of hw
    rw [hd, hwk]
    have hs : Okw (sel k a b) := by unfold sel; split <;> assumption
    by_cases hi : 0 ≤ c.i ∧ c.i < ((sel k a b).l.length : Int)
    · have e : c.i = (c.i.toNat : Int) := by omega
      cases ht : ((sel k a b).l[c.i.toNat]'(by omega)).2 with
      | true =>
        have e2 : doY (sel k a b) c = (sel k a b, [], false) := by
          unfold doY
          rw [if_neg h0, dif_pos (by omega), if_neg h1, if_neg h2, if_neg h3, if_pos ht]
        rw [e2]
        have := turn_done k2 w h c.i.toNat (by omega) ht c.t c.m
        rw [← e] at this
        exact this.mono fun e w' ⟨q1, q2⟩ => ⟨q1, rfl, by rw [q2, (sel_same k a b).1, (sel_same k a b).2]; exact Left.same h⟩
      | false =>
        have e2 : doY (sel k a b) c = (⟨(sel k a b).l.set c.i.toNat (Crc.turned ((sel k a b).l[c.i.toNat]'(by omega)).1 c.t c.m, true), (sel k a b).s, (sel k a b).x⟩, [], true) := by
          unfold doY
          rw [if_neg h0, dif_pos (by omega), if_neg h1, if_neg h2, if_neg h3, if_neg (by rw [ht]; simp)]
        rw [e2]
        have := turn_k k2 w h c.i.toNat (by omega) (by have := hs.l; omega) (by have := hs.p c.i.toNat (by omega); omega) ht c.t c.m ht1 ht2
        rw [← e] at this
        exact this.mono fun e w' ⟨q1, q2⟩ => ⟨q1, rfl, q2⟩
    · rw [doY_out (by omega) hi, (sel_same k a b).1, (sel_same k a b).2]
      exact (turn_none _ _ _ _ _ w (noPk_out h k k2 c.i hi)).mono fun e w' ⟨q1, q2⟩ => ⟨q1, rfl, by rw [q2]; exact Left.same h⟩
  · rw [no_way hw]
    exact (turn_none _ _ _ _ _ w (noPk_way (noWay_out g c.w (by omega)) c.i w)).mono fun e w' ⟨q1, q2⟩ => ⟨q1, rfl, by rw [q2]; exact Left.same h⟩
end Ln
end Go.Proofs.Ytpkbdodclkgjpaa

