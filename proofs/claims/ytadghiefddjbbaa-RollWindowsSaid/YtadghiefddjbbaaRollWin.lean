/- roll.Windows: a range over a function: the contract of the iterator that it hands back. No condition but sizes. -/
import Derived.RangeFuncNested
import Derived.RangeFuncBound
import Derived.RangeFuncCalls
import Derived.RangeFuncLeaves
import Derived.Shelf.Abstract
import Derived.Shelf.RegionOpen
import Derived.WalkKit
import Derived.OwnWalkIn
import Derived.TacticsInMore
import Derived.LoopNIn
import Derived.LoopIn
import Derived.IntWalk
import Derived.Test.YtadghiefddjbbaaRollWalk
set_option linter.unusedVariables false
set_option linter.unusedSimpArgs false
namespace Go.Proofs.Ytadghiefddjbbaa
open Go Go.RowKit Go.Shelf W
attribute [local go_sem] Oper.semAt_some
namespace Roll
/-- The windows' sums: the first k. -/
def upto (bs : List UInt8) (n k : Nat) : List (Nat × UInt32) := (List.range k).map fun j => (j, of ((bs.drop j).take n))
theorem upto_succ (bs : List UInt8) (n k : Nat) : upto bs n (k + 1) = upto bs n k ++ [(k, of ((bs.drop k).take n))] := by simp [upto, List.range_succ]
theorem upto_length (bs : List UInt8) (n k : Nat) : (upto bs n k).length = k := by simp [upto]
def enc (x : Nat × UInt32) : Array Value := #[.int .i64 (x.1 : Int), .int .u32 (n32 x.2)]
theorem gr_grown {w w' : World} (h : Gr w w') : w.grownBy w' none := ⟨h.os, h.tape, h.output, h.size, fun k hk _ => h.block k hk⟩
/-- The next window's sum. -/
theorem roll_next (bs : List UInt8) (n k : Nat) (hn : 1 ≤ n) (h : k + n < bs.length) (o i : UInt8) (ho : bs[k]? = some o) (hi : bs[k + n]? = some i) :
    roll (of ((bs.drop k).take n)) (UInt16.ofNat n) o i = of ((bs.drop (k + 1)).take n) := by
  obtain ⟨n, rfl⟩ : ∃ j, n = j + 1 := ⟨n - 1, by omega⟩
  have hk : k < bs.length := by omega
  have e1 : (bs.drop k).take (n + 1) = o :: (bs.drop (k + 1)).take n := by
    rw [List.drop_eq_getElem_cons hk, List.take_succ_cons]
    congr 1
    rw [List.getElem?_eq_getElem hk] at ho
    exact Option.some.inj ho
  have e2 : (bs.drop (k + 1)).take (n + 1) = (bs.drop (k + 1)).take n ++ [i] := by
    rw [List.take_add_one]
    congr 1
    rw [List.getElem?_drop, show k + 1 + n = k + (n + 1) from by omega, hi]
    rfl
  have e3 : ((bs.drop (k + 1)).take n).length = n := by simp; omega
  rw [e1, e2]
  have := roll_of o ((bs.drop (k + 1)).take n) i
  rw [e3] at this
  exact this

set_option maxRecDepth 100000 in
set_option maxHeartbeats 2000000 in
theorem windows1_in (m : Nat) (hm : 1 ≤ m) (l Bn Bb n₀ : Nat) (A : Option Addr) (c n : Nat) (bs : List UInt8) (hs : bs.length ≤ 1099511627776) (hc : bs.length ≤ c) (hcm : c ≤ maxLen) (hn1 : 1 ≤ n) (hn2 : n ≤ bs.length)
    (J Jx : List (Nat × UInt32) → World → Prop) (W : World) (hJ : AbidesFrom W.heap.size J)
    (hY : ∀ pre x W1, J pre W1 → pre.length < bs.length - n + 1 → YieldAt Fence.wide (m - 1) Try.prog l (enc x) W1 fun e W' =>
      (e = .returned (.bool true) ∧ J (pre ++ [x]) W' ∧ Below n₀ W1 W') ∨ (e = .returned (.bool false) ∧ Jx (pre ++ [x]) W'))
    (hBn : Bn < n₀) (hBb : Bb < n₀) (hn₀ : n₀ ≤ W.heap.size) (cn : W.cell? ⟨Bn, 0, none⟩ = some (.int .i64 (n : Int))) (cb : W.cell? ⟨Bb, 0, none⟩ = some (.slice A bs.length c)) (hr : RB W n₀ A bs) (h0 : J [] W) :
    CallsIn Fence.wide m Try.prog 18 #[.func (.yield l) #[] #[], .pointer (some ⟨Bn, 0, none⟩), .pointer (some ⟨Bb, 0, none⟩)] W fun e W' => (∃ v, e = .returned v) ∧
      ((∃ ys, ys = upto bs n (bs.length - n + 1) ∧ J ys W') ∨ (∃ pre, (∃ k, k ≤ bs.length - n + 1 ∧ pre = upto bs n k) ∧ Jx pre W')) := by
  have hof := Lib.hid (of_any A c n₀ (bs.take n) W (by simp; omega) hn₀ (hr.take hn2))
  have hro := Lib.hid (fun s o i w => roll_any s n o i w (by omega))
  have hrh := Lib.hid hr
  have hYh := Lib.hid hY
  have hJh := Lib.hid hJ
  clear hr hY hJ
  have g1 : ¬ ((n : Int) < 1) := by omega
  have g2 : ¬ ((bs.length : Int) < (n : Int)) := by omega
  have g3 : (n : Int) ≤ (c : Int) := by omega
  have g4 : 0 ≤ (n : Int) := by omega
  have lt : (bs.take n).length = n := by simp; omega
  rw [lt] at hof
  refine callsIn_of_wp Try.func18 rfl trivial ?_ rfl
  simp only [Try.ntmps18, List.size_toArray, List.length_cons, List.length_nil, Nat.reduceAdd, Nat.reduceSub, Array.replicate_succ, Array.replicate_zero, List.push_toArray, List.append_toArray, List.nil_append, List.cons_append]
  gi_wp2_with (refine ⟨trivial, ?_⟩; gi_at_call 7; refine (callsIn_wide.2 hof.out).mono ?_; clear hof; rintro e W0 ⟨rfl, hg0⟩; have hg0h := Lib.hid hg0; clear hg0)
  gi_loopw [5, 4] (fun i v wr => ∃ k : Nat, k + n ≤ bs.length ∧ i = .int .i64 (k : Int) ∧ v = .int .u32 (n32 (of ((bs.drop k).take n))) ∧ J (upto bs n k) wr ∧ Below n₀ W wr)
    (fun i _ _ => bs.length - (intOf i).toNat)
  case atStart => exact ⟨0, by omega, rfl, by simp, hJh.out _ _ _ none h0 (gr_grown hg0h.out) (by simp), hg0h.out.mono hn₀⟩
  case round =>
    obtain ⟨k, hk, rfl, rfl, hJs, hnx⟩ := hrel
    have hcn := fun w' (h : Below n₀ wr w') => ((hnx.trans h).cell (p := ⟨Bn, 0, none⟩) hBn).trans cn
    have hcb := fun w' (h : Below n₀ wr w') => ((hnx.trans h).cell (p := ⟨Bb, 0, none⟩) hBb).trans cb
    obtain ⟨fn, tmps, assign, body, hy, hR⟩ := hYh.out _ (k, of ((bs.drop k).take n)) wr hJs (by rw [upto_length]; omega)
    dsimp only [enc] at hy
    gi_wp2
    refine hR.mono ?_
    rintro e W3 (⟨rfl, hJ3, hk3⟩ | ⟨rfl, hJx3⟩)
    · have cn3 := hcn W3 hk3
      have cb3 := hcb W3 hk3
      have hr3 := hrh.out.below (hnx.trans hk3)
      by_cases hlt : k + n = bs.length
      · have e1 : ((n : Int) == (bs.length : Int) - (k : Int)) = true := by simp; omega
        gi_wp2
        refine bodyPost_ret (results_none rfl _ _ _) rfl ?_
        refine ⟨⟨_, rfl⟩, .inl ⟨_, rfl, ?_⟩⟩
        rw [show bs.length - n + 1 = k + 1 from by omega, upto_succ]
        exact hJ3
      · have e1 : ((n : Int) == (bs.length : Int) - (k : Int)) = false := by simp; omega
        obtain ⟨ad, rfl, hadb, hc1⟩ := hr3.at_ (k := k) (by omega)
        obtain ⟨ad2, e2, _, hc2⟩ := hr3.at_ (k := k + n) (by omega)
        obtain rfl := Option.some.inj e2
        have hc2' : W3.cell? (ad.add ((k : Int) + (n : Int)).toNat) = some (.int .u8 (n8 (bs[k + n]'(by omega)))) := by rw [show ((k : Int) + (n : Int)).toNat = k + n from by omega]; exact hc2
        have k1 : IntKind.i64.wrap ((k : Int) + (n : Int)) = (k : Int) + (n : Int) := IntWalk.i64_in _ (by omega)
        have k2 : 0 ≤ (k : Int) + (n : Int) := by omega
        have k3 : (k : Int) + (n : Int) < (bs.length : Int) := by omega
        have k4 : 0 ≤ (k : Int) := by omega
        have k5 : (k : Int) < (bs.length : Int) := by omega
        have k6 : (k : Int).toNat = k := by omega
        clear hr3 e2
        gi_wp2
        refine wpIn_wide.2 ?_
        go_quiet ((go_at_call 11; refine (hro.out _ _ _ _).mono ?_; rintro e w' ⟨rfl, rfl⟩; exact ⟨rfl, _, rfl⟩))
        rename_i nq
        rw [roll_next bs n k hn1 (by omega) _ _ (List.getElem?_eq_getElem (by omega)) (List.getElem?_eq_getElem (by omega))]
        clear hc1 hc2 hc2' cb3 cn3
        gi_wp2
        go_roundw
        case rel =>
          refine ⟨k + 1, by omega, by simp, rfl, ?_, below_drewN (hnx.trans hk3) _⟩
          rw [upto_succ]
          exact hJh.out _ _ _ none hJ3 (gr_grown (below_drewN (Below.refl _ _) _)) (by simp)
        case measure => simp [intOf]; omega
    · gi_wp2
      go_end0
      exact ⟨⟨_, rfl⟩, .inr ⟨_, ⟨k + 1, by omega, (upto_succ _ _ _).symm⟩, hJx3⟩⟩

set_option maxRecDepth 100000 in
set_option maxHeartbeats 1000000 in
theorem windows1_bad (m : Nat) (l Bn Bb : Nat) (A : Option Addr) (c len : Nat) (n : Int) (hn : n < 1 ∨ (len : Int) < n) (J : List (Nat × UInt32) → World → Prop) (W : World)
    (cn : W.cell? ⟨Bn, 0, none⟩ = some (.int .i64 n)) (cb : W.cell? ⟨Bb, 0, none⟩ = some (.slice A len c)) (h0 : J [] W) :
    CallsIn Fence.wide m Try.prog 18 #[.func (.yield l) #[] #[], .pointer (some ⟨Bn, 0, none⟩), .pointer (some ⟨Bb, 0, none⟩)] W fun e W' => (∃ v, e = .returned v) ∧ J [] W' := by
  refine callsIn_of_wp Try.func18 rfl trivial ?_ rfl
  simp only [Try.ntmps18, List.size_toArray, List.length_cons, List.length_nil, Nat.reduceAdd, Nat.reduceSub, Array.replicate_succ, Array.replicate_zero, List.push_toArray, List.append_toArray, List.nil_append, List.cons_append]
  by_cases g1 : n < 1
  · gi_wp2
    refine bodyPost_ret (results_none rfl _ _ _) rfl ?_
    exact ⟨⟨_, rfl⟩, h0⟩
  · have g2 : (len : Int) < n := by omega
    gi_wp2
    refine bodyPost_ret (results_none rfl _ _ _) rfl ?_
    exact ⟨⟨_, rfl⟩, h0⟩

set_option maxHeartbeats 1000000 in
/-- roll.Windows: two boxes; the function value captures both. -/
theorem windows_any (A : Option Addr) (len c : Nat) (n : Int) (w : World) :
    Calls Try.prog 12 #[.slice A len c, .int .i64 n] w fun e w' =>
      e = .returned (.func (.func 18) #[] #[.pointer (some ⟨w.heap.size + 1, 0, none⟩), .pointer (some ⟨w.heap.size, 0, none⟩)]) ∧
      w' = (w.alloc (.cells #[.slice A len c] 22)).alloc (.cells #[.int .i64 n] 3) := by
  have hmf : ∀ (fn : Fn) (first cap : Array Value) (w : World), (Instr.makeFunc fn first cap).run Try.prog w = .ok (.func fn first cap) w := fun _ _ _ _ => rfl
  go_enter Try.func12, Try.ntmps12
  go_wp2
  go_ret
  exact ⟨rfl, rfl⟩

/-- What the iterator tells, for whatever n: all of these. -/
def wins (bs : List UInt8) (n : Int) : List (Nat × UInt32) := if 1 ≤ n ∧ n ≤ bs.length then upto bs n.toNat (bs.length - n.toNat + 1) else []
theorem windows_stops (m : Nat) (hm : 1 ≤ m) (Bn Bb n₀ : Nat) (A : Option Addr) (c : Nat) (n : Int) (bs : List UInt8) (hs : bs.length ≤ 1099511627776) (hc : bs.length ≤ c) (hcm : c ≤ maxLen) (w : World)
    (hBn : Bn < n₀) (hBb : Bb < n₀) (hn₀ : n₀ ≤ w.heap.size) (cn : w.cell? ⟨Bn, 0, none⟩ = some (.int .i64 n)) (cb : w.cell? ⟨Bb, 0, none⟩ = some (.slice A bs.length c)) (hr : RB w n₀ A bs) :
    SeqStopsK Fence.wide m Try.prog 18 #[.pointer (some ⟨Bn, 0, none⟩), .pointer (some ⟨Bb, 0, none⟩)] enc (Below n₀) (fun ys => ys = wins bs n)
      (fun pre => ∃ k, k ≤ (wins bs n).length ∧ pre = (wins bs n).take k) (wins bs n).length w := fun l J Jx W hW hJ hJx hY h0 => by
  have hb := hW.mono hn₀
  have cn' := (hb.cell (p := ⟨Bn, 0, none⟩) hBn).trans cn
  have cb' := (hb.cell (p := ⟨Bb, 0, none⟩) hBb).trans cb
  by_cases h : 1 ≤ n ∧ n ≤ bs.length
  · obtain ⟨k, rfl⟩ : ∃ k : Nat, n = (k : Int) := ⟨n.toNat, by omega⟩
    have e : wins bs k = upto bs k (bs.length - k + 1) := by unfold wins; rw [if_pos h]; rfl
    rw [e] at hY ⊢
    simp only [upto_length] at hY ⊢
    refine (windows1_in m hm l Bn Bb n₀ A c k bs hs hc hcm (by omega) (by omega) J Jx W hJ hY hBn hBb (Nat.le_trans hn₀ hW.size) cn' cb' (hr.below hb) h0).mono ?_
    rintro e W' ⟨he, ⟨ys, rfl, hj⟩ | ⟨pre, ⟨j, hj1, rfl⟩, hj⟩⟩
    · exact ⟨he, .inl ⟨_, rfl, hj⟩⟩
    · refine ⟨he, .inr ⟨_, ⟨j, hj1, ?_⟩, hj⟩⟩
      unfold upto
      rw [← List.map_take, List.take_range, Nat.min_eq_left hj1]
  · have e : wins bs n = [] := by unfold wins; rw [if_neg h]
    refine (windows1_bad m l Bn Bb A c bs.length n (by omega) J W cn' cb' h0).mono ?_
    rintro e' W' ⟨he, hj⟩
    exact ⟨he, .inl ⟨_, rfl, by rw [e]; exact hj⟩⟩
end Roll
end Go.Proofs.Ytadghiefddjbbaa
