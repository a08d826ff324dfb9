/- sketch.Shingles: a range over a function: the contract of the iterator that it hands back. No condition but sizes. -/
import Derived.RangeFuncNested
import Derived.RangeFuncBound
import Derived.RangeFuncCalls
import Derived.RangeFuncLeaves
import Derived.Shelf.Abstract
import Derived.Shelf.RegionOpen
import Derived.WalkKit
import Derived.OwnWalkIn
import Derived.TacticsInMore
import Derived.LoopNIn
import Derived.LoopIn
import Derived.IntWalk
import Derived.Test.YtogpcgbbifclmaaSketchRefB
set_option linter.unusedVariables false
set_option linter.unusedSimpArgs false
namespace Go.Proofs.Ytogpcgbbifclmaa
open Go Go.RowKit Go.Shelf W
attribute [local go_sem] Oper.semAt_some
namespace Sk
def enc (x : UInt64) : Array Value := #[.int .u64 (n64 x)]
theorem sh_succ (bs : List UInt8) (k : Nat) (h0 : 0 < bs.length) (hk : k + width bs ≤ bs.length) : (shingles bs).take (k + 1) = (shingles bs).take k ++ [word ((bs.drop k).take (width bs))] := by
  have hl := shingles_length bs
  rw [if_neg (by omega)] at hl
  have hlt : k < (shingles bs).length := by omega
  have hw : width bs ≤ bs.length := by unfold width; omega
  rw [List.take_succ_eq_append_getElem hlt]
  congr 2
  have e : shingles bs = (List.range (bs.length - width bs + 1)).map fun j => word (win bs j) := by unfold shingles; rw [if_neg (by omega)]
  have : (shingles bs)[k]? = some (word (win bs k)) := by
    rw [e, List.getElem?_map, List.getElem?_range (by omega)]
    rfl
  rw [List.getElem?_eq_getElem hlt] at this
  rw [Option.some.inj this]
  rfl

theorem word_at (A : Option Addr) (c B n : Nat) (l : List UInt8) (w : World) (hn : n = l.length) (hs : l.length ≤ 4) (hB : B ≤ w.heap.size) (hr : RB w B A l) :
    Calls Try.prog 15 #[.slice A n c] w fun e w' => e = .returned (.int .u64 (n64 (word l))) ∧ w = w' := by
  subst hn
  exact word_any A c B l w hs hB hr
set_option maxRecDepth 100000 in
set_option maxHeartbeats 2000000 in
theorem sh1_long (m : Nat) (hm : 1 ≤ m) (l Bb n₀ : Nat) (A : Option Addr) (c : Nat) (bs : List UInt8) (hs : bs.length ≤ 1099511627776) (hc : bs.length ≤ c) (hcm : c ≤ maxLen) (h0 : 0 < bs.length) (h4 : 4 ≤ bs.length)
    (Kp : World → World → Prop) (kr : ∀ W, Kp W W) (kt : ∀ {A B C : World}, Kp A B → Kp B C → Kp A C) (ks : ∀ {A B : World}, Kp A B → A.heap.size ≤ B.heap.size)
    (kc : ∀ {A B : World}, Kp A B → B.cell? ⟨Bb, 0, none⟩ = A.cell? ⟨Bb, 0, none⟩) (kb : ∀ {A B : World} {ad : Option Addr} {l : List UInt8}, Kp A B → RB A n₀ ad l → RB B n₀ ad l)
    (J Jx : List UInt64 → World → Prop) (W : World) (hJ : AbidesFrom W.heap.size J)
    (hY : ∀ pre x W1, J pre W1 → pre.length < (shingles bs).length → YieldAt Fence.wide (m - 1) Try.prog l (enc x) W1 fun e W' =>
      (e = .returned (.bool true) ∧ J (pre ++ [x]) W' ∧ Kp W1 W') ∨ (e = .returned (.bool false) ∧ Jx (pre ++ [x]) W'))
    (hn₀ : n₀ ≤ W.heap.size) (cb : W.cell? ⟨Bb, 0, none⟩ = some (.slice A bs.length c)) (hr : RB W n₀ A bs) (hJ0 : J [] W) :
    CallsIn Fence.wide m Try.prog 14 #[.func (.yield l) #[] #[], .pointer (some ⟨Bb, 0, none⟩)] W fun e W' => (∃ v, e = .returned v) ∧
      ((∃ ys, ys = shingles bs ∧ J ys W') ∨ (∃ pre, (∃ k, k ≤ (shingles bs).length ∧ pre = (shingles bs).take k) ∧ Jx pre W')) := by
  have hrh := Lib.hid hr
  have hYh := Lib.hid hY
  have hJh := Lib.hid hJ
  have hwd : width bs = 4 := by unfold width; omega
  have hsl := shingles_length bs
  rw [if_neg (by omega), hwd] at hsl
  have hslh := Lib.hid hsl
  have hwdh := Lib.hid hwd
  clear hr hY hJ hsl hwd
  have g1 : (4 : Int) ≤ (bs.length : Int) := by omega
  refine callsIn_of_wp Try.func14 rfl trivial ?_ rfl
  simp only [Try.ntmps14, List.size_toArray, List.length_cons, List.length_nil, Nat.reduceAdd, Nat.reduceSub, Array.replicate_succ, Array.replicate_zero, List.push_toArray, List.append_toArray, List.nil_append, List.cons_append]
  gi_wp2
  gi_loopw [4] (fun i wr => ∃ k : Nat, k ≤ (shingles bs).length ∧ i = .int .i64 (k : Int) ∧ J ((shingles bs).take k) wr ∧ Kp W wr)
    (fun i _ => bs.length + 1 - (intOf i).toNat)
  case atStart => exact ⟨0, by omega, rfl, by simpa using hJ0, kr _⟩
  case round =>
    obtain ⟨k, hk, rfl, hJs, hnx⟩ := hrel
    have cb1 := (kc hnx).trans cb
    by_cases hlt : k + 4 ≤ bs.length
    · obtain ⟨ad, hA, hadb, _⟩ := (kb hnx hrh.out).at_ (k := k) (by omega)
      subst hA
      have hrk : RB wr n₀ (some (ad.add k)) ((bs.drop k).take 4) := by
        have h1 := (kb hnx hrh.out).drop (k := k) (cap := c) (by omega) hc
        rw [if_neg (by omega)] at h1
        exact h1.take (by simp <;> omega)
      have e1 : (k : Int) ≤ (bs.length : Int) - 4 := by omega
      have e2 : (k : Int) + 4 ≤ (c : Int) := by omega
      have e3 : (k : Int) ≤ (k : Int) + 4 := by omega
      have e4 : 0 ≤ (k : Int) + 4 := by omega
      have e5 : ¬ (c : Int) ≤ (k : Int) := by omega
      have e6 : (k : Int).toNat = k := by omega
      have e7 : ((k : Int) + 4).toNat = k + 4 := by omega
      have e8 : k + 4 - k = 4 := by omega
      have e9 : ¬ c = k := by omega
      have e10 : ¬ c - k = 0 := by omega
      gi_wp2_with fail
      refine ⟨trivial, (callsIn_wide.2 (word_at _ _ n₀ 4 ((bs.drop k).take 4) wr (by simp; omega) (by simp; omega) (Nat.le_trans hn₀ (ks hnx)) (by exact hrk))).mono ?_⟩
      rintro e w' ⟨rfl, rfl⟩
      obtain ⟨fn, tmps, assign, body, hy, hR⟩ := hYh.out _ (word ((bs.drop k).take 4)) wr hJs (by rw [List.length_take, hslh.out]; omega)
      dsimp only [enc] at hy
      have hsucc := sh_succ bs k h0 (by rw [hwdh.out]; exact hlt)
      rw [hwdh.out] at hsucc
      replace hsucc := Lib.hid hsucc
      clear hrk
      gi_wp2
      refine hR.mono ?_
      rintro e W3 (⟨rfl, hJ3, hk3⟩ | ⟨rfl, hJx3⟩)
      · gi_wp2
        go_roundw
        case rel =>
          refine ⟨k + 1, by rw [hslh.out]; omega, by go_num, ?_, kt hnx hk3⟩
          rw [hsucc.out]
          exact hJ3
        case measure => simp [intOf] <;> omega
      · gi_wp2
        go_end0
        exact ⟨⟨_, rfl⟩, .inr ⟨_, ⟨k + 1, by rw [hslh.out]; omega, hsucc.out.symm⟩, hJx3⟩⟩
    · have e1 : ¬ (k : Int) ≤ (bs.length : Int) - 4 := by omega
      gi_wp2
      refine ⟨trivial, ?_⟩
      gi_wp2
      refine ⟨fun f h => (by cases h), ?_⟩
      gi_wp2
      go_end0
      refine ⟨⟨_, rfl⟩, .inl ⟨_, rfl, ?_⟩⟩
      rw [List.take_of_length_le (by rw [hslh.out]; omega)] at hJs
      exact hJs
set_option maxRecDepth 100000 in
set_option maxHeartbeats 2000000 in
theorem sh1_short (m : Nat) (hm : 1 ≤ m) (l Bb n₀ : Nat) (A : Option Addr) (c : Nat) (bs : List UInt8) (hs : bs.length ≤ 1099511627776) (hc : bs.length ≤ c) (hcm : c ≤ maxLen) (h0 : 0 < bs.length) (h4 : bs.length < 4)
    (Kp : World → World → Prop) (kr : ∀ W, Kp W W) (kt : ∀ {A B C : World}, Kp A B → Kp B C → Kp A C) (ks : ∀ {A B : World}, Kp A B → A.heap.size ≤ B.heap.size)
    (kc : ∀ {A B : World}, Kp A B → B.cell? ⟨Bb, 0, none⟩ = A.cell? ⟨Bb, 0, none⟩) (kb : ∀ {A B : World} {ad : Option Addr} {l : List UInt8}, Kp A B → RB A n₀ ad l → RB B n₀ ad l)
    (J Jx : List UInt64 → World → Prop) (W : World) (hJ : AbidesFrom W.heap.size J)
    (hY : ∀ pre x W1, J pre W1 → pre.length < (shingles bs).length → YieldAt Fence.wide (m - 1) Try.prog l (enc x) W1 fun e W' =>
      (e = .returned (.bool true) ∧ J (pre ++ [x]) W' ∧ Kp W1 W') ∨ (e = .returned (.bool false) ∧ Jx (pre ++ [x]) W'))
    (hn₀ : n₀ ≤ W.heap.size) (cb : W.cell? ⟨Bb, 0, none⟩ = some (.slice A bs.length c)) (hr : RB W n₀ A bs) (hJ0 : J [] W) :
    CallsIn Fence.wide m Try.prog 14 #[.func (.yield l) #[] #[], .pointer (some ⟨Bb, 0, none⟩)] W fun e W' => (∃ v, e = .returned v) ∧
      ((∃ ys, ys = shingles bs ∧ J ys W') ∨ (∃ pre, (∃ k, k ≤ (shingles bs).length ∧ pre = (shingles bs).take k) ∧ Jx pre W')) := by
  have hrh := Lib.hid hr
  have hYh := Lib.hid hY
  have hJh := Lib.hid hJ
  have hwd : width bs = bs.length := by unfold width; omega
  have hsl := shingles_length bs
  rw [if_neg (by omega), hwd] at hsl
  have hslh := Lib.hid hsl
  have hwdh := Lib.hid hwd
  clear hr hY hJ hsl hwd
  have g1 : ¬ (4 : Int) ≤ (bs.length : Int) := by omega
  refine callsIn_of_wp Try.func14 rfl trivial ?_ rfl
  simp only [Try.ntmps14, List.size_toArray, List.length_cons, List.length_nil, Nat.reduceAdd, Nat.reduceSub, Array.replicate_succ, Array.replicate_zero, List.push_toArray, List.append_toArray, List.nil_append, List.cons_append]
  gi_wp2
  gi_loopw [4] (fun i wr => ∃ k : Nat, k ≤ (shingles bs).length ∧ i = .int .i64 (k : Int) ∧ J ((shingles bs).take k) wr ∧ Kp W wr)
    (fun i _ => bs.length + 1 - (intOf i).toNat)
  case atStart => exact ⟨0, by omega, rfl, by simpa using hJ0, kr _⟩
  case round =>
    obtain ⟨k, hk, rfl, hJs, hnx⟩ := hrel
    have cb1 := (kc hnx).trans cb
    by_cases hlt : k + bs.length ≤ bs.length
    · obtain rfl : k = 0 := by omega
      obtain ⟨ad, hA, hadb, _⟩ := (kb hnx hrh.out).at_ (k := 0) (by omega)
      subst hA
      have hrk : RB wr n₀ (some ad) bs := by
        have h1 := (kb hnx hrh.out).drop (k := 0) (cap := c) (by omega) hc
        rw [if_neg (by omega), show (some ad).map (·.add 0) = some ad from by simp [Addr.add]] at h1
        rw [List.drop_zero] at h1; exact h1
      have e1 : (0 : Int) ≤ (bs.length : Int) - (bs.length : Int) := by omega
      have e2 : (0 : Int) + (bs.length : Int) ≤ (c : Int) := by omega
      have e3 : (0 : Int) ≤ (0 : Int) + (bs.length : Int) := by omega
      have e4 : 0 ≤ (0 : Int) + (bs.length : Int) := by omega
      have e5 : ¬ (c : Int) ≤ (0 : Int) := by omega
      have e6 : (0 : Int).toNat = 0 := by omega
      have e7 : ((0 : Int) + (bs.length : Int)).toNat = 0 + bs.length := by omega
      have e8 : 0 + bs.length - 0 = bs.length := by omega
      have e9 : ¬ c = 0 := by omega
      have e10 : ¬ c - 0 = 0 := by omega
      gi_wp2_with fail
      refine ⟨trivial, (callsIn_wide.2 (word_at _ _ n₀ bs.length bs wr rfl (by omega) (Nat.le_trans hn₀ (ks hnx)) (by exact hrk))).mono ?_⟩
      rintro e w' ⟨rfl, rfl⟩
      obtain ⟨fn, tmps, assign, body, hy, hR⟩ := hYh.out _ (word bs) wr hJs (by rw [List.length_take, hslh.out]; omega)
      dsimp only [enc] at hy
      have hsucc := sh_succ bs 0 h0 (by rw [hwdh.out]; exact hlt)
      rw [hwdh.out, List.drop_zero, List.take_length] at hsucc
      replace hsucc := Lib.hid hsucc
      clear hrk
      gi_wp2
      refine hR.mono ?_
      rintro e W3 (⟨rfl, hJ3, hk3⟩ | ⟨rfl, hJx3⟩)
      · gi_wp2
        go_roundw
        case rel =>
          refine ⟨0 + 1, by rw [hslh.out]; omega, by go_num, ?_, kt hnx hk3⟩
          rw [hsucc.out]
          exact hJ3
        case measure => simp [intOf] <;> omega
      · gi_wp2
        go_end0
        exact ⟨⟨_, rfl⟩, .inr ⟨_, ⟨0 + 1, by rw [hslh.out]; omega, hsucc.out.symm⟩, hJx3⟩⟩
    · have e1 : ¬ (k : Int) ≤ (bs.length : Int) - (bs.length : Int) := by omega
      gi_wp2
      refine ⟨trivial, ?_⟩
      gi_wp2
      refine ⟨fun f h => (by cases h), ?_⟩
      gi_wp2
      go_end0
      refine ⟨⟨_, rfl⟩, .inl ⟨_, rfl, ?_⟩⟩
      rw [List.take_of_length_le (by rw [hslh.out]; omega)] at hJs
      exact hJs

set_option maxRecDepth 100000 in
set_option maxHeartbeats 1000000 in
theorem sh1_nil (m : Nat) (l Bb : Nat) (A : Option Addr) (c : Nat) (J : List UInt64 → World → Prop) (W : World) (cb : W.cell? ⟨Bb, 0, none⟩ = some (.slice A 0 c)) (h0 : J [] W) :
    CallsIn Fence.wide m Try.prog 14 #[.func (.yield l) #[] #[], .pointer (some ⟨Bb, 0, none⟩)] W fun e W' => (∃ v, e = .returned v) ∧ J [] W' := by
  refine callsIn_of_wp Try.func14 rfl trivial ?_ rfl
  simp only [Try.ntmps14, List.size_toArray, List.length_cons, List.length_nil, Nat.reduceAdd, Nat.reduceSub, Array.replicate_succ, Array.replicate_zero, List.push_toArray, List.append_toArray, List.nil_append, List.cons_append]
  gi_wp2
  refine bodyPost_ret (results_none rfl _ _ _) rfl ?_
  exact ⟨⟨_, rfl⟩, h0⟩

set_option maxHeartbeats 1000000 in
/-- sketch.Shingles: a box; the function value captures it. -/
theorem shingles_any (A : Option Addr) (len c : Nat) (w : World) :
    Calls Try.prog 7 #[.slice A len c] w fun e w' =>
      e = .returned (.func (.func 14) #[] #[.pointer (some ⟨w.heap.size, 0, none⟩)]) ∧ w' = w.alloc (.cells #[.slice A len c] 22) := by
  have hmf : ∀ (fn : Fn) (first cap : Array Value) (w : World), (Instr.makeFunc fn first cap).run Try.prog w = .ok (.func fn first cap) w := fun _ _ _ _ => rfl
  go_enter Try.func7, Try.ntmps7
  go_wp2
  go_ret
  exact ⟨rfl, rfl⟩

theorem sh_stopsK (m : Nat) (hm : 1 ≤ m) (Bb n₀ : Nat) (A : Option Addr) (c : Nat) (bs : List UInt8) (hs : bs.length ≤ 1099511627776) (hc : bs.length ≤ c) (hcm : c ≤ maxLen) (w : World)
    (Kp : World → World → Prop) (kr : ∀ W, Kp W W) (kt : ∀ {A B C : World}, Kp A B → Kp B C → Kp A C) (ks : ∀ {A B : World}, Kp A B → A.heap.size ≤ B.heap.size)
    (kc : ∀ {A B : World}, Kp A B → B.cell? ⟨Bb, 0, none⟩ = A.cell? ⟨Bb, 0, none⟩) (kb : ∀ {A B : World} {ad : Option Addr} {l : List UInt8}, Kp A B → RB A n₀ ad l → RB B n₀ ad l)
    (hBb : Bb < w.heap.size) (hn₀ : n₀ ≤ w.heap.size) (cb : w.cell? ⟨Bb, 0, none⟩ = some (.slice A bs.length c)) (hr : RB w n₀ A bs) :
    SeqStopsK Fence.wide m Try.prog 14 #[.pointer (some ⟨Bb, 0, none⟩)] enc Kp (fun ys => ys = shingles bs)
      (fun pre => ∃ k, k ≤ (shingles bs).length ∧ pre = (shingles bs).take k) (shingles bs).length w := fun l J Jx W hW hJ hJx hY h0 => by
  have cb' := (hW.cell (p := ⟨Bb, 0, none⟩) hBb).trans cb
  have hn1 := Nat.le_trans hn₀ hW.size
  by_cases hz : bs.length = 0
  · have e : shingles bs = [] := by unfold shingles; rw [if_pos hz]
    rw [hz] at cb'
    refine (sh1_nil m l Bb A c J W cb' h0).mono ?_
    rintro e' W' ⟨he, hj⟩
    exact ⟨he, .inl ⟨_, rfl, by rw [e]; exact hj⟩⟩
  · by_cases h4 : 4 ≤ bs.length
    · exact sh1_long m hm l Bb n₀ A c bs hs hc hcm (by omega) h4 Kp kr kt ks kc kb J Jx W hJ hY hn1 cb' (hr.below (hW.mono hn₀)) h0
    · exact sh1_short m hm l Bb n₀ A c bs hs hc hcm (by omega) (by omega) Kp kr kt ks kc kb J Jx W hJ hY hn1 cb' (hr.below (hW.mono hn₀)) h0
theorem sh_stops (m : Nat) (hm : 1 ≤ m) (Bb n₀ : Nat) (A : Option Addr) (c : Nat) (bs : List UInt8) (hs : bs.length ≤ 1099511627776) (hc : bs.length ≤ c) (hcm : c ≤ maxLen) (w : World)
    (hBb : Bb < n₀) (hn₀ : n₀ ≤ w.heap.size) (cb : w.cell? ⟨Bb, 0, none⟩ = some (.slice A bs.length c)) (hr : RB w n₀ A bs) :
    SeqStopsK Fence.wide m Try.prog 14 #[.pointer (some ⟨Bb, 0, none⟩)] enc (Below n₀) (fun ys => ys = shingles bs)
      (fun pre => ∃ k, k ≤ (shingles bs).length ∧ pre = (shingles bs).take k) (shingles bs).length w :=
  sh_stopsK m hm Bb n₀ A c bs hs hc hcm w (Below n₀) (Below.refl _) (fun h k => h.trans k) (fun h => h.size) (fun h => h.cell (p := ⟨Bb, 0, none⟩) hBb) (fun h hr => hr.below h) (by omega) hn₀ cb hr
end Sk
end Go.Proofs.Ytogpcgbbifclmaa

