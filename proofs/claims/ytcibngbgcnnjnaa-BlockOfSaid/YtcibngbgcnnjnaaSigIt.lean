/- block.blocks: a range over a function that writes its own variable: the iterator's contract. No condition but sizes. -/
import Derived.Test.YtcibngbgcnnjnaaSigOne
import Derived.Test.YtcibngbgcnnjnaaBlkWalk
import Derived.Test.YtcibngbgcnnjnaaRangeBox
set_option linter.unusedVariables false
set_option linter.unusedSimpArgs false
namespace Go.Proofs.Ytcibngbgcnnjnaa
open Go Go.RowKit Go.Shelf W Bl
attribute [local go_sem] Oper.semAt_some
namespace Sg
def encB (A : Option Addr) (c L h : Nat) (k : Nat) : Array Value := #[.slice (A.map (·.add (k * h))) (min h (L - k * h)) (c - k * h)]
def leftB (Bb : Nat) (w : World) : Nat := match w.cell? ⟨Bb, 0, none⟩ with | some (.slice _ n _) => n | _ => 0
theorem leftB_eq {Bb : Nat} {w : World} {t : TypeId} {A : Option Addr} {n c : Nat} (h : Blk w Bb t #[.slice A n c]) : leftB Bb w = n := by
  unfold leftB
  rw [h.cell 0]
  rfl
set_option maxRecDepth 100000 in
set_option maxHeartbeats 2000000 in
theorem blocks1_in (m : Nat) (hm : 1 ≤ m) (l Bb Bs : Nat) (ad : Addr) (c : Nat) (L z : Nat) (hs : L ≤ 1000000) (hc : L ≤ c) (hcm : c ≤ maxLen) (h0 : 0 < L) (h4 : 4 ≤ z) (h64 : z ≤ 64)
    (Kp : World → World → Prop)
    (kb : ∀ {A B : World} {v : Value}, Kp A B → Blk A Bb 26 #[v] → Blk B Bb 26 #[v]) (kd : ∀ {A B : World} {v : Value}, Kp A B → Blk A Bs 3 #[v] → Blk B Bs 3 #[v])
    (J Jx : List Nat → World → Prop) (W : World) (hJ : Bears Bb J)
    (hY : ∀ pre x W1, J pre W1 → pre.length < count L z → YieldAt Fence.wide (m - 1) Try.prog l (encB (some ad) c L z x) W1 fun e W' =>
      (e = .returned (.bool true) ∧ J (pre ++ [x]) W' ∧ Kp W1 W') ∨ (e = .returned (.bool false) ∧ Jx (pre ++ [x]) W'))
    (b0 : Blk W Bb 26 #[.slice (some ad) L c]) (s0 : Blk W Bs 3 #[.int .i64 (z : Int)]) (hne : Bs ≠ Bb) (hJ0 : J [] W) :
    CallsIn Fence.wide m Try.prog 48 #[.func (.yield l) #[] #[], .pointer (some ⟨Bb, 0, none⟩), .pointer (some ⟨Bs, 0, none⟩)] W fun e W' => (∃ v, e = .returned v) ∧
      ((∃ ys, ys = List.range (count L z) ∧ J ys W') ∨ (∃ pre, (∃ k, k ≤ count L z ∧ pre = List.range k) ∧ Jx pre W')) := by
  have hYh := Lib.hid hY
  have hJh := Lib.hid hJ
  have hct := Lib.hid (fun k => count_lt (n := L) (h := z) (k := k) (by omega))
  clear hY hJ
  refine callsIn_of_wp Try.func48 rfl trivial ?_ rfl
  simp only [Try.ntmps48, List.size_toArray, List.length_cons, List.length_nil, Nat.reduceAdd, Nat.reduceSub, Array.replicate_succ, Array.replicate_zero, List.push_toArray, List.append_toArray, List.nil_append, List.cons_append]
  gi_wp2
  gi_loopw [4] (fun i wr => ∃ k Ak ck, k ≤ count L z ∧ Blk wr Bb 26 #[.slice Ak (L - k * z) ck] ∧ (k * z < L → Ak = some (ad.add (k * z)) ∧ ck = c - k * z) ∧ Blk wr Bs 3 #[.int .i64 (z : Int)] ∧ J (List.range k) wr)
    (fun i wr => leftB Bb wr)
  case atStart => exact ⟨0, some ad, c, by omega, by simpa using b0, fun _ => ⟨by simp [Addr.add], by simp⟩, s0, hJ0⟩
  case round =>
    clear b0 s0 hJ0
    obtain ⟨k, Ak, ck, hk, b1, hAk, s1, hJs⟩ := hrel
    have hlw := leftB_eq b1
    have c1 := b1.cell 0
    have d1 := s1.cell 0
    by_cases hlt : k * z < L
    · obtain ⟨rfl, rfl⟩ := hAk hlt
      have e1 : (0 : Int) < ((L - k * z : Nat) : Int) := by omega
      have hk1 : k < count L z := (hct.out k).2 hlt
      have hbk := Lib.hid (fun w' (h : Kp wr w') => kb h b1)
      have hsk := Lib.hid (fun w' (h : Kp wr w') => kd h s1)
      obtain ⟨fn, tmps, assign, body, hy, hR⟩ := hYh.out _ k wr hJs (by rw [List.length_range]; exact hk1)
      have hR := Lib.hid hR
      dsimp only [encB, Option.map] at hy
      clear hAk b1 s1
      by_cases hz : z ≤ L - k * z
      · have e2 : (z : Int) ≤ ((L - k * z : Nat) : Int) := by omega
        have e3 : (z : Int) ≤ ((c - k * z : Nat) : Int) := by omega
        have eN : L - (k + 1) * z = L - k * z - z := by rw [Nat.succ_mul]; omega
        have eC : c - (k + 1) * z = c - k * z - z := by rw [Nat.succ_mul]; omega
        rw [Nat.min_eq_left hz] at hy
        gi_wp2
        refine hR.out.mono ?_
        rintro e W3 (⟨rfl, hJ3, hk3⟩ | ⟨rfl, hJx3⟩)
        · have b3 := hbk.out W3 hk3
          have s3 := hsk.out W3 hk3
          have c3 := b3.cell 0
          have d3 := s3.cell 0
          have f3 := b3.frozen 0
          by_cases hcz : c - k * z = z
          · have hcz' : c - k * z - z = 0 := by omega
            gi_wp2
            refine ⟨⟨k + 1, _, _, by omega, by rw [eN]; exact b3.set_ 0 _, fun h => absurd h (by rw [Nat.succ_mul]; omega), s3.far hne _, by rw [List.range_succ]; exact hJh.out _ _ _ hJ3 ((Kb.refl _ _).set 0 _)⟩, ?_⟩
            rw [leftB_eq (b3.set_ 0 _)]
            omega
          · have hcz1 : ¬ c - k * z - z = 0 := by omega
            have hcz2 : ¬ ((c - k * z : Nat) : Int) ≤ (z : Int) := by omega
            gi_wp2
            refine ⟨⟨k + 1, _, _, by omega, by rw [eN]; exact b3.set_ 0 _, fun h => ⟨by rw [Nat.succ_mul, add_of_add], eC.symm⟩, s3.far hne _, by rw [List.range_succ]; exact hJh.out _ _ _ hJ3 ((Kb.refl _ _).set 0 _)⟩, ?_⟩
            rw [leftB_eq (b3.set_ 0 _)]
            omega
        · gi_wp2
          refine bodyPost_ret (results_none rfl _ _ _) rfl ?_
          exact ⟨⟨_, rfl⟩, .inr ⟨_, ⟨k + 1, by omega, List.range_succ.symm⟩, hJx3⟩⟩
      · have e2 : ¬ (z : Int) ≤ ((L - k * z : Nat) : Int) := by omega
        have e3 : ((L - k * z : Nat) : Int) ≤ ((c - k * z : Nat) : Int) := by omega
        have eN : L - (k + 1) * z = 0 := by rw [Nat.succ_mul]; omega
        rw [Nat.min_eq_right (by omega)] at hy
        gi_wp2
        refine hR.out.mono ?_
        rintro e W3 (⟨rfl, hJ3, hk3⟩ | ⟨rfl, hJx3⟩)
        · have b3 := hbk.out W3 hk3
          have s3 := hsk.out W3 hk3
          have c3 := b3.cell 0
          have d3 := s3.cell 0
          have f3 := b3.frozen 0
          by_cases hcz : c - k * z = L - k * z
          · have hcz' : c - k * z - (L - k * z) = 0 := by omega
            gi_wp2
            refine ⟨⟨k + 1, _, _, by omega, by rw [eN]; exact b3.set_ 0 _, fun h => absurd h (by rw [Nat.succ_mul]; omega), s3.far hne _, by rw [List.range_succ]; exact hJh.out _ _ _ hJ3 ((Kb.refl _ _).set 0 _)⟩, ?_⟩
            rw [leftB_eq (b3.set_ 0 _)]
            omega
          · have hcz1 : ¬ c - k * z - (L - k * z) = 0 := by omega
            have hcz2 : ¬ ((c - k * z : Nat) : Int) ≤ ((L - k * z : Nat) : Int) := by omega
            gi_wp2
            refine ⟨⟨k + 1, _, _, by omega, by rw [eN]; exact b3.set_ 0 _, fun h => absurd h (by rw [Nat.succ_mul]; omega), s3.far hne _, by rw [List.range_succ]; exact hJh.out _ _ _ hJ3 ((Kb.refl _ _).set 0 _)⟩, ?_⟩
            rw [leftB_eq (b3.set_ 0 _)]
            omega
        · gi_wp2
          refine bodyPost_ret (results_none rfl _ _ _) rfl ?_
          exact ⟨⟨_, rfl⟩, .inr ⟨_, ⟨k + 1, by omega, List.range_succ.symm⟩, hJx3⟩⟩
    · have hkN : k = count L z := by
        rcases Nat.lt_or_ge k (count L z) with h | h
        · exact absurd ((hct.out k).1 h) hlt
        · omega
      have eL : L - k * z = 0 := by omega
      have e1 : ¬ (0 : Int) < ((L - k * z : Nat) : Int) := by omega
      rw [eL] at c1
      clear hAk b1 s1
      subst hkN
      gi_wp2
      go_end0
      exact ⟨⟨_, rfl⟩, .inl hJs⟩
set_option maxRecDepth 100000 in
set_option maxHeartbeats 1000000 in
theorem blocks1_nil (m : Nat) (l Bb Bs : Nat) (A : Option Addr) (c : Nat) (P : World → Prop) (W : World) (cb : W.cell? ⟨Bb, 0, none⟩ = some (.slice A 0 c)) (h0 : P W) :
    CallsIn Fence.wide m Try.prog 48 #[.func (.yield l) #[] #[], .pointer (some ⟨Bb, 0, none⟩), .pointer (some ⟨Bs, 0, none⟩)] W fun e W' => (∃ v, e = .returned v) ∧ P W' := by
  refine callsIn_of_wp Try.func48 rfl trivial ?_ rfl
  simp only [Try.ntmps48, List.size_toArray, List.length_cons, List.length_nil, Nat.reduceAdd, Nat.reduceSub, Array.replicate_succ, Array.replicate_zero, List.push_toArray, List.append_toArray, List.nil_append, List.cons_append]
  gi_wp2
  gi_loopw [4] (fun i wr => wr = W) (fun i wr => 0)
  case atStart => rfl
  case round =>
    obtain rfl := hrel
    gi_wp2
    go_end0
    exact ⟨⟨_, rfl⟩, h0⟩
theorem count_zero {h : Nat} : count 0 h = 0 := by simp [count]
/-- The iterator's contract. -/
theorem blocks_seq (m : Nat) (hm : 1 ≤ m) (Bb Bs : Nat) (A : Option Addr) (c : Nat) (l : List UInt8) (B z : Nat) (hs : l.length ≤ 1000000) (hc : l.length ≤ c) (hcm : c ≤ maxLen) (h4 : 4 ≤ z) (h64 : z ≤ 64)
    (Kp : World → World → Prop)
    (kb : ∀ {A B : World} {v : Value}, Kp A B → Blk A Bb 26 #[v] → Blk B Bb 26 #[v]) (kd : ∀ {A B : World} {v : Value}, Kp A B → Blk A Bs 3 #[v] → Blk B Bs 3 #[v])
    (W : World) (b0 : Blk W Bb 26 #[.slice A l.length c]) (s0 : Blk W Bs 3 #[.int .i64 (z : Int)]) (hr : RB W B A l) (hne : Bs ≠ Bb) :
    SeqB Fence.wide m Try.prog 48 #[.pointer (some ⟨Bb, 0, none⟩), .pointer (some ⟨Bs, 0, none⟩)] (encB A c l.length z) Bb Kp (fun ys => ys = List.range (count l.length z))
      (fun pre => ∃ k, k ≤ count l.length z ∧ pre = List.range k) (count l.length z) W := fun lp J Jx hJ _ hY h0 => by
  rcases Nat.eq_zero_or_pos l.length with hz | hz
  · rw [hz] at b0 ⊢
    refine (blocks1_nil m lp Bb Bs A c (J []) W (b0.cell 0) h0).mono ?_
    rintro e W' ⟨he, hj⟩
    exact ⟨he, .inl ⟨_, rfl, by rw [count_zero]; exact hj⟩⟩
  · obtain ⟨ad, rfl, _, _⟩ := hr.at_ hz
    exact blocks1_in m hm lp Bb Bs ad c l.length z hs hc hcm hz h4 h64 Kp kb kd J Jx W hJ hY b0 s0 hne h0
set_option maxRecDepth 100000 in
set_option maxHeartbeats 1000000 in
/-- block.blocks: two boxes; the function value captures them. -/
theorem blocks_any (A : Option Addr) (len c : Nat) (z : Int) (n : Nat) (w : World) (hn : w.heap.size = n) :
    Calls Try.prog 28 #[.slice A len c, .int .i64 z] w fun e w' =>
      e = .returned (.func (.func 48) #[] #[.pointer (some ⟨n, 0, none⟩), .pointer (some ⟨n + 1, 0, none⟩)]) ∧ Blk w' n 26 #[.slice A len c] ∧ Blk w' (n + 1) 3 #[.int .i64 z] ∧ Gr w w' ∧ w'.heap.size = n + 2 := by
  subst hn
  have hmf : ∀ (fn : Fn) (first cap : Array Value) (w : World), (Instr.makeFunc fn first cap).run Try.prog w = .ok (.func fn first cap) w := fun _ _ _ _ => rfl
  have h1 := Lib.hid ((Blk.new w 26 #[.slice A len c]).alloc (.cells #[.int .i64 z] 3))
  have h2 := Blk.new (w.alloc (.cells #[.slice A len c] 26)) 3 #[.int .i64 z]
  rw [World.size_alloc] at h2
  replace h2 := Lib.hid h2
  go_enter Try.func28, Try.ntmps28
  go_wp2
  go_ret
  exact ⟨rfl, h1.out, h2.out, ((Gr.refl w).alloc _).alloc _, by simp⟩
end Sg
end Go.Proofs.Ytcibngbgcnnjnaa

