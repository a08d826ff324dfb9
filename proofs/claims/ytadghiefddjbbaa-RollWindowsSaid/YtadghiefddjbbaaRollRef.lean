/- The reference's Find. No condition but sizes. -/
import Derived.Test.YtadghiefddjbbaaRollFind
set_option linter.unusedVariables false
set_option linter.unusedSimpArgs false
namespace Go.Proofs.Ytadghiefddjbbaa
open Go Go.RowKit W
namespace Roll
def refTold : Option Nat → Int
  | none => -1
  | some k => k
theorem first_none {ps : List (Nat × UInt32)} {s : UInt32} (h : ∀ x ∈ ps, (x.2 == s) = false) : first ps s = none := by
  unfold first
  rw [List.find?_eq_none.2 (fun x hx => by rw [h x hx]; simp)]
  rfl
theorem first_at {bs : List UInt8} {n k m : Nat} {s : UInt32} (h : ∀ j, j < k → (of ((bs.drop j).take n) == s) = false) (hk : k < m) (he : (of ((bs.drop k).take n) == s) = true) : first (upto bs n m) s = some k := by
  obtain ⟨d, rfl⟩ : ∃ d, m = (k + 1) + d := ⟨m - (k + 1), by omega⟩
  have e : upto bs n (k + 1 + d) = upto bs n k ++ ((k, of ((bs.drop k).take n)) :: (List.range' (k + 1) d).map fun j => (j, of ((bs.drop j).take n))) := by
    unfold upto
    rw [List.range_eq_range', List.range_eq_range', ← List.range'_append_1, List.map_append, Nat.zero_add, ← List.range_eq_range', List.range_succ, List.map_append, List.append_assoc, List.range_eq_range']
    rfl
  unfold first
  rw [e, List.find?_append, List.find?_eq_none.2 (fun x hx => by
    obtain ⟨j, hj, rfl⟩ := List.mem_map.1 hx
    have := h j (List.mem_range.1 hj)
    simp only [this]
    decide)]
  simp [he]

set_option maxHeartbeats 2000000 in
theorem refFind_any (l : List UInt8) (n : Int) (hn : -9223372036854775808 ≤ n ∧ n ≤ 9223372036854775807) (s : UInt32) (w : World) (hs : l.length ≤ 4294967295) :
    Calls Try.prog 14 #[str l, .int .i64 n, .int .u32 (n32 s)] w fun e w' => e = .returned (.int .i64 (refTold (first (wins l n) s))) ∧ w = w' := by
  have hro := Lib.hid (fun l' w (h : l'.length ≤ 4294967295) => refOf_any l' w h)
  by_cases g : 1 ≤ n ∧ n ≤ l.length
  · obtain ⟨m, rfl⟩ : ∃ k : Nat, n = (k : Int) := ⟨n.toNat, by omega⟩
    have ew : wins l m = upto l m (l.length - m + 1) := by unfold wins; rw [if_pos g]; rfl
    obtain ⟨g1, g2⟩ := g
    rw [ew]
    clear ew
    go_enter Try.func14, Try.ntmps14
    go_wp2
    go_loop [6, 7] (fun r i => r = .int .i64 0 ∧ ∃ k : Nat, k ≤ l.length - m + 1 ∧ i = .int .i64 (k : Int) ∧ Hid (∀ j, j < k → (of ((l.drop j).take m) == s) = false)) (fun _ i => l.length - (intOf i).toNat)
    case atStart => exact ⟨rfl, 0, by omega, rfl, Lib.hid (fun j h => by omega)⟩
    case round =>
      obtain ⟨rfl, k, hk, rfl, hq⟩ := hrel
      by_cases hc : k ≤ l.length - m
      · have c1 : (k : Int) ≤ (l.length : Int) - (m : Int) := by omega
        have c2 : (k : Int) + (m : Int) ≤ (l.length : Int) := by omega
        go_wp2_with fail
        refine (hro.out _ _ (by simp; omega)).mono ?_
        rintro e w1 ⟨rfl, rfl⟩
        cases he : (of ((l.drop k).take m) == s)
        · go_wp2
          go_round
          case rel => exact ⟨rfl, k + 1, by omega, by simp, Lib.hid (fun j hj => by
            rcases Nat.lt_or_ge j k with h | h
            · exact hq.out j h
            · obtain rfl : j = k := by omega
              exact he)⟩
          case measure => simp [intOf]; omega
        · go_wp2
          go_ret
          rw [first_at hq.out (by omega) he]
          exact ⟨rfl, rfl⟩
      · have c1 : ¬ (k : Int) ≤ (l.length : Int) - (m : Int) := by omega
        go_wp2
        go_ret
        rw [first_none (fun x hx => by
          obtain ⟨j, hj, rfl⟩ := List.mem_map.1 hx
          exact hq.out j (by have := List.mem_range.1 hj; omega))]
        exact ⟨rfl, rfl⟩
  · have ew : wins l n = [] := by unfold wins; rw [if_neg g]
    rw [ew]
    clear ew
    go_enter Try.func14, Try.ntmps14
    go_wp2
    go_loop [6, 7] (fun r i => r = .int .i64 0 ∧ i = .int .i64 0) (fun _ i => 0)
    case atStart => exact ⟨rfl, rfl⟩
    case round =>
      obtain ⟨rfl, rfl⟩ := hrel
      by_cases g1 : 1 ≤ n
      · have g2 : ¬ 0 ≤ (l.length : Int) - n := by omega
        have g3 : ¬ n ≤ (l.length : Int) := by omega
        go_wp2
        go_ret
        exact ⟨rfl, rfl⟩
      · go_wp2
        go_ret
        exact ⟨rfl, rfl⟩
end Roll
end Go.Proofs.Ytadghiefddjbbaa
