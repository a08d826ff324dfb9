/- The walk of patch's each: what it does with any deed. No condition but sizes. -/
import Derived.Test.YtgnogoghfendpaaPatRef
set_option linter.unusedVariables false
set_option linter.unusedSimpArgs false
namespace Go.Proofs.Ytgnogoghfendpaa
open Go Go.RowKit W Bl Tk
namespace Pt
/-- Each token in its turn, till a deed tells an error. -/
def Each (Rel : Nat → World → Prop) (Stop : Nat → World → Prop) (i : Nat) : Ending → World → Prop := fun e w' => ∃ code : Nat, e = .returned (.int .i64 (code : Int)) ∧ ((code = 0 ∧ Rel i w') ∨ (code ≠ 0 ∧ Stop code w'))
set_option maxRecDepth 100000 in
set_option maxHeartbeats 4000000 in
theorem each_any (A : Option Addr) (c : Nat) (l : List Tok) (w : World) (k : FuncId) (caps : Array Value) (Rel Stop : Nat → World → Prop) (hk40 : l.length ≤ 1000000)
    (hent : ∀ (v : Value) (w : World), (callFunc k (#[v] ++ caps)).run Try.prog w = .ok (.enter k (#[v] ++ caps)) w)
    (h0 : Rel 0 w) (hTR : ∀ i w', Rel i w' → TR w' w'.heap.size A l) (hgr : ∀ i w' w'', Rel i w' → Gr w' w'' → Rel i w'')
    (hdo : ∀ i (h : i < l.length) w', Rel i w' → Calls Try.prog k (#[tokV l[i]] ++ caps) w' (Each Rel Stop (i + 1))) :
    Calls Try.prog 20 #[.slice A l.length c, .func (.func k) #[] caps] w (Each Rel Stop l.length) := by
  have hdo' := Lib.hid hdo
  have hTR' := Lib.hid hTR
  have hgr' := Lib.hid hgr
  have h0' := Lib.hid h0
  clear hdo hTR hgr h0
  go_enter Try.func20, Try.ntmps20
  go_wp2
  go_loopw [6, 7, 10] (fun _ _ i wr => ∃ k : Nat, k ≤ l.length ∧ i = .int .i64 (k : Int) ∧ Rel k wr) (fun _ _ i _ => l.length - (intOf i).toNat)
  case atStart => exact ⟨0, by omega, rfl, h0'.out⟩
  case round =>
    obtain ⟨j, hj, rfl, hR⟩ := hrel
    by_cases h : j < l.length
    · obtain ⟨ad, hA, hlt, c0, c1, c2⟩ := (hTR'.out j wr hR).at_ h
      subst hA
      have hcall := Lib.hid (fun w' => hdo'.out j h w')
      have hR' := Lib.hid hR
      generalize l[j] = t at *
      obtain ⟨f, m, d⟩ := t
      simp only at c0 c1 c2
      clear hdo' hR
      go_wp2_with fail
      refine (hcall.out _ (hgr'.out j wr _ hR'.out (Gr.alloc (Gr.refl wr) _))).mono ?_
      rintro e w1 ⟨code, rfl, hc⟩
      rcases hc with ⟨hc0, hR1⟩ | ⟨hc0, hS1⟩
      · have hci : ((code : Int) == 0) = true := by simp [hc0]
        have hR1' := Lib.hid hR1
        clear hc0 hR1
        go_wp2
        go_roundw
        case rel => exact ⟨j + 1, by omega, by go_num, hR1'.out⟩
        case measure => simp [intOf]; omega
      · have hci : ((code : Int) == 0) = false := by rw [beq_eq_false_iff_ne]; omega
        have hS1' := Lib.hid hS1
        have hcH := Lib.hid hc0
        clear hc0 hS1
        go_wp2
        go_ret
        exact ⟨code, rfl, .inr ⟨hcH.out, hS1'.out⟩⟩
    · obtain rfl : j = l.length := by omega
      clear hdo' h0'
      go_wp2
      go_ret
      exact ⟨0, rfl, .inl ⟨rfl, hR⟩⟩
end Pt
end Go.Proofs.Ytgnogoghfendpaa

