/- The walks of tokens: how many literal bytes. No condition but sizes. -/
import Derived.Test.YthacnfoeaefeiaaTokRows
set_option linter.unusedVariables false
set_option linter.unusedSimpArgs false
namespace Go.Proofs.Ythacnfoeaefeiaa
open Go Go.RowKit W
namespace Tk
/-- All of them lie in their ranges. -/
def Fits (l : List Tok) : Prop := l.length ≤ 1099511627776 ∧ ∀ t ∈ l, Fit t
theorem bytes_snoc (l : List Tok) (k : Nat) (h : k < l.length) : bytes (l.take (k + 1)) = bytes (l.take k) + if right l[k] then (l[k]).d.length else 0 := by
  rw [List.take_succ_eq_append_getElem h, bytes_append, bytes_one]
theorem bytes_le (l : List Tok) (hf : ∀ t ∈ l, Fit t) : bytes l ≤ l.length * 16384 := by
  induction l with
  | nil => simp [bytes]
  | cons t l ih =>
    have := ih (fun x hx => hf x (by simp [hx]))
    rw [show t :: l = [t] ++ l from rfl, bytes_append, bytes_one, List.length_append, List.length_singleton]
    cases hr : right t
    · simp only [Bool.false_eq_true, if_false]; omega
    · simp only [if_true]
      have := (right_fit hr).2
      omega
set_option maxHeartbeats 2000000 in
theorem bytes_any (A : Option Addr) (c : Nat) (l : List Tok) (w : World) (hl : TR w w.heap.size A l) (hf : Fits l) (hk40 : l.length ≤ 1000000) :
    Calls Try.prog 14 #[.slice A l.length c] w fun e w' => e = .returned (.int .i64 (bytes l : Int)) ∧ Gr w w' := by
  have hl' := Lib.hid hl
  have hf' := Lib.hid hf.2
  clear hl hf
  go_enter Try.func14, Try.ntmps14
  go_wp2
  go_loopw [3, 5, 8] (fun n _ i wr => ∃ k : Nat, k ≤ l.length ∧ i = .int .i64 (k : Int) ∧ n = .int .i64 (bytes (l.take k) : Int) ∧ Gr w wr) (fun _ _ i _ => l.length - (intOf i).toNat)
  case atStart => exact ⟨0, by omega, rfl, rfl, Gr.refl w⟩
  case round =>
    obtain ⟨k, hk, rfl, rfl, hg⟩ := hrel
    by_cases h : k < l.length
    · obtain ⟨ad, hA, hlt, c0, c1, c2⟩ := (hl'.out.below hg).at_ h
      subst hA
      have hb := bytes_snoc l k h
      have hbl := bytes_le (l.take k) (fun t ht => hf'.out t (List.mem_of_mem_take ht))
      rw [List.length_take] at hbl
      have hbl2 : bytes (l.take k) ≤ 1000000 * 16384 := Nat.le_trans hbl (Nat.mul_le_mul_right _ (by omega))
      have hfk := hf'.out l[k] (List.getElem_mem h)
      clear hbl
      generalize l[k] = t at *
      obtain ⟨f, m, d⟩ := t
      have hro := Lib.hid (fun w => right_any ⟨f, m, d⟩ w hfk)
      have hd := hfk.2.2.2.2
      simp only at c0 c1 c2 hb hd
      have ga := Lib.hid (Gr.alloc hg (.cells #[.int .i64 f, .int .i64 m, .string ⟨d.toArray⟩] 39))
      have bx := Lib.hid (Blk.new wr 39 #[.int .i64 f, .int .i64 m, .string ⟨d.toArray⟩])
      clear hg hfk
      cases hr : right ⟨f, m, d⟩
      · rw [hr] at hro hb
        replace hb := Lib.hid hb
        replace hr := Lib.hid hr
        go_wp2_with fail
        go_at_call 17
        refine (hro.out _).mono ?_
        rintro e w1 ⟨rfl, hg1⟩
        have g1 := Lib.hid (Gr.trans ga.out hg1)
        clear hro hg1 ga bx
        go_wp2
        go_roundw
        case rel => exact ⟨k + 1, by omega, by go_num, by rw [hb.out]; simp, g1.out⟩
        case measure => simp [intOf]; omega
      · rw [hr] at hro hb
        replace hb := Lib.hid hb
        replace hr := Lib.hid hr
        go_wp2_with fail
        go_at_call 17
        refine (hro.out _).mono ?_
        rintro e w1 ⟨rfl, hg1⟩
        have g1 := Lib.hid (Gr.trans ga.out hg1)
        have b1 := blk_more bx.out hg1
        have x2 := b1.cell 2
        clear hro hg1 ga bx b1
        go_wp2
        go_roundw
        case rel => exact ⟨k + 1, by omega, by go_num, by rw [hb.out]; simp, g1.out⟩
        case measure => simp [intOf]; omega
    · obtain rfl : k = l.length := by omega
      go_wp2
      go_ret
      exact ⟨by rw [List.take_length]; rfl, hg⟩
end Tk
end Go.Proofs.Ythacnfoeaefeiaa
