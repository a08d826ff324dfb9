/- The walks of the texts of strong sums: reading, and the reference's writing and reading. No condition but sizes. -/
import Derived.Test.YtppoeneldilnjaaMixText
set_option linter.unusedVariables false
set_option linter.unusedSimpArgs false
namespace Go.Proofs.Ytppoeneldilnjaa
open Go Go.RowKit W
namespace Mix
/-- The lowest k half bytes' digits, the highest first. -/
def hexR (v : UInt64) : Nat → List UInt8
  | 0 => []
  | k + 1 => dg (nib v k) :: hexR v k
theorem nib_zero (v : UInt64) : nib v 0 = v := by unfold nib; simp
theorem nib_succ (v : UInt64) (k : Nat) : nib v k / 16 = nib v (k + 1) := by
  apply UInt64.toNat_inj.1
  unfold nib
  rw [UInt64.toNat_div, UInt64.toNat_ofNat', UInt64.toNat_ofNat']
  have h1 := v.toNat_lt
  have h2 : v.toNat / 2 ^ (4 * k) ≤ v.toNat := Nat.div_le_self _ _
  have h3 : v.toNat / 2 ^ (4 * (k + 1)) = v.toNat / 2 ^ (4 * k) / 16 := by rw [Nat.div_div_eq_div_mul, show 4 * (k + 1) = 4 * k + 4 by omega, Nat.pow_add]
  rw [h3, Nat.mod_eq_of_lt (by omega), Nat.mod_eq_of_lt (by omega)]
  rfl
theorem L_list (d e : Nat → UInt8) : L d e 16 = [d 0, d 1, d 2, d 3, d 4, d 5, d 6, d 7, d 8, d 9, d 10, d 11, d 12, d 13, d 14, d 15, e 0, e 1, e 2, e 3, e 4, e 5, e 6, e 7, e 8, e 9, e 10, e 11, e 12, e 13, e 14, e 15] := by
  simp [L, List.replicate]
theorem hexR_list (v : UInt64) : hexR v 16 = [up v 0, up v 1, up v 2, up v 3, up v 4, up v 5, up v 6, up v 7, up v 8, up v 9, up v 10, up v 11, up v 12, up v 13, up v 14, up v 15] := by
  simp only [hexR, up, Nat.reduceSub]
theorem L_all (v u : UInt64) : L (up v) (up u) 16 = hexR v 16 ++ hexR u 16 := by
  rw [L_list, hexR_list, hexR_list]
  rfl
@[simp] theorem hexR_length (v : UInt64) (k : Nat) : (hexR v k).length = k := by
  induction k with
  | zero => rfl
  | succ k ih => simp [hexR, ih]
theorem cut_all : ∀ m, m < 16 → List.take 1 (List.drop m [(48 : UInt8), 49, 50, 51, 52, 53, 54, 55, 56, 57, 97, 98, 99, 100, 101, 102]) = [digits.getD m 0] := by decide
theorem dg_cut (x : UInt64) (m : Nat) (h : x.toNat % 16 = m) (hm : m < 16) : List.take 1 (List.drop m [(48 : UInt8), 49, 50, 51, 52, 53, 54, 55, 56, 57, 97, 98, 99, 100, 101, 102]) = [dg x] := by
  rw [cut_all m hm, ← h]
  rfl
set_option maxHeartbeats 400000 in
theorem hex_any (v : UInt64) (w : World) : Calls Try.prog 33 #[.int .u64 (n64 v)] w fun e' w' => e' = .returned (str (hexR v 16)) ∧ w = w' := by
  go_enter Try.func33, Try.ntmps33
  go_wp2
  go_loop [0, 4, 5] (fun v' o i => ∃ k : Nat, k ≤ 16 ∧ v' = .int .u64 (n64 (nib v k)) ∧ o = .string ⟨(hexR v k).toArray⟩ ∧ i = .int .i64 k) (fun _ _ i => 16 - (intOf i).toNat)
  case atStart => exact ⟨0, Nat.zero_le _, by rw [nib_zero], rfl, rfl⟩
  case round =>
    obtain ⟨k, hk, rfl, rfl, rfl⟩ := hrel
    by_cases h : k < 16
    · have hm := Lib.hid (nib_succ v k)
      have hh := Lib.hid (show hexR v (k + 1) = dg (nib v k) :: hexR v k from rfl)
      obtain ⟨m, hm1⟩ : ∃ m, (nib v k).toNat % 16 = m := ⟨_, rfl⟩
      have hm2 : m < 16 := by rw [← hm1]; exact Nat.mod_lt _ (by omega)
      have hm3 : n64 (nib v k % 16) = (m : Int) := by
        unfold n64
        rw [UInt64.toNat_mod]
        show (((nib v k).toNat % 16 : Nat) : Int) = _
        rw [hm1]
      have hx := dg_cut (nib v k) m hm1 hm2
      clear hm1
      have ho := hexR_length v k
      generalize nib v k = y at *
      generalize hexR v k = out at *
      go_wp2
      go_round
      case rel => exact ⟨k + 1, by omega, by rw [hm.out], by rw [hh.out], by go_num⟩
      case measure => simp [intOf]; omega
    · have hk' : k = 16 := by omega
      subst hk'
      go_wp2
      go_ret
      exact ⟨rfl, rfl⟩

theorem refText_any (s : St) (w : World) : Calls Try.prog 24 #[sumV s] w fun e' w' => e' = .returned (str (hexR s.1 16 ++ hexR s.2 16)) ∧ Gr w w' := by
  have hb0 := Blk.new w 26 #[.int .u64 (n64 s.1), .int .u64 (n64 s.2)]
  have hg1 : Gr w (w.alloc (.cells #[.int .u64 (n64 s.1), .int .u64 (n64 s.2)] 26)) := (Gr.refl w).alloc _
  go_enter Try.func24, Try.ntmps24
  go_wp2
  generalize w.alloc (.cells #[.int .u64 (n64 s.1), .int .u64 (n64 s.2)] 26) = w1 at *
  have hlt : w.heap.size < w1.heap.size := hb0.lt
  have hc0 : w1.cell? ⟨w.heap.size, 0, none⟩ = some (.int .u64 (n64 s.1)) := hb0.cell 0
  have hc1 : w1.cell? ⟨w.heap.size, 1, none⟩ = some (.int .u64 (n64 s.2)) := hb0.cell 1
  refine region_grow (by kernel_rfl) (by kernel_rfl) ?_
  refine GW.p1 (.pointer (some ⟨w.heap.size, 0, none⟩)) rfl trivial (kn0 (t := 1) (c := .pointer (some ⟨w.heap.size, 0, none⟩)) (by kernel_rfl) rfl) (fun ρ w' hρ hg => by simp [execOp, hρ, go_sem]) ?_
  refine GW.ldAt ((n64 (s.1))) rfl trivial rfl Try.underlying24 (kn (t := 3) (j := 0) (by kernel_rfl)) (hc0) (by omega) ?_
  refine GW.call1 (eqv (str (hexR s.1 16))) rfl trivial rfl Try.func33 (by kernel_rfl) (by kernel_rfl) (eqv_lasts _) (kn (t := 4) (j := 1) (by kernel_rfl)) (fun v w' hg hv => ?_) ?_
  · obtain rfl : v = _ := hv
    refine (hex_any _ w').mono ?_
    rintro e w2 ⟨rfl, rfl⟩
    exact ⟨_, rfl, rfl, Gr.refl _⟩
  refine GW.p1 (.pointer (some ⟨w.heap.size, 1, none⟩)) rfl trivial (kn0 (t := 1) (c := .pointer (some ⟨w.heap.size, 0, none⟩)) (by kernel_rfl) rfl) (fun ρ w' hρ hg => by simp [execOp, hρ, go_sem]) ?_
  refine GW.ldAt ((n64 (s.2))) rfl trivial rfl Try.underlying24 (kn (t := 6) (j := 3) (by kernel_rfl)) (hc1) (by omega) ?_
  refine GW.call1 (eqv (str (hexR s.2 16))) rfl trivial rfl Try.func33 (by kernel_rfl) (by kernel_rfl) (eqv_lasts _) (kn (t := 7) (j := 4) (by kernel_rfl)) (fun v w' hg hv => ?_) ?_
  · obtain rfl : v = _ := hv
    refine (hex_any _ w').mono ?_
    rintro e w2 ⟨rfl, rfl⟩
    exact ⟨_, rfl, rfl, Gr.refl _⟩
  refine GW.cat (hexR s.1 16) (hexR s.2 16) (by first | omega | (simp; done) | (simp; omega)) rfl trivial rfl (kn (t := 5) (j := 2) (by kernel_rfl)) (kn (t := 8) (j := 5) (by kernel_rfl)) ?_
  refine GW.mv rfl trivial (.inr rfl) (kn (t := 9) (j := 6) (by kernel_rfl)) (eqv_lasts _) ?_
  refine GW.done (by simp) (by kernel_rfl) (fun w' hg => ?_)
  intro v0 _ v1 _ v2 _ v3 _ v4 _ v5 _ v6 _ v7 h7
  obtain rfl : v7 = (str ((hexR s.1 16) ++ (hexR s.2 16))) := h7
  simp only [GFin, Act.put, List.setIfInBounds_toArray, List.set_cons_succ, List.set_cons_zero]
  have hg2 : Gr w w' := hg1.trans hg
  clear hb0 hc0 hc1 hg1 hg
  go_wp2
  go_ret
  exact ⟨rfl, hg2⟩

/-- A digit's value. -/
def val (c : UInt8) : Option UInt64 := if 48 ≤ c.toNat ∧ c.toNat ≤ 57 then some ((c.toUInt64 - 48) % 256) else if 97 ≤ c.toNat ∧ c.toNat ≤ 102 then some ((c.toUInt64 - 97) % 256 + 10) else none
def valV : Option UInt64 → Value
  | some n => .tuple #[.int .u64 (n64 n), .bool true]
  | none => .tuple #[.int .u64 0, .bool false]
theorem val_ways (c : UInt8) : (n8 c < 48 ∧ val c = none) ∨ ((48 : Int) ≤ n8 c ∧ n8 c ≤ 57 ∧ val c = some ((c.toUInt64 - 48) % 256)) ∨ ((57 : Int) < n8 c ∧ n8 c < 97 ∧ val c = none) ∨
    ((97 : Int) ≤ n8 c ∧ n8 c ≤ 102 ∧ val c = some ((c.toUInt64 - 97) % 256 + 10)) ∨ ((102 : Int) < n8 c ∧ val c = none) := by
  unfold n8 val
  rcases (show c.toNat < 48 ∨ (48 ≤ c.toNat ∧ c.toNat ≤ 57) ∨ (57 < c.toNat ∧ c.toNat < 97) ∨ (97 ≤ c.toNat ∧ c.toNat ≤ 102) ∨ 102 < c.toNat by omega) with h | h | h | h | h
  · exact .inl ⟨by omega, by rw [if_neg (by omega), if_neg (by omega)]⟩
  · exact .inr (.inl ⟨by omega, by omega, by rw [if_pos h]⟩)
  · exact .inr (.inr (.inl ⟨by omega, by omega, by rw [if_neg (by omega), if_neg (by omega)]⟩))
  · exact .inr (.inr (.inr (.inl ⟨by omega, by omega, by rw [if_neg (by omega), if_pos h]⟩)))
  · exact .inr (.inr (.inr (.inr ⟨by omega, by rw [if_neg (by omega), if_neg (by omega)]⟩)))
theorem value_any (c : UInt8) (w : World) : Calls Try.prog 31 #[.int .u8 (n8 c)] w fun e' w' => e' = .returned (valV (val c)) ∧ w = w' := by
  rcases val_ways c with ⟨h1, hv⟩ | ⟨h1, h2, hv⟩ | ⟨h1, h2, hv⟩ | ⟨h1, h2, hv⟩ | ⟨h1, hv⟩ <;> rw [hv] <;> clear hv
  all_goals
    go_enter Try.func31, Try.ntmps31
    go_wp2
    go_ret2
    exact ⟨rfl, rfl⟩
/-- Reading on: the number so far, and one digit more. -/
def numStep (n : Option UInt64) (c : UInt8) : Option UInt64 := n.bind fun n => (val c).map fun v => n * 16 + v
def num (l : List UInt8) : Option UInt64 := l.foldl numStep (some 0)
theorem foldl_none (l : List UInt8) : l.foldl numStep none = none := by
  induction l with
  | nil => rfl
  | cons c l ih => exact ih
theorem num_snoc (l : List UInt8) (k : Nat) (h : k < l.length) : num (l.take (k + 1)) = numStep (num (l.take k)) l[k] := by
  unfold num
  rw [List.take_succ_eq_append_getElem h, List.foldl_append]
  rfl
theorem num_stops (l : List UInt8) (k : Nat) (h : num (l.take k) = none) : num l = none := by
  have : num l = (l.drop k).foldl numStep (num (l.take k)) := by
    unfold num
    rw [← List.foldl_append, List.take_append_drop]
  rw [this, h, foldl_none]
set_option maxHeartbeats 400000 in
theorem number_any (l : List UInt8) (w : World) (hs : l.length ≤ 1099511627776) : Calls Try.prog 32 #[str l] w fun e' w' => e' = .returned (valV (num l)) ∧ w = w' := by
  obtain ⟨s, hse⟩ : ∃ s : ByteArray, s = ⟨l.toArray⟩ := ⟨_, rfl⟩
  have hsz : s.size = l.length := by subst hse; simp [ByteArray.size]
  have hget : ∀ k (h : k < s.size) (h' : k < l.length), s[k] = l[k] := by subst hse; exact fun k h h' => rfl
  show Calls _ _ #[.string ⟨l.toArray⟩] _ _
  rw [← hse]
  have hs' : s.size ≤ 1099511627776 := by omega
  have hsz' := Lib.hid hsz
  clear hsz hse
  go_enter Try.func32, Try.ntmps32
  go_wp2
  go_loop [4, 5] (fun v i => ∃ (k : Nat) (n : UInt64), k ≤ s.size ∧ v = .int .u64 (n64 n) ∧ i = .int .i64 k ∧ Hid (num (l.take k) = some n)) (fun _ i => s.size - (intOf i).toNat)
  case atStart => exact ⟨0, 0, Nat.zero_le _, rfl, rfl, Lib.hid rfl⟩
  case round =>
    obtain ⟨k, n, hk, rfl, rfl, hn⟩ := hrel
    by_cases h : k < s.size
    · have hg := hget k h (by rw [← hsz'.out]; exact h)
      have hst := num_snoc l k (by rw [← hsz'.out]; exact h)
      rw [← hg, hn.out] at hst
      have hst' := Lib.hid hst
      clear hg hget hst hn
      rcases val_ways s[k] with ⟨h1, hv⟩ | ⟨h1, h2, hv⟩ | ⟨h1, h2, hv⟩ | ⟨h1, h2, hv⟩ | ⟨h1, hv⟩
      · have hv' := Lib.hid (show num l = none from num_stops l (k + 1) (by rw [hst'.out]; simp [numStep, hv]))
        clear hv hst'
        go_wp2
        go_ret2
        rw [hv'.out]
        exact ⟨rfl, rfl⟩
      · have hv' := Lib.hid (show num (l.take (k + 1)) = some (n * 16 + (s[k].toUInt64 - 48) % 256) by rw [hst'.out]; simp [numStep, hv])
        clear hv hst'
        go_wp2
        go_round
        case rel => exact ⟨k + 1, _, by omega, rfl, by go_num, hv'⟩
        case measure => simp [intOf]; omega
      · have hv' := Lib.hid (show num l = none from num_stops l (k + 1) (by rw [hst'.out]; simp [numStep, hv]))
        clear hv hst'
        go_wp2
        go_ret2
        rw [hv'.out]
        exact ⟨rfl, rfl⟩
      · have hv' := Lib.hid (show num (l.take (k + 1)) = some (n * 16 + (s[k].toUInt64 - 97) % 256 + 10) by rw [hst'.out]; simp [numStep, hv, UInt64.add_assoc])
        clear hv hst'
        go_wp2
        go_round
        case rel => exact ⟨k + 1, _, by omega, rfl, by go_num, hv'⟩
        case measure => simp [intOf]; omega
      · have hv' := Lib.hid (show num l = none from num_stops l (k + 1) (by rw [hst'.out]; simp [numStep, hv]))
        clear hv hst'
        go_wp2
        go_ret2
        rw [hv'.out]
        exact ⟨rfl, rfl⟩
    · have hk' : k = s.size := by omega
      have hfin := Lib.hid (show num l = some n by have := hn.out; rwa [hk', hsz'.out, List.take_length] at this)
      clear hn
      go_wp2
      go_ret2
      rw [hfin.out]
      exact ⟨rfl, rfl⟩
attribute [go_sem] valV
end Mix
end Go.Proofs.Ytppoeneldilnjaa
