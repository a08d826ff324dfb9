/- The walks of reading strong sums' texts. No condition but sizes. -/
import Derived.Test.YtppoeneldilnjaaMixParse
set_option linter.unusedVariables false
set_option linter.unusedSimpArgs false
namespace Go.Proofs.Ytppoeneldilnjaa
open Go Go.RowKit W
namespace Mix
set_option maxHeartbeats 800000 in
theorem parse_any (l : List UInt8) (w : World) (hs : l.length ≤ 1099511627776) : Calls Try.prog 22 #[str l] w fun e' w' => e' = .returned (gotV (parsed l)) ∧ Gr w w' := by
  obtain ⟨s, hse⟩ : ∃ s : ByteArray, s = ⟨l.toArray⟩ := ⟨_, rfl⟩
  have hsz : s.size = l.length := by subst hse; simp [ByteArray.size]
  have hget : ∀ k (h : k < s.size) (h' : k < l.length), s[k] = l[k] := by subst hse; exact fun k h h' => rfl
  show Calls _ _ #[.string ⟨l.toArray⟩] _ _
  rw [← hse]
  have hs' : s.size ≤ 1099511627776 := by omega
  have hsz' := Lib.hid hsz
  clear hsz hse
  by_cases h32 : s.size = 32
  · have hp := Lib.hid (show parsed l = pnum l from if_pos (by rw [← hsz'.out]; exact h32))
    rw [hp.out]
    go_enter Try.func22, Try.ntmps22
    go_wp2
    go_loopw [12] (fun i wr => ∃ (k : Nat) (st : St), k ≤ 32 ∧ i = .int .i64 k ∧ Gr w wr ∧ Blk wr w.heap.size 26 #[.int .u64 0, .int .u64 0] ∧ Blk wr (w.heap.size + 1) 26 #[.int .u64 (n64 st.1), .int .u64 (n64 st.2)] ∧ Hid (pnum (l.take k) = some st)) (fun i _ => 32 - (intOf i).toNat)
    case atStart =>
      have h1 := (Blk.new w 26 #[.int .u64 0, .int .u64 0]).alloc (.cells #[.int .u64 0, .int .u64 0] 26)
      have h2 := Blk.new (w.alloc (.cells #[.int .u64 0, .int .u64 0] 26)) 26 #[.int .u64 0, .int .u64 0]
      rw [World.size_alloc] at h2
      exact ⟨0, (0, 0), Nat.zero_le _, rfl, ((Gr.refl w).alloc _).alloc _, h1, h2, Lib.hid rfl⟩
    case round =>
      obtain ⟨k, st, hk, rfl, hg, hb0, hb1, hn⟩ := hrel
      obtain ⟨hi, lo⟩ := st
      by_cases h : k < 32
      · have hks : k < s.size := by omega
        have hg' := hget k hks (by rw [← hsz'.out]; exact hks)
        have hst := pnum_snoc l k (by rw [← hsz'.out]; exact hks)
        rw [← hg', hn.out] at hst
        have hc := Lib.hid (value_any s[k] wr)
        clear hn hget hg'
        cases hv : val s[k] with
        | none =>
          rw [hv] at hc
          have hf := Lib.hid (show pnum l = none from pnum_stops l (k + 1) (by rw [hst]; simp [pstep, hv]))
          have c0 := hb0.cell 0
          have c1 := hb0.cell 1
          have f0 := hb0.frozen 0
          have f1 := hb0.frozen 1
          have hb2 := (hb0.set_ 0 (.int .u64 0)).set_ 1 (.int .u64 0)
          have z0 := hb2.cell 0
          have z1 := hb2.cell 1
          have hg2 := Lib.hid (Below.setCell (Below.setCell hg (p := ⟨w.heap.size, 0, none⟩) (Nat.le_refl _) (.int .u64 0)) (p := ⟨w.heap.size, 1, none⟩) (Nat.le_refl _) (.int .u64 0))
          clear hst hv hb0 hb1 hb2 hg
          go_wp2_with (go_at_call 31; refine hc.out.mono ?_; rintro e w' ⟨rfl, rfl⟩)
          refine bodyPost_ret (v := gotV none) (by simp [results, Try.results22, go_sem, z0, z1]; rfl) rfl ⟨by rw [hf.out], hg2.out⟩
        | some v =>
          rw [hv] at hc
          have hf := Lib.hid (show pnum (l.take (k + 1)) = some (hi * 16 ||| lo / 1152921504606846976, lo * 16 ||| v) by rw [hst]; simp [pstep, hv])
          have c0 := hb1.cell 0
          have c1 := hb1.cell 1
          have f0 := hb1.frozen 0
          have hb2 : Blk (wr.setCell ⟨w.heap.size + 1, 0, none⟩ (.int .u64 (n64 (hi * 16 ||| lo / 1152921504606846976)))) (w.heap.size + 1) 26 #[.int .u64 (n64 (hi * 16 ||| lo / 1152921504606846976)), .int .u64 (n64 lo)] := hb1.set_ 0 _
          have z1 := hb2.cell 1
          have f1 := hb2.frozen 1
          have hb3 := hb2.set_ 1 (.int .u64 (n64 (lo * 16 ||| v)))
          have hb4 := (hb0.far (p := ⟨w.heap.size + 1, 0, none⟩) (by show w.heap.size ≠ w.heap.size + 1; omega) (.int .u64 (n64 (hi * 16 ||| lo / 1152921504606846976)))).far (p := ⟨w.heap.size + 1, 1, none⟩) (by show w.heap.size ≠ w.heap.size + 1; omega) (.int .u64 (n64 (lo * 16 ||| v)))
          have hg2 := Lib.hid (Below.setCell (Below.setCell hg (p := ⟨w.heap.size + 1, 0, none⟩) (Nat.le_succ _) (.int .u64 (n64 (hi * 16 ||| lo / 1152921504606846976)))) (p := ⟨w.heap.size + 1, 1, none⟩) (Nat.le_succ _) (.int .u64 (n64 (lo * 16 ||| v))))
          replace hb3 := Lib.hid hb3
          replace hb4 := Lib.hid hb4
          clear hst hv hb0 hb1 hb2 hg
          go_wp2_with (go_at_call 31; refine hc.out.mono ?_; rintro e w' ⟨rfl, rfl⟩)
          go_roundw
          case rel => exact ⟨k + 1, (hi * 16 ||| lo / 1152921504606846976, lo * 16 ||| v), by omega, by go_num, hg2.out, hb4.out, hb3.out, hf⟩
          case measure => simp [intOf]; omega
      · have hk' : k = 32 := by omega
        have hf := Lib.hid (show pnum l = some (hi, lo) by have := hn.out; rwa [hk', ← h32, hsz'.out, List.take_length] at this)
        have c0 := hb1.cell 0
        have c1 := hb1.cell 1
        have d0 := hb0.cell 0
        have d1 := hb0.cell 1
        have f0 := hb0.frozen 0
        have f1 := hb0.frozen 1
        have hb2 := (hb0.set_ 0 (.int .u64 (n64 hi))).set_ 1 (.int .u64 (n64 lo))
        have z0 := hb2.cell 0
        have z1 := hb2.cell 1
        have hg2 := Lib.hid (Below.setCell (Below.setCell hg (p := ⟨w.heap.size, 0, none⟩) (Nat.le_refl _) (.int .u64 (n64 hi))) (p := ⟨w.heap.size, 1, none⟩) (Nat.le_refl _) (.int .u64 (n64 lo)))
        clear hb0 hb1 hb2 hg hn hget
        go_wp2
        refine bodyPost_ret (v := gotV (some (hi, lo))) (by simp [results, Try.results22, go_sem, z0, z1]; rfl) rfl ⟨by rw [hf.out], hg2.out⟩
  · have hp := Lib.hid (show parsed l = none from if_neg (by rw [← hsz'.out]; exact h32))
    rw [hp.out]
    go_enter Try.func22, Try.ntmps22
    go_wp2
    refine bodyPost_ret (v := gotV none) (by simp [results, Try.results22, go_sem]; rfl) rfl ⟨rfl, (Gr.refl w).alloc _⟩

def refGotV : Option St → Value
  | some s => .tuple #[sumV s, .bool true]
  | none => .tuple #[sumV (0, 0), .bool false]
theorem refParsed_none {l : List UInt8} (h : l.length = 32) (h2 : num (l.take 16) = none ∨ num (l.drop 16) = none) : refParsed l = none := by
  unfold refParsed
  rw [if_pos h]
  rcases h2 with h2 | h2 <;> rw [h2]
  cases num (l.take 16) <;> rfl
set_option maxHeartbeats 800000 in
theorem refParse_any (l : List UInt8) (w : World) (hs : l.length ≤ 1099511627776) : Calls Try.prog 23 #[str l] w fun e' w' => e' = .returned (refGotV (refParsed l)) ∧ Gr w w' := by
  by_cases h32 : l.length = 32
  · have hn1 := Lib.hid (fun w => number_any (l.take 16) w (by rw [List.length_take]; omega))
    have hn2 := Lib.hid (fun w => number_any ((l.drop 16).take 16) w (by rw [List.length_take, List.length_drop]; omega))
    have ht : (l.drop 16).take 16 = l.drop 16 := List.take_of_length_le (by rw [List.length_drop]; omega)
    have hc1 : ∃ a, refParsed l = a := ⟨_, rfl⟩
    obtain ⟨r, hr⟩ := hc1
    have hr' := hr
    unfold refParsed at hr'
    rw [if_pos h32] at hr'
    rw [hr]
    clear hr
    rw [← ht] at hr'
    clear ht
    generalize num (l.take 16) = a at *
    generalize num ((l.drop 16).take 16) = b at *
    cases a with
    | none =>
      cases b with
      | none =>
        obtain rfl : none = r := hr'
        go_enter Try.func23, Try.ntmps23
        go_wp2_with (first
          | (go_at_call 32; refine (hn1.out _).mono ?_; clear hn1; rintro e w' ⟨rfl, rfl⟩)
          | (go_at_call 32; refine (hn2.out _).mono ?_; rintro e w' ⟨rfl, rfl⟩))
        refine bodyPost_ret (v := refGotV none) (by simp [results, Try.results23, go_sem]; rfl) rfl ⟨rfl, (Gr.refl w).alloc _⟩
      | some b =>
        obtain rfl : none = r := hr'
        go_enter Try.func23, Try.ntmps23
        go_wp2_with (first
          | (go_at_call 32; refine (hn1.out _).mono ?_; clear hn1; rintro e w' ⟨rfl, rfl⟩)
          | (go_at_call 32; refine (hn2.out _).mono ?_; rintro e w' ⟨rfl, rfl⟩))
        refine bodyPost_ret (v := refGotV none) (by simp [results, Try.results23, go_sem]; rfl) rfl ⟨rfl, (Gr.refl w).alloc _⟩
    | some a =>
      cases b with
      | none =>
        obtain rfl : none = r := hr'
        go_enter Try.func23, Try.ntmps23
        go_wp2_with (first
          | (go_at_call 32; refine (hn1.out _).mono ?_; clear hn1; rintro e w' ⟨rfl, rfl⟩)
          | (go_at_call 32; refine (hn2.out _).mono ?_; rintro e w' ⟨rfl, rfl⟩))
        refine bodyPost_ret (v := refGotV none) (by simp [results, Try.results23, go_sem]; rfl) rfl ⟨rfl, (Gr.refl w).alloc _⟩
      | some b =>
        obtain rfl : some (a, b) = r := hr'
        go_enter Try.func23, Try.ntmps23
        go_wp2_with (first
          | (go_at_call 32; refine (hn1.out _).mono ?_; clear hn1; rintro e w' ⟨rfl, rfl⟩)
          | (go_at_call 32; refine (hn2.out _).mono ?_; rintro e w' ⟨rfl, rfl⟩))
        refine bodyPost_ret (v := refGotV (some (a, b))) (by simp [results, Try.results23, go_sem]; rfl) rfl ⟨rfl, (Gr.refl w).alloc _⟩
  · have hp := Lib.hid (show refParsed l = none from if_neg h32)
    rw [hp.out]
    go_enter Try.func23, Try.ntmps23
    go_wp2
    refine bodyPost_ret (v := refGotV none) (by simp [results, Try.results23, go_sem]; rfl) rfl ⟨rfl, (Gr.refl w).alloc _⟩
end Mix
end Go.Proofs.Ytppoeneldilnjaa
