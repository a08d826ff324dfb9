/- The walk of MixTexts: whatever the arguments, it returns true and writes nothing that was there. No condition. -/
import Derived.Test.YtppoeneldilnjaaMixAwake
set_option linter.unusedVariables false
set_option linter.unusedSimpArgs false
namespace Go.Proofs.Ytppoeneldilnjaa
open Go Go.RowKit W
namespace Mix
set_option maxHeartbeats 2000000 in
theorem mixTexts_some (s : St) (l : List UInt8) (q : St) (hq : parsed l = some q) (hl : l.length ≤ 100) (w : World) :
    Calls Try.prog 7 #[sumV s, str l] w (Ret (eqv (.bool true)) w) := by
  obtain ⟨X, hX⟩ : ∃ X, X = hexR s.1 16 ++ hexR s.2 16 := ⟨_, rfl⟩
  have hXl : X.length ≤ 1099511627776 := by rw [hX]; simp
  have htext := Lib.hid (fun w' => (by have h := text_any s w'; rw [L_all, ← hX] at h; exact h : Calls Try.prog 21 #[sumV s] w' fun e' w'' => e' = .returned (str X) ∧ Gr w' w''))
  have hreft := Lib.hid (fun w' => (by have h := refText_any s w'; rw [← hX] at h; exact h : Calls Try.prog 24 #[sumV s] w' fun e' w'' => e' = .returned (str X) ∧ Gr w' w''))
  have hp1 := Lib.hid (fun w' => (by have h := parse_any X w' hXl; rw [hX, parsed_text, ← hX] at h; exact h : Calls Try.prog 22 #[str X] w' fun e' w'' => e' = .returned (.tuple #[sumV s, .int .i64 0]) ∧ Gr w' w''))
  have hp2 := Lib.hid (fun w' => (by have h := parse_any l w' (by omega); rw [hq] at h; exact h : Calls Try.prog 22 #[str l] w' fun e' w'' => e' = .returned (.tuple #[sumV q, .int .i64 0]) ∧ Gr w' w''))
  have hp3 := Lib.hid (fun w' => (by have h := refParse_any l w' (by omega); rw [← parsed_ref, hq] at h; exact h : Calls Try.prog 23 #[str l] w' fun e' w'' => e' = .returned (.tuple #[sumV q, .bool true]) ∧ Gr w' w''))
  have hsz : (⟨l.toArray⟩ : ByteArray).size = l.length := rfl
  have hgt : ¬ 100 < (⟨l.toArray⟩ : ByteArray).size := by rw [hsz]; omega
  replace hX := Lib.hid hX
  replace hq := Lib.hid hq
  obtain ⟨w1, hw1⟩ : ∃ w1, w1 = w.alloc (.cells #[.int .u64 (n64 s.1), .int .u64 (n64 s.2)] 26) := ⟨_, rfl⟩
  have hb0 := Blk.new w 26 #[.int .u64 (n64 s.1), .int .u64 (n64 s.2)]
  have hg1 := (Gr.refl w).alloc (.cells #[.int .u64 (n64 s.1), .int .u64 (n64 s.2)] 26)
  rw [← hw1] at hb0 hg1
  replace hw1 := Lib.hid hw1
  replace hb0 := Lib.hid hb0
  replace hg1 := Lib.hid hg1
  go_enter Try.func7, Try.ntmps7
  go_wp2_with fail
  rw [← hw1.out]
  refine (htext.out _).mono ?_
  rintro e w2 ⟨rfl, hgt2⟩
  have hb0 := Lib.hid (hb0.out.below hgt2 hb0.out.lt)
  have hg1 := Lib.hid (hg1.out.trans hgt2)
  clear hgt2 htext
  go_wp2_with fail
  refine (hp1.out _).mono ?_
  rintro e w3 ⟨rfl, hgr⟩
  have hb0 := Lib.hid ((hb0.out.below hgr hb0.out.lt).alloc (.cells #[.int .u64 (n64 s.1), .int .u64 (n64 s.2)] 26))
  have hg1 := Lib.hid ((hg1.out.trans hgr).alloc (.cells #[.int .u64 (n64 s.1), .int .u64 (n64 s.2)] 26))
  have hb6 := Lib.hid (Blk.new w3 26 #[.int .u64 (n64 s.1), .int .u64 (n64 s.2)])
  clear hgr hp1
  go_wp2_with fail
  refine (hp2.out _).mono ?_
  rintro e w4 ⟨rfl, hgr⟩
  have hb0 := Lib.hid ((hb0.out.below hgr hb0.out.lt).alloc (.cells #[.int .u64 (n64 q.1), .int .u64 (n64 q.2)] 26))
  have hb6 := Lib.hid ((hb6.out.below hgr hb6.out.lt).alloc (.cells #[.int .u64 (n64 q.1), .int .u64 (n64 q.2)] 26))
  have hg1 := Lib.hid ((hg1.out.trans hgr).alloc (.cells #[.int .u64 (n64 q.1), .int .u64 (n64 q.2)] 26))
  have hb8 := Lib.hid (Blk.new w4 26 #[.int .u64 (n64 q.1), .int .u64 (n64 q.2)])
  clear hgr hp2
  go_wp2_with fail
  refine (hp3.out _).mono ?_
  rintro e w5 ⟨rfl, hgr⟩
  have hb0 := Lib.hid ((hb0.out.below hgr hb0.out.lt).alloc (.cells #[.int .u64 (n64 q.1), .int .u64 (n64 q.2)] 26))
  have hb6 := Lib.hid ((hb6.out.below hgr hb6.out.lt).alloc (.cells #[.int .u64 (n64 q.1), .int .u64 (n64 q.2)] 26))
  have hb8 := Lib.hid ((hb8.out.below hgr hb8.out.lt).alloc (.cells #[.int .u64 (n64 q.1), .int .u64 (n64 q.2)] 26))
  have hg1 := Lib.hid ((hg1.out.trans hgr).alloc (.cells #[.int .u64 (n64 q.1), .int .u64 (n64 q.2)] 26))
  have hb10 := Lib.hid (Blk.new w5 26 #[.int .u64 (n64 q.1), .int .u64 (n64 q.2)])
  clear hgr hp3
  have haw := Lib.hid (awake_any (w5.alloc (.cells #[.int .u64 (n64 q.1), .int .u64 (n64 q.2)] 26)))
  go_wp2_with fail
  refine haw.out.mono ?_
  rintro e w6 ⟨v, rfl, hv, hgr⟩
  obtain rfl : v = .bool true := hv
  have hb0 := Lib.hid (hb0.out.below hgr hb0.out.lt)
  have hb6 := Lib.hid (hb6.out.below hgr hb6.out.lt)
  have hb8 := Lib.hid (hb8.out.below hgr hb8.out.lt)
  have hb10 := Lib.hid (hb10.out.below hgr hb10.out.lt)
  have hg1 := Lib.hid (hg1.out.trans hgr)
  have c0 := hb0.out.cell 0
  have c1 := hb0.out.cell 1
  clear haw hgr
  go_wp2_with fail
  refine (hreft.out _).mono ?_
  rintro e w7 ⟨rfl, hgr⟩
  have hb0 := Lib.hid (hb0.out.below hgr hb0.out.lt)
  have hb6 := Lib.hid (hb6.out.below hgr hb6.out.lt)
  have hb8 := Lib.hid (hb8.out.below hgr hb8.out.lt)
  have hb10 := Lib.hid (hb10.out.below hgr hb10.out.lt)
  have hg1 := Lib.hid (hg1.out.trans hgr)
  have c0 := hb0.out.cell 0
  have c1 := hb0.out.cell 1
  have c2 := hb6.out.cell 0
  have c3 := hb6.out.cell 1
  have c4 := hb8.out.cell 0
  have c5 := hb8.out.cell 1
  have c6 := hb10.out.cell 0
  have c7 := hb10.out.cell 1
  clear hreft hgr
  go_wp2
  go_ret
  exact ⟨_, rfl, rfl, hg1.out⟩
set_option maxHeartbeats 2000000 in
theorem mixTexts_none (s : St) (l : List UInt8) (hq : parsed l = none) (hl : l.length ≤ 100) (w : World) :
    Calls Try.prog 7 #[sumV s, str l] w (Ret (eqv (.bool true)) w) := by
  obtain ⟨X, hX⟩ : ∃ X, X = hexR s.1 16 ++ hexR s.2 16 := ⟨_, rfl⟩
  have hXl : X.length ≤ 1099511627776 := by rw [hX]; simp
  have htext := Lib.hid (fun w' => (by have h := text_any s w'; rw [L_all, ← hX] at h; exact h : Calls Try.prog 21 #[sumV s] w' fun e' w'' => e' = .returned (str X) ∧ Gr w' w''))
  have hreft := Lib.hid (fun w' => (by have h := refText_any s w'; rw [← hX] at h; exact h : Calls Try.prog 24 #[sumV s] w' fun e' w'' => e' = .returned (str X) ∧ Gr w' w''))
  have hp1 := Lib.hid (fun w' => (by have h := parse_any X w' hXl; rw [hX, parsed_text, ← hX] at h; exact h : Calls Try.prog 22 #[str X] w' fun e' w'' => e' = .returned (.tuple #[sumV s, .int .i64 0]) ∧ Gr w' w''))
  have hp2 := Lib.hid (fun w' => (by have h := parse_any l w' (by omega); rw [hq] at h; exact h : Calls Try.prog 22 #[str l] w' fun e' w'' => e' = .returned (.tuple #[sumV (0, 0), .int .i64 3]) ∧ Gr w' w''))
  have hp3 := Lib.hid (fun w' => (by have h := refParse_any l w' (by omega); rw [← parsed_ref, hq] at h; exact h : Calls Try.prog 23 #[str l] w' fun e' w'' => e' = .returned (.tuple #[sumV (0, 0), .bool false]) ∧ Gr w' w''))
  have hsz : (⟨l.toArray⟩ : ByteArray).size = l.length := rfl
  have hgt : ¬ 100 < (⟨l.toArray⟩ : ByteArray).size := by rw [hsz]; omega
  replace hX := Lib.hid hX
  replace hq := Lib.hid hq
  obtain ⟨w1, hw1⟩ : ∃ w1, w1 = w.alloc (.cells #[.int .u64 (n64 s.1), .int .u64 (n64 s.2)] 26) := ⟨_, rfl⟩
  have hb0 := Blk.new w 26 #[.int .u64 (n64 s.1), .int .u64 (n64 s.2)]
  have hg1 := (Gr.refl w).alloc (.cells #[.int .u64 (n64 s.1), .int .u64 (n64 s.2)] 26)
  rw [← hw1] at hb0 hg1
  replace hw1 := Lib.hid hw1
  replace hb0 := Lib.hid hb0
  replace hg1 := Lib.hid hg1
  go_enter Try.func7, Try.ntmps7
  go_wp2_with fail
  rw [← hw1.out]
  refine (htext.out _).mono ?_
  rintro e w2 ⟨rfl, hgt2⟩
  have hb0 := Lib.hid (hb0.out.below hgt2 hb0.out.lt)
  have hg1 := Lib.hid (hg1.out.trans hgt2)
  clear hgt2 htext
  go_wp2_with fail
  refine (hp1.out _).mono ?_
  rintro e w3 ⟨rfl, hgr⟩
  have hb0 := Lib.hid ((hb0.out.below hgr hb0.out.lt).alloc (.cells #[.int .u64 (n64 s.1), .int .u64 (n64 s.2)] 26))
  have hg1 := Lib.hid ((hg1.out.trans hgr).alloc (.cells #[.int .u64 (n64 s.1), .int .u64 (n64 s.2)] 26))
  have hb6 := Lib.hid (Blk.new w3 26 #[.int .u64 (n64 s.1), .int .u64 (n64 s.2)])
  clear hgr hp1
  go_wp2_with fail
  refine (hp2.out _).mono ?_
  rintro e w4 ⟨rfl, hgr⟩
  have hb0 := Lib.hid ((hb0.out.below hgr hb0.out.lt).alloc (.cells #[.int .u64 (n64 0), .int .u64 (n64 0)] 26))
  have hb6 := Lib.hid ((hb6.out.below hgr hb6.out.lt).alloc (.cells #[.int .u64 (n64 0), .int .u64 (n64 0)] 26))
  have hg1 := Lib.hid ((hg1.out.trans hgr).alloc (.cells #[.int .u64 (n64 0), .int .u64 (n64 0)] 26))
  have hb8 := Lib.hid (Blk.new w4 26 #[.int .u64 (n64 0), .int .u64 (n64 0)])
  clear hgr hp2
  go_wp2_with fail
  refine (hp3.out _).mono ?_
  rintro e w5 ⟨rfl, hgr⟩
  have hb0 := Lib.hid ((hb0.out.below hgr hb0.out.lt).alloc (.cells #[.int .u64 (n64 0), .int .u64 (n64 0)] 26))
  have hb6 := Lib.hid ((hb6.out.below hgr hb6.out.lt).alloc (.cells #[.int .u64 (n64 0), .int .u64 (n64 0)] 26))
  have hb8 := Lib.hid ((hb8.out.below hgr hb8.out.lt).alloc (.cells #[.int .u64 (n64 0), .int .u64 (n64 0)] 26))
  have hg1 := Lib.hid ((hg1.out.trans hgr).alloc (.cells #[.int .u64 (n64 0), .int .u64 (n64 0)] 26))
  have hb10 := Lib.hid (Blk.new w5 26 #[.int .u64 (n64 0), .int .u64 (n64 0)])
  clear hgr hp3
  have haw := Lib.hid (awake_any (w5.alloc (.cells #[.int .u64 (n64 0), .int .u64 (n64 0)] 26)))
  go_wp2_with fail
  refine haw.out.mono ?_
  rintro e w6 ⟨v, rfl, hv, hgr⟩
  obtain rfl : v = .bool true := hv
  have hb0 := Lib.hid (hb0.out.below hgr hb0.out.lt)
  have hb6 := Lib.hid (hb6.out.below hgr hb6.out.lt)
  have hb8 := Lib.hid (hb8.out.below hgr hb8.out.lt)
  have hb10 := Lib.hid (hb10.out.below hgr hb10.out.lt)
  have hg1 := Lib.hid (hg1.out.trans hgr)
  have c0 := hb0.out.cell 0
  have c1 := hb0.out.cell 1
  clear haw hgr
  go_wp2_with fail
  refine (hreft.out _).mono ?_
  rintro e w7 ⟨rfl, hgr⟩
  have hb0 := Lib.hid (hb0.out.below hgr hb0.out.lt)
  have hb6 := Lib.hid (hb6.out.below hgr hb6.out.lt)
  have hb8 := Lib.hid (hb8.out.below hgr hb8.out.lt)
  have hb10 := Lib.hid (hb10.out.below hgr hb10.out.lt)
  have hg1 := Lib.hid (hg1.out.trans hgr)
  have c0 := hb0.out.cell 0
  have c1 := hb0.out.cell 1
  have c2 := hb6.out.cell 0
  have c3 := hb6.out.cell 1
  have c4 := hb8.out.cell 0
  have c5 := hb8.out.cell 1
  have c6 := hb10.out.cell 0
  have c7 := hb10.out.cell 1
  clear hreft hgr
  go_wp2
  go_ret
  exact ⟨_, rfl, rfl, hg1.out⟩
theorem mixTexts_long (s : St) (l : List UInt8) (hl : 100 < l.length) (w : World) :
    Calls Try.prog 7 #[sumV s, str l] w (Ret (eqv (.bool true)) w) := by
  have hsz : (⟨l.toArray⟩ : ByteArray).size = l.length := rfl
  have hgt : 100 < (⟨l.toArray⟩ : ByteArray).size := by rw [hsz]; omega
  have hgi : (100 : Int) < (l.length : Int) := by omega
  have hg1 := (Gr.refl w).alloc (.cells #[.int .u64 (n64 s.1), .int .u64 (n64 s.2)] 26)
  replace hg1 := Lib.hid hg1
  have haw := Lib.hid (awake_any (w.alloc (.cells #[.int .u64 (n64 s.1), .int .u64 (n64 s.2)] 26)))
  go_enter Try.func7, Try.ntmps7
  go_wp2_with (go_at_call 8; refine haw.out.mono ?_; rintro e w' ⟨v, rfl, hv, hg⟩; obtain rfl : v = .bool true := hv)
  go_ret
  exact ⟨_, rfl, rfl, hg1.out.trans hg⟩
theorem mixTexts_walk (s : St) (l : List UInt8) (w : World) : Calls Try.prog 7 #[sumV s, str l] w (Ret (eqv (.bool true)) w) := by
  by_cases h : 100 < l.length
  · exact mixTexts_long s l h w
  · cases hq : parsed l with
    | none => exact mixTexts_none s l hq (by omega) w
    | some q => exact mixTexts_some s l q hq (by omega) w
end Mix
end Go.Proofs.Ytppoeneldilnjaa
