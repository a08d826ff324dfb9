/- The walk of PatchFits. No condition but sizes. -/
import Derived.Test.YtgnogoghfendpaaPatFit
import Derived.Test.YtgnogoghfendpaaMixRefOf
set_option linter.unusedVariables false
set_option linter.unusedSimpArgs false
namespace Go.Proofs.Ytgnogoghfendpaa
open Go Go.RowKit W Bl Tk
namespace Pt
theorem copy_right {f m : Int} (h1 : 0 ≤ f) (h2 : 0 < m) (h3 : f + m ≤ 4097) : right ⟨f, m, []⟩ = true := right_mk h1 (by simp only []; omega) (by simp only []; omega) h3 (.inl ⟨h2, rfl⟩)
theorem copy_none (f : Int) : right ⟨f, 0, []⟩ = false := by
  cases h : right ⟨f, 0, []⟩
  · rfl
  · obtain ⟨_, _, _, _, (⟨h1, _⟩ | ⟨_, _, h1, _⟩)⟩ := right_spec h
    · simp at h1
    · exact absurd rfl h1
theorem pstep_all (old : List UInt8) (size : Int) (h0 : 0 < count old.length (hold size)) (h1 : count old.length (hold size) ≤ 4097) : pstep old size ⟨0, (count old.length (hold size) : Int), []⟩ = (old, 0) := by
  rw [pstep_some (copy_right (by omega) (by omega) (by omega)) (by simp only []; omega) (by simp)]
  simp only [Int.toNat_zero, Int.toNat_natCast]
  rw [many_all _ _ (by have := (hold_pos size).1; omega)]
theorem pstep_part (old : List UInt8) (size : Int) (f m : Nat) (h0 : 0 < m) (h1 : f + m ≤ count old.length (hold size)) (h2 : f + m ≤ 4097) : pstep old size ⟨(f : Int), (m : Int), []⟩ = (many old (hold size) f m, 0) := by
  rw [pstep_some (copy_right (by omega) (by omega) (by omega)) (by simp only []; omega) (by simp only [Int.toNat_natCast]; omega)]
  simp only [Int.toNat_natCast]
theorem papp_two (old : List UInt8) (size : Int) (k : Nat) (h3 : old.length ≤ 300) (hk : k < count old.length (hold size)) :
    papp old size [⟨0, (k : Int) + 1, []⟩, ⟨(k : Int) + 1, (count old.length (hold size) : Int) - (k : Int) - 1, []⟩] [] = if k + 1 = count old.length (hold size) then ([], 1) else (old, 0) := by
  have hh := hold_pos size
  have hc := count_le old.length (hold size) (by omega)
  have e1 := pstep_part old size 0 (k + 1) (by omega) (by omega) (by omega)
  have hl : ∀ f m, f + m ≤ count old.length (hold size) → (many old (hold size) f m).length ≤ 300 := by
    intro f m hfm
    have e2 : many old (hold size) 0 f ++ many old (hold size) f m = many old (hold size) 0 (f + m) := by have := many_add old (hold size) 0 f m; rwa [Nat.zero_add] at this
    have e3 := many_take old (hold size) (by omega) (f + m)
    have e4 := congrArg List.length (e2.trans e3)
    rw [List.length_append, List.length_take] at e4
    omega
  rw [show (((0 : Nat) : Int)) = 0 from rfl, show (((k + 1 : Nat)) : Int) = (k : Int) + 1 by omega] at e1
  have l1 := hl 0 (k + 1) (by omega)
  rw [papp, e1]
  simp only [List.nil_append]
  rw [code1_ok rfl (by rw [List.length_nil]; omega), if_pos rfl, papp]
  by_cases hq : k + 1 = count old.length (hold size)
  · rw [if_pos hq]
    have e : ((count old.length (hold size) : Nat) : Int) - (k : Int) - 1 = 0 := by omega
    rw [e, pstep_bad (copy_none _)]
    simp only
    rw [code1_err (by decide), if_neg (by decide)]
  · rw [if_neg hq]
    have e2 := pstep_part old size (k + 1) (count old.length (hold size) - (k + 1)) (by omega) (by omega) (by omega)
    rw [show (((k + 1 : Nat)) : Int) = (k : Int) + 1 by omega, show ((count old.length (hold size) - (k + 1) : Nat) : Int) = (count old.length (hold size) : Int) - (k : Int) - 1 by omega] at e2
    have e3 := many_add old (hold size) 0 (k + 1) (count old.length (hold size) - (k + 1))
    rw [Nat.zero_add, show k + 1 + (count old.length (hold size) - (k + 1)) = count old.length (hold size) by omega, many_all _ _ (by omega)] at e3
    have l2 := hl (k + 1) (count old.length (hold size) - (k + 1)) (by omega)
    rw [e2]
    simp only
    rw [code1_ok rfl (by omega), if_pos rfl, papp, e3]
theorem fit_small {f m : Int} (h1 : 0 ≤ f) (h2 : f ≤ 5000) (h3 : 0 ≤ m) (h4 : m ≤ 5000) : Fit ⟨f, m, []⟩ := ⟨by simp only; omega, by simp only; omega, by simp only; omega, by simp only; omega, by simp⟩
theorem two_fits {k n : Nat} (h1 : k < n) (h2 : n ≤ 300) : Fits [⟨0, (k : Int) + 1, []⟩, ⟨(k : Int) + 1, (n : Int) - (k : Int) - 1, []⟩] := by
  refine ⟨by simp, fun t ht => ?_⟩
  obtain rfl | rfl : t = ⟨0, (k : Int) + 1, []⟩ ∨ t = ⟨(k : Int) + 1, (n : Int) - (k : Int) - 1, []⟩ := by simpa using ht
  · exact fit_small (by omega) (by omega) (by omega) (by omega)
  · exact fit_small (by omega) (by omega) (by omega) (by omega)
theorem and255 (x : Int) : ∃ m : Nat, m ≤ 255 ∧ bits BinOp.and IntKind.i64 x 255 = (m : Int) := by
  obtain ⟨n, hn⟩ : ∃ n, (BitVec.ofInt 64 x &&& BitVec.ofInt 64 255).toNat = n := ⟨_, rfl⟩
  have hle : n ≤ 255 := by rw [← hn, BitVec.toNat_and]; exact Nat.and_le_right
  refine ⟨n, hle, ?_⟩
  show IntKind.i64.wrap ((BitVec.ofInt 64 x &&& BitVec.ofInt 64 255).toNat) = _
  rw [hn, IntKind.wrap_i64]
  omega
theorem lo_flip (s : Mix.St) : (s == (s.1, s.2 ^^^ 1)) = false := by
  obtain ⟨a, b⟩ := s
  cases h : ((a, b) == (a, b ^^^ 1))
  · rfl
  · have h1 := congrArg Prod.snd (eq_of_beq h)
    simp only at h1
    have h2 : b ^^^ b = b ^^^ (b ^^^ 1) := by rw [← h1]
    rw [← UInt64.xor_assoc, UInt64.xor_self, UInt64.zero_xor] at h2
    exact absurd h2 (by decide)
set_option maxRecDepth 100000 in
set_option maxHeartbeats 8000000 in
theorem patchFits_walk (A : Option Addr) (c : Nat) (old : List UInt8) (size : Int) (x y : Int) (w : World) (hc : old.length ≤ c) (hm : c ≤ maxLen) (hr : RB w w.heap.size A old) :
    Calls Try.prog 4 #[.slice A old.length c, .int .i64 size, .agg #[.int .i64 x, .int .i64 y]] w (Ret (eqv (.bool true)) w) := by
  have bx := Lib.hid (Blk.new w 40 #[.int .i64 x, .int .i64 y])
  have G0 := Lib.hid ((Gr.refl w).alloc (.cells #[.int .i64 x, .int .i64 y] 40))
  by_cases h300 : old.length ≤ 300
  · have h300' : ¬ (300 : Int) < (old.length : Int) := by omega
    have hs1 : old.length ≤ 1000000 := by omega
    have r0 := Lib.hid ((hr.alloc (Nat.le_refl _) (.cells #[.int .i64 x, .int .i64 y] 40)).more (by rw [World.size_alloc]; omega) : RB (w.alloc (.cells #[.int .i64 x, .int .i64 y] 40)) (w.alloc (.cells #[.int .i64 x, .int .i64 y] 40)).heap.size A old)
    have hcnt := Lib.hid (count_le old.length (hold size) (by have := hold_pos size; omega))
    have hst := Lib.hid (fun t (hf : Fit t) w (hr : RB w w.heap.size A old) => step_any A c old size t w hs1 hc hr hf)
    obtain ⟨n, hn⟩ : ∃ n, count old.length (hold size) = n := ⟨_, rfl⟩
    have hrb := Lib.hid (show ∀ w, Calls Try.prog 16 #[str old, .int .i64 size] w fun e w' => ∃ A c, e = .returned (.slice A n c) ∧ Gr w w' from fun w => (refBlocks_any old size w hs1).mono (by
      rintro e w' ⟨A, c, rfl, _, g⟩
      exact ⟨A, c, by rw [blocks_len, hn], g⟩))
    have hn := Lib.hid hn
    have hfit := Lib.hid (fun s n w hr => fits_any A c old s n w hs1 hc hm hr)
    obtain ⟨m, hm255, hmb⟩ := and255 x
    clear hr
    go_enter Try.func4, Try.ntmps4
    go_wp2_with (first
      | (refine wpList_bytes_string rfl (.tmp 18) 22 9 5 rfl Try.underlying22 Bl.byteType.1 Try.underlying9 _ _ _ _ old rfl rfl r0.out ?_))
    go_at_call 14
    refine (Mix.refOf_any old _ (by omega)).mono ?_
    rintro e w1 ⟨rfl, g1⟩
    have G1 := Lib.hid (Gr.trans G0.out g1)
    have bx1 := Lib.hid (blk_more bx.out g1)
    have r1 := Lib.hid ((r0.out.below g1).more (Below.size g1))
    have bs := Lib.hid (Blk.new w1 43 #[.int .u64 (n64 (Mix.of old).1), .int .u64 (n64 (Mix.of old).2)])
    have r2 := Lib.hid ((r1.out.alloc (Nat.le_refl _) (.cells #[.int .u64 (n64 (Mix.of old).1), .int .u64 (n64 (Mix.of old).2)] 43)).more (by rw [World.size_alloc]; omega) : RB (w1.alloc (.cells #[.int .u64 (n64 (Mix.of old).1), .int .u64 (n64 (Mix.of old).2)] 43)) (w1.alloc (.cells #[.int .u64 (n64 (Mix.of old).1), .int .u64 (n64 (Mix.of old).2)] 43)).heap.size A old)
    have G2 := Lib.hid (G1.out.alloc (.cells #[.int .u64 (n64 (Mix.of old).1), .int .u64 (n64 (Mix.of old).2)] 43))
    have bx2 := Lib.hid (bx1.out.alloc (.cells #[.int .u64 (n64 (Mix.of old).1), .int .u64 (n64 (Mix.of old).2)] 43))
    clear G0 bx r0 g1 G1 bx1 r1
    go_wp2_with fail
    refine (hfit.out (Mix.of old) old.length _ r2.out).mono ?_
    rw [show (((old.length : Int) == (old.length : Int)) && (Mix.of old == Mix.of old)) = true by simp]
    rintro e w3 ⟨rfl, g3⟩
    have bs3 := Lib.hid (blk_more bs.out g3)
    have bx3 := Lib.hid (blk_more bx2.out g3)
    have r3 := Lib.hid ((r2.out.below g3).more (Below.size g3))
    have G3 := Lib.hid (Gr.trans G2.out g3)
    have y0 : w3.cell? ⟨w1.heap.size, 0, none⟩ = some (.int .u64 (n64 (Mix.of old).1)) := bs3.out.cell 0
    have y1 : w3.cell? ⟨w1.heap.size, 1, none⟩ = some (.int .u64 (n64 (Mix.of old).2)) := bs3.out.cell 1
    clear bs bx2 r2 G2 g3
    go_wp2_with fail
    refine (hfit.out (Mix.of old) (old.length + 1) _ r3.out).mono ?_
    rw [show (((old.length : Int) == (old.length : Int) + 1) && (Mix.of old == Mix.of old)) = false by simp; omega]
    rintro e w4 ⟨rfl, g4⟩
    have bs4 := Lib.hid (blk_more bs3.out g4)
    have bx4 := Lib.hid (blk_more bx3.out g4)
    have r4 := Lib.hid ((r3.out.below g4).more (Below.size g4))
    have G4 := Lib.hid (Gr.trans G3.out g4)
    have z0 : w4.cell? ⟨w1.heap.size, 0, none⟩ = some (.int .u64 (n64 (Mix.of old).1)) := bs4.out.cell 0
    have z1 : w4.cell? ⟨w1.heap.size, 1, none⟩ = some (.int .u64 (n64 (Mix.of old).2)) := bs4.out.cell 1
    clear bs3 bx3 r3 G3 g4 y0 y1
    go_wp2_with fail
    refine (hfit.out ((Mix.of old).1, (Mix.of old).2 ^^^ 1) old.length _ r4.out).mono ?_
    rw [show (((old.length : Int) == (old.length : Int)) && (Mix.of old == ((Mix.of old).1, (Mix.of old).2 ^^^ 1))) = false by rw [lo_flip, Bool.and_false]]
    rintro e w5 ⟨rfl, g5⟩
    have bx5 := Lib.hid (blk_more bx4.out g5)
    have r5 := Lib.hid ((r4.out.below g5).more (Below.size g5))
    have G5 := Lib.hid (Gr.trans G4.out g5)
    clear bs4 bx4 r4 G4 g5 z0 z1 hfit
    go_wp2_with (first
      | (refine wpList_bytes_string rfl (.tmp 47) 22 9 5 rfl Try.underlying22 Bl.byteType.1 Try.underlying9 _ _ _ _ old rfl rfl r5.out ?_))
    go_at_call 16
    refine (hrb.out _).mono ?_
    rintro e w6 ⟨A6, c6, rfl, g6⟩
    have bx6 := Lib.hid (blk_more bx5.out g6)
    have r6 := Lib.hid ((r5.out.below g6).more (Below.size g6))
    have G6 := Lib.hid (Gr.trans G5.out g6)
    clear bx5 r5 G5 g6 hrb
    go_wp2_with fail
    have hn1 : n ≤ 300 := by have := hcnt.out; have := hn.out; omega
    refine (copy_any 0 (n : Int) _).mono ?_
    rintro e w7 ⟨rfl, g7⟩
    have bx7 := Lib.hid (blk_more bx6.out g7)
    have r7 := Lib.hid ((r6.out.below g7).more (Below.size g7))
    have G7 := Lib.hid (Gr.trans G6.out g7)
    clear bx6 r6 G6 g7
    go_wp2_with fail
    refine (hst.out ⟨0, (n : Int), []⟩ (fit_small (by omega) (by omega) (by omega) (by omega)) _ r7.out).mono ?_
    by_cases hn0 : n = 0
    · subst hn0
      rw [show pstep old size ⟨0, ((0 : Nat) : Int), []⟩ = ([], 1) from pstep_bad (copy_none _)]
      rintro e w8 ⟨v8, rfl, h8, g8⟩
      have G8 := Lib.hid (Gr.trans G7.out g8)
      clear bx7 r7 G7 g8 h8
      go_wp2_with fail
      go_at_call 7
      refine (awake_any _).mono ?_
      rintro e w9 ⟨rfl, g9⟩
      have G := Lib.hid (Gr.trans G8.out g9)
      clear g9
      go_wp2
      go_ret
      exact ⟨_, rfl, rfl, G.out⟩
    · rw [show pstep old size ⟨0, (n : Int), []⟩ = (old, 0) by have := pstep_all old size; rw [hn.out] at this; exact this (by omega) (by omega)]
      rintro e w8 ⟨v8, rfl, ⟨A8, c8, rfl, hc8, hm8, R8⟩, g8⟩
      have bx8 := Lib.hid (blk_more bx7.out g8)
      have r8 := Lib.hid ((r7.out.below g8).more (Below.size g8))
      have R8' := Lib.hid R8
      have G8 := Lib.hid (Gr.trans G7.out g8)
      have y0 : w8.cell? ⟨w.heap.size, 0, none⟩ = some (.int .i64 x) := bx8.out.cell 0
      have hnp : ¬ (n : Int) = 0 := by omega
      clear bx7 r7 G7 g8 R8
      go_wp2_with fail
      obtain ⟨k, hk, hkn⟩ : ∃ k : Nat, (m : Int) % (n : Int) = (k : Int) ∧ k < n := ⟨m % n, by omega, Nat.mod_lt _ (by omega)⟩
      rw [hk, show wrap64 ((k : Int) + 1) = (k : Int) + 1 by unfold wrap64; omega]
      clear hk hmb hm255
      refine (copy_any 0 ((k : Int) + 1) _).mono ?_
      rintro e w9 ⟨rfl, g9⟩
      have r9 := Lib.hid ((r8.out.below g9).more (Below.size g9))
      have R9 := Lib.hid ((R8'.out.below g9).more (Below.size g9))
      have G9 := Lib.hid (Gr.trans G8.out g9)
      clear bx8 r8 R8' G8 g9 y0
      go_wp2_with fail
      refine (copy_any ((k : Int) + 1) ((n : Int) - (k : Int) - 1) _).mono ?_
      rintro e w10 ⟨rfl, g10⟩
      have T := Lib.hid (TR.newN w10 35 [⟨0, (k : Int) + 1, []⟩, ⟨(k : Int) + 1, (n : Int) - (k : Int) - 1, []⟩] #[.int .i64 0, .int .i64 ((k : Int) + 1), .string ⟨#[]⟩, .int .i64 ((k : Int) + 1), .int .i64 ((n : Int) - (k : Int) - 1), .string ⟨#[]⟩] rfl)
      have r10 := Lib.hid (((r9.out.below g10).more (Below.size g10)).alloc (Nat.le_refl _) (.cells #[.int .i64 0, .int .i64 ((k : Int) + 1), .string ⟨#[]⟩, .int .i64 ((k : Int) + 1), .int .i64 ((n : Int) - (k : Int) - 1), .string ⟨#[]⟩] 35))
      have R10 := Lib.hid (((R9.out.below g10).more (Below.size g10)).alloc (Nat.le_refl _) (.cells #[.int .i64 0, .int .i64 ((k : Int) + 1), .string ⟨#[]⟩, .int .i64 ((k : Int) + 1), .int .i64 ((n : Int) - (k : Int) - 1), .string ⟨#[]⟩] 35))
      have G10 := Lib.hid ((Gr.trans G9.out g10).alloc (.cells #[.int .i64 0, .int .i64 ((k : Int) + 1), .string ⟨#[]⟩, .int .i64 ((k : Int) + 1), .int .i64 ((n : Int) - (k : Int) - 1), .string ⟨#[]⟩] 35))
      clear r9 R9 G9 g10
      go_wp2_with fail
      refine (apply_any A _ c 2 old size [⟨0, (k : Int) + 1, []⟩, ⟨(k : Int) + 1, (n : Int) - (k : Int) - 1, []⟩] _ hs1 hc (r10.out.more (by rw [World.size_alloc]; omega)) (T.out.more (by rw [World.size_alloc]; omega)) (two_fits (by omega) (by omega)) (by simp)).mono ?_
      have hpp := papp_two old size k h300 (by have := hn.out; omega)
      rw [hn.out] at hpp
      rw [hpp]
      clear hpp hst T
      by_cases hq : k + 1 = n
      · rw [if_pos hq]
        have hq1 : (k : Int) + 1 = (n : Int) := by omega
        rintro e w11 ⟨v11, rfl, h11, g11⟩
        have r11 := Lib.hid ((r10.out.below (Below.mono g11 (by rw [World.size_alloc]; omega))).more (Nat.le_trans (by rw [World.size_alloc]; omega) (Below.size g11)))
        have R11 := Lib.hid ((R10.out.below (Below.mono g11 (by rw [World.size_alloc]; omega))).more (Nat.le_trans (by rw [World.size_alloc]; omega) (Below.size g11)))
        have G11 := Lib.hid (Gr.trans G10.out g11)
        clear r10 R10 G10 g11 h11
        go_wp2_with fail
        refine (awake_any _).mono ?_
        rintro e w12 ⟨rfl, g12⟩
        have r12 := Lib.hid ((r11.out.below g12).more (Below.size g12))
        have R12 := Lib.hid ((R11.out.below g12).more (Below.size g12))
        have G := Lib.hid (Gr.trans G11.out g12)
        clear r11 R11 G11 g12
        go_wp2_with (first
          | (refine wpList_bytes_string rfl (.tmp 99) 22 9 5 rfl Try.underlying22 Bl.byteType.1 Try.underlying9 _ _ _ _ old rfl rfl R12.out ?_)
          | (refine wpList_bytes_string rfl (.tmp 101) 22 9 5 rfl Try.underlying22 Bl.byteType.1 Try.underlying9 _ _ _ _ old rfl rfl r12.out ?_))
        go_ret
        exact ⟨_, rfl, rfl, G.out⟩
      · rw [if_neg hq]
        have hq1 : ¬ (k : Int) + 1 = (n : Int) := by omega
        rintro e w11 ⟨v11, rfl, ⟨A11, c11, rfl, hc11, hm11, h11⟩, g11⟩
        have r11 := Lib.hid ((r10.out.below (Below.mono g11 (by rw [World.size_alloc]; omega))).more (Nat.le_trans (by rw [World.size_alloc]; omega) (Below.size g11)))
        have R11 := Lib.hid ((R10.out.below (Below.mono g11 (by rw [World.size_alloc]; omega))).more (Nat.le_trans (by rw [World.size_alloc]; omega) (Below.size g11)))
        have S11 := Lib.hid h11
        have G11 := Lib.hid (Gr.trans G10.out g11)
        clear r10 R10 G10 g11 h11
        go_wp2_with fail
        refine (awake_any _).mono ?_
        rintro e w12 ⟨rfl, g12⟩
        have r12 := Lib.hid ((r11.out.below g12).more (Below.size g12))
        have R12 := Lib.hid ((R11.out.below g12).more (Below.size g12))
        have S12 := Lib.hid ((S11.out.below g12).more (Below.size g12))
        have G := Lib.hid (Gr.trans G11.out g12)
        clear r11 R11 G11 g12
        go_wp2_with (first
          | (refine wpList_bytes_string rfl (.tmp 115) 22 9 5 rfl Try.underlying22 Bl.byteType.1 Try.underlying9 _ _ _ _ old rfl rfl R12.out ?_)
          | (refine wpList_bytes_string rfl (.tmp 117) 22 9 5 rfl Try.underlying22 Bl.byteType.1 Try.underlying9 _ _ _ _ old rfl rfl r12.out ?_)
          | (refine wpList_bytes_string rfl (.tmp 126) 22 9 5 rfl Try.underlying22 Bl.byteType.1 Try.underlying9 _ _ _ _ old rfl rfl S12.out ?_)
          | (refine wpList_bytes_string rfl (.tmp 128) 22 9 5 rfl Try.underlying22 Bl.byteType.1 Try.underlying9 _ _ _ _ old rfl rfl r12.out ?_))
        go_ret
        exact ⟨_, rfl, rfl, G.out⟩
  · have h300' : (300 : Int) < (old.length : Int) := by omega
    clear hr
    go_enter Try.func4, Try.ntmps4
    go_wp2_with fail
    go_at_call 7
    refine (awake_any _).mono ?_
    rintro e w2 ⟨rfl, g2⟩
    have G := Lib.hid (Gr.trans G0.out g2)
    clear g2
    go_wp2
    go_ret
    exact ⟨_, rfl, rfl, G.out⟩
end Pt
end Go.Proofs.Ytgnogoghfendpaa

