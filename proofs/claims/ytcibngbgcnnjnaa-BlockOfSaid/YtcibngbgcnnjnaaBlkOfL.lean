/- The walk of BlockOf. No condition but sizes. -/
import Derived.Test.YtcibngbgcnnjnaaSigAwake
import Derived.Test.YtcibngbgcnnjnaaSigRef
import Derived.Test.YtcibngbgcnnjnaaSigSame
import Derived.Test.YtcibngbgcnnjnaaBlkAtN
set_option linter.unusedVariables false
set_option linter.unusedSimpArgs false
namespace Go.Proofs.Ytcibngbgcnnjnaa
open Go Go.RowKit W Bl
namespace Sg
/-- The value is the signature s. -/
def isSg (s : Sig) : Ass := fun v w => ∃ A c, v = sigV s A c ∧ SR w w.heap.size A s.bs
theorem isSg_lasts (s : Sig) : Lasts (isSg s) := fun _ _ _ hg ⟨A, c, hv, hr⟩ => ⟨A, c, hv, (hr.below hg).more hg.size⟩
theorem isSg_out {E : TypeId} {s : Sig} {A : Option Addr} {c base : Nat} {w : World} (h : OS E w base (.slice A s.bs.length c) s.bs) : isSg s (sigV s A c) w := ⟨A, c, rfl, OS.sr h⟩
theorem bs_le (l : List UInt8) (size : Int) (hl : l.length ≤ 1000000) : (sigOf l size).bs.length ≤ 1000000 := by
  simp only [sigOf, full_len]
  exact Nat.le_trans (Nat.div_le_self _ _) hl
set_option maxRecDepth 100000 in
set_option maxHeartbeats 8000000 in
theorem blockOf_walk (A : Option Addr) (c : Nat) (l : List UInt8) (size k : Int) (w : World) (hc : l.length ≤ c) (hcm : c ≤ maxLen) (hr : RB w w.heap.size A l) :
    Calls Try.prog 4 #[.slice A l.length c, .int .i64 size, .int .i64 k] w (Ret (eqv (.bool true)) w) := by
  by_cases h400 : l.length ≤ 400
  · have h400' : ¬ (400 : Int) < (l.length : Int) := by omega
    have hs1 : l.length ≤ 1000000 := by omega
    have hof := Lib.hid (of_any A c l size w hs1 hc hcm hr)
    have hto := Lib.hid (total_sigOf l size (by omega))
    have hri := Lib.hid (right_sigOf l size (by omega))
    have hrf := Lib.hid (fun w => refOf_any l size w hs1)
    have hbl := Lib.hid (fun w => refBlocks_any l size w hs1)
    have hcn := Lib.hid (fun w => count_any l.length size w (by omega))
    have hsg := Lib.hid (fun w hr => signOf_any A c l w hs1 hc hr)
    have hrg := Lib.hid (fun w => refSignOf_any l w hs1)
    have hble := Lib.hid (bs_le l size hs1)
    obtain ⟨x, hx⟩ : ∃ x, sign l = x := ⟨_, rfl⟩
    rw [hx] at hsg hrg
    obtain ⟨s, hsd⟩ : ∃ s, sigOf l size = s := ⟨_, rfl⟩
    rw [hsd] at hof hto hri hrf hble
    have hr' := Lib.hid hr
    have hfr := Lib.hid (fun A c w hl => from_any s A c w hl hble.out)
    have hsm := Lib.hid (fun A B c d w hl hm => refSame_any s s A B c d w hl hm hble.out)
    obtain ⟨n, hn⟩ : ∃ n, count l.length (hold size) = n := ⟨_, rfl⟩
    rw [hn] at hcn
    have hbn : (blocks l (hold size)).length = n := by rw [blocks_len, hn]
    have hat : ∃ W, (0 ≤ k ∧ k < (n : Int) → ∃ j : Nat, k = (j : Int) ∧ j < n ∧ ((blocks l (hold size)).map str)[j]? = some (str W)) ∧ (¬ (0 ≤ k ∧ k < (n : Int)) → W = []) ∧
        ∀ A c w, l.length ≤ c → RB w w.heap.size A l → Calls Try.prog 17 #[.slice A l.length c, .int .i64 size, .int .i64 k] w fun e w' => ∃ v, e = .returned v ∧ isB W v w' ∧ Gr w w' := by
      by_cases hk : 0 ≤ k ∧ k < (n : Int)
      · obtain ⟨j, hj⟩ : ∃ j : Nat, k = (j : Int) := ⟨k.toNat, by omega⟩
        subst hj
        have hjn : j < n := by omega
        refine ⟨at_ l (hold size) j, fun _ => ⟨j, rfl, hjn, ?_⟩, fun h => absurd hk h, fun A c w hc hr => (at_any A c l size j w hs1 hc hr (by omega)).mono ?_⟩
        · rw [List.getElem?_map, List.getElem?_eq_getElem (by omega), blocks_get]
          rfl
        · rintro e w' ⟨A', c', rfl, o, g⟩
          exact ⟨_, rfl, isB_of_own o, g⟩
      · refine ⟨[], fun h => absurd h hk, fun _ => rfl, fun A c w hc hr => (at_none A c l.length size k w hs1 (by rw [hn]; exact hk)).mono ?_⟩
        rintro e w' ⟨rfl, rfl⟩
        exact ⟨_, rfl, isB_nil _, Gr.refl _⟩
    obtain ⟨W, hW1, hW2, hat⟩ := hat
    have hW1 := Lib.hid hW1
    have hat := Lib.hid hat
    generalize blocks l (hold size) = bl at *
    clear hn hsd hx hr
    go_enter Try.func4, Try.ntmps4
    go_wp2_with fail
    go_at_call 10
    refine hof.out.mono ?_
    rintro e w1 ⟨A1, c1, rfl, o1, g1⟩
    have n1 := Lib.hid (Blk.new w1 35 (sigC s.size (.slice A1 s.bs.length c1) s.tail s.last))
    have r1 := Lib.hid (((OS.sr o1).below ((Gr.refl w1).alloc (.cells (sigC s.size (.slice A1 s.bs.length c1) s.tail s.last) 35))).more (by rw [World.size_alloc]; omega) : SR (w1.alloc (.cells (sigC s.size (.slice A1 s.bs.length c1) s.tail s.last) 35)) (w1.alloc (.cells (sigC s.size (.slice A1 s.bs.length c1) s.tail s.last) 35)).heap.size A1 s.bs)
    have G1 := Lib.hid (Gr.alloc g1 (.cells (sigC s.size (.slice A1 s.bs.length c1) s.tail s.last) 35))
    have rA := Lib.hid ((hr'.out.below G1.out).more (Below.size G1.out))
    clear g1 o1 hof
    go_wp2_with (first
      | (refine wpList_bytes_string rfl (.tmp 19) 26 9 5 rfl Try.underlying26 Bl.byteType.1 Try.underlying9 _ _ _ _ l rfl rfl rA.out ?_))
    go_at_call 11
    refine (hbl.out _).mono ?_
    rintro e w2 ⟨A2, c2, rfl, o2, g2⟩
    rw [hbn] at o2 ⊢
    have n2 := Lib.hid (blk_more n1.out g2)
    have r2 := Lib.hid ((r1.out.below g2).more (Below.size g2))
    have G2 := Lib.hid (Gr.trans G1.out g2)
    have rB := Lib.hid ((rA.out.below g2).more (Below.size g2))
    have o2 := Lib.hid (OR.reads o2)
    clear n1 r1 G1 rA g2 hbl
    by_cases hk : 0 ≤ k ∧ k < (n : Int)
    · obtain ⟨k1, k2⟩ := hk
      clear hW2
      obtain ⟨j, hj, hjn, hj2⟩ := hW1.out ⟨k1, k2⟩
      obtain ⟨ad, u, hA2, hlt, hu, e0⟩ := Reads.at_ o2.out hjn
      obtain rfl : u = str W := Option.some.inj (hu.symm.trans hj2)
      subst hA2 hj
      clear hu hj2 hlt
      go_wp2_with fail
      go_at_call 12
      refine (hsg.out w2 rB.out).mono ?_
      rintro e wX ⟨rfl, g3⟩
      have n3 := Lib.hid ((blk_more n2.out g3).alloc (.cells #[.int .u32 (n32 x.1), .int .u64 (n64 x.2.1), .int .u64 (n64 x.2.2)] 33))
      have m3 := Lib.hid (Blk.new wX 33 #[.int .u32 (n32 x.1), .int .u64 (n64 x.2.1), .int .u64 (n64 x.2.2)])
      have G3 := Lib.hid ((Gr.trans G2.out g3).alloc (.cells #[.int .u32 (n32 x.1), .int .u64 (n64 x.2.1), .int .u64 (n64 x.2.2)] 33))
      have gg3 := Gr.alloc g3 (.cells #[.int .u32 (n32 x.1), .int .u64 (n64 x.2.1), .int .u64 (n64 x.2.2)] 33)
      have r3 := Lib.hid ((r2.out.below gg3).more (Below.size gg3))
      have rC := Lib.hid ((rB.out.below gg3).more (Below.size gg3))
      clear n2 r2 G2 rB g3 gg3 hsg
      go_wp2_with (first
        | (refine wpList_bytes_string rfl (.tmp 37) 26 9 5 rfl Try.underlying26 Bl.byteType.1 Try.underlying9 _ _ _ _ l rfl rfl rC.out ?_))
      go_at_call 13
      refine (hrg.out _).mono ?_
      rintro e wZ ⟨rfl, g4⟩
      have gg4 := Gr.alloc g4 (.cells #[.int .u32 (n32 x.1), .int .u64 (n64 x.2.1), .int .u64 (n64 x.2.2)] 40)
      have n4 := Lib.hid (blk_more n3.out gg4)
      have m4 := Lib.hid (blk_more m3.out gg4)
      have q4 := Lib.hid (Blk.new wZ 40 #[.int .u32 (n32 x.1), .int .u64 (n64 x.2.1), .int .u64 (n64 x.2.2)])
      have r4 := Lib.hid ((r3.out.below gg4).more (Below.size gg4))
      have rD := Lib.hid ((rC.out.below gg4).more (Below.size gg4))
      have G4 := Lib.hid (Gr.trans G3.out gg4)
      clear n3 m3 r3 rC G3 g4 gg4 hrg
      go_wp2
      refine region_grow (by kernel_rfl) (by kernel_rfl) ?_
      refine GW.call0 (eqv (.bool true)) rfl trivial rfl Try.func9 (by kernel_rfl) (by kernel_rfl) (eqv_lasts _)  (fun w' hg => ?_) ?_
      · refine (awake_any w').mono ?_
        rintro e w9 ⟨rfl, hg9⟩
        exact ⟨_, rfl, rfl, hg9⟩
      refine GW.mv rfl trivial (.inl rfl) (kn (t := 40) (j := 0) (by kernel_rfl)) (eqv_lasts _) ?_
      refine GW.p1 (.agg #[.int .i64 s.size, .slice A1 s.bs.length c1, .int .i64 s.tail, .int .u32 (n32 s.last.1), .int .u64 (n64 s.last.2.1), .int .u64 (n64 s.last.2.2)]) rfl ⟨41, by kernel_rfl, by kernel_rfl, fun _ _ h => h⟩ (kn0 (t := 7) (c := .pointer (some ⟨w1.heap.size, 0, none⟩)) (by kernel_rfl) rfl) (fun ρ w' hρ hg => by simp [execOp, hρ, go_sem, (hg.cell (p := ⟨w1.heap.size, 0, none⟩) n4.out.lt).trans (n4.out.cell 0), (hg.cell (p := ⟨w1.heap.size, 1, none⟩) n4.out.lt).trans (n4.out.cell 1), (hg.cell (p := ⟨w1.heap.size, 2, none⟩) n4.out.lt).trans (n4.out.cell 2), (hg.cell (p := ⟨w1.heap.size, 3, none⟩) n4.out.lt).trans (n4.out.cell 3), (hg.cell (p := ⟨w1.heap.size, 4, none⟩) n4.out.lt).trans (n4.out.cell 4), (hg.cell (p := ⟨w1.heap.size, 5, none⟩) n4.out.lt).trans (n4.out.cell 5)]) ?_
      refine GW.call1 (isSg s) rfl ⟨41, by kernel_rfl, by kernel_rfl, fun _ _ h => h⟩ rfl Try.func15 (by kernel_rfl) (by kernel_rfl) (isSg_lasts _) (kn (t := 42) (j := 2) (by kernel_rfl)) (fun v w' hg hv => ?_) ?_
      · obtain rfl : v = _ := hv
        refine (hfr.out A1 c1 w' ((r4.out.below hg).more (Below.size hg))).mono ?_
        rintro e w9 ⟨A9, c9, rfl, o9, hg9⟩
        exact ⟨_, rfl, isSg_out o9, hg9⟩
      refine GW.mv rfl ⟨41, by kernel_rfl, by kernel_rfl, fun _ _ h => h⟩ (.inl rfl) (kn0' (t := 0) (c := .slice A l.length c) (by kernel_rfl) rfl (isB_lasts _) (⟨A, c, rfl, hc, hcm, rD.out⟩)) (isB_lasts _) ?_
      refine GW.bs (l) rfl ⟨41, by kernel_rfl, by kernel_rfl, fun _ _ h => h⟩ rfl Try.underlying26 byteType.1 Try.underlying9 (kn (t := 44) (j := 4) (by kernel_rfl)) ?_
      refine GW.mv rfl ⟨41, by kernel_rfl, by kernel_rfl, fun _ _ h => h⟩ (.inl rfl) (kn0 (t := 1) (c := .int .i64 size) (by kernel_rfl) rfl) (eqv_lasts _) ?_
      refine GW.call2 (isSg s) rfl ⟨41, by kernel_rfl, by kernel_rfl, fun _ _ h => h⟩ rfl Try.func16 (by kernel_rfl) (by kernel_rfl) (isSg_lasts _) (kn (t := 45) (j := 5) (by kernel_rfl)) (kn (t := 46) (j := 6) (by kernel_rfl)) (fun v u w' hg hv hu => ?_) ?_
      · obtain rfl : v = _ := hv
        obtain rfl : u = _ := hu
        refine (hrf.out w').mono ?_
        rintro e w9 ⟨A9, c9, rfl, o9, hg9⟩
        exact ⟨_, rfl, isSg_out o9, hg9⟩
      refine GW.call2 (eqv (.bool true)) rfl ⟨41, by kernel_rfl, by kernel_rfl, fun _ _ h => h⟩ rfl Try.func14 (by kernel_rfl) (by kernel_rfl) (eqv_lasts _) (kn (t := 43) (j := 3) (by kernel_rfl)) (kn (t := 47) (j := 7) (by kernel_rfl)) (fun v u w' hg hv hu => ?_) ?_
      · obtain ⟨A8, c8, rfl, q8⟩ := hv
        obtain ⟨A9, c9, rfl, q9⟩ := hu
        refine (hsm.out A8 A9 c8 c9 w' q8 q9).mono ?_
        rintro e w9 ⟨rfl, hg9⟩
        exact ⟨_, rfl, rfl, hg9⟩
      refine GW.pick (b := true) rfl trivial rfl (kn (t := 41) (j := 1) (by kernel_rfl)) (kn (t := 48) (j := 8) (by kernel_rfl)) (eqv_lasts _) ?_
      refine GW.mv rfl trivial (.inl rfl) (kn (t := 49) (j := 9) (by kernel_rfl)) (eqv_lasts _) ?_
      refine GW.mv rfl ⟨50, by kernel_rfl, by kernel_rfl, fun _ _ h => h⟩ (.inl rfl) (kn0' (t := 0) (c := .slice A l.length c) (by kernel_rfl) rfl (isB_lasts _) (⟨A, c, rfl, hc, hcm, rD.out⟩)) (isB_lasts _) ?_
      refine GW.lenB l rfl ⟨50, by kernel_rfl, by kernel_rfl, fun _ _ h => h⟩ rfl Try.underlying26 (kn (t := 51) (j := 11) (by kernel_rfl)) ?_
      refine GW.mv rfl ⟨50, by kernel_rfl, by kernel_rfl, fun _ _ h => h⟩ (.inl rfl) (kn0 (t := 1) (c := .int .i64 size) (by kernel_rfl) rfl) (eqv_lasts _) ?_
      refine GW.call2 (eqv (.int .i64 (n : Int))) rfl ⟨50, by kernel_rfl, by kernel_rfl, fun _ _ h => h⟩ rfl Try.func7 (by kernel_rfl) (by kernel_rfl) (eqv_lasts _) (kn (t := 52) (j := 12) (by kernel_rfl)) (kn (t := 53) (j := 13) (by kernel_rfl)) (fun v u w' hg hv hu => ?_) ?_
      · obtain rfl : v = _ := hv
        obtain rfl : u = _ := hu
        refine (hcn.out w').mono ?_
        rintro e w9 ⟨rfl, rfl⟩
        exact ⟨_, rfl, rfl, Gr.refl _⟩
      refine GW.mv rfl ⟨50, by kernel_rfl, by kernel_rfl, fun _ _ h => h⟩ (.inl rfl) (kn0 (t := 8) (c := .slice (some ad) n c2) (by kernel_rfl) rfl) (eqv_lasts _) ?_
      refine GW.lenV rfl ⟨50, by kernel_rfl, by kernel_rfl, fun _ _ h => h⟩ rfl Try.underlying37 (kn (t := 55) (j := 15) (by kernel_rfl)) ?_
      refine GW.bin (.bool true) rfl ⟨50, by kernel_rfl, by kernel_rfl, fun _ _ h => h⟩ rfl (kn (t := 54) (j := 14) (by kernel_rfl)) (kn (t := 56) (j := 16) (by kernel_rfl)) (fun w' => by simp [go_sem]) ?_
      refine GW.pick (b := true) rfl trivial rfl (kn (t := 50) (j := 10) (by kernel_rfl)) (kn (t := 57) (j := 17) (by kernel_rfl)) (eqv_lasts _) ?_
      refine GW.mv rfl trivial (.inl rfl) (kn (t := 58) (j := 18) (by kernel_rfl)) (eqv_lasts _) ?_
      refine GW.mv rfl ⟨59, by kernel_rfl, by kernel_rfl, fun _ _ h => h⟩ (.inl rfl) (kn0' (t := 0) (c := .slice A l.length c) (by kernel_rfl) rfl (isB_lasts _) (⟨A, c, rfl, hc, hcm, rD.out⟩)) (isB_lasts _) ?_
      refine GW.mv rfl ⟨59, by kernel_rfl, by kernel_rfl, fun _ _ h => h⟩ (.inl rfl) (kn0 (t := 1) (c := .int .i64 size) (by kernel_rfl) rfl) (eqv_lasts _) ?_
      refine GW.mv rfl ⟨59, by kernel_rfl, by kernel_rfl, fun _ _ h => h⟩ (.inl rfl) (kn0 (t := 2) (c := .int .i64 (j : Int)) (by kernel_rfl) rfl) (eqv_lasts _) ?_
      refine GW.call3 (isB W) rfl ⟨59, by kernel_rfl, by kernel_rfl, fun _ _ h => h⟩ rfl Try.func17 (by kernel_rfl) (by kernel_rfl) (isB_lasts _) (kn (t := 60) (j := 20) (by kernel_rfl)) (kn (t := 61) (j := 21) (by kernel_rfl)) (kn (t := 62) (j := 22) (by kernel_rfl)) (fun v u s3 w' hg hv hu hs' => ?_) ?_
      · obtain ⟨A8, c8, rfl, q1, q2, q3⟩ := hv
        obtain rfl : u = _ := hu
        obtain rfl : s3 = _ := hs'
        refine (hat.out A8 c8 w' q1 q3).mono ?_
        rintro e w9 ⟨v9, rfl, i9, hg9⟩
        exact ⟨_, rfl, i9, hg9⟩
      refine GW.bs (W) rfl ⟨59, by kernel_rfl, by kernel_rfl, fun _ _ h => h⟩ rfl Try.underlying26 byteType.1 Try.underlying9 (kn (t := 63) (j := 23) (by kernel_rfl)) ?_
      refine GW.mv rfl ⟨59, by kernel_rfl, by kernel_rfl, fun _ _ h => h⟩ (.inl rfl) (kn0 (t := 9) (c := str W) (by kernel_rfl) rfl) (eqv_lasts _) ?_
      refine GW.bin (.bool true) rfl ⟨59, by kernel_rfl, by kernel_rfl, fun _ _ h => h⟩ rfl (kn (t := 64) (j := 24) (by kernel_rfl)) (kn (t := 65) (j := 25) (by kernel_rfl)) (fun w' => by simp [go_sem]) ?_
      refine GW.pick (b := true) rfl trivial rfl (kn (t := 59) (j := 19) (by kernel_rfl)) (kn (t := 66) (j := 26) (by kernel_rfl)) (eqv_lasts _) ?_
      refine GW.mv rfl trivial (.inl rfl) (kn (t := 67) (j := 27) (by kernel_rfl)) (eqv_lasts _) ?_
      refine GW.p1 (.agg #[.int .i64 s.size, .slice A1 s.bs.length c1, .int .i64 s.tail, .int .u32 (n32 s.last.1), .int .u64 (n64 s.last.2.1), .int .u64 (n64 s.last.2.2)]) rfl ⟨68, by kernel_rfl, by kernel_rfl, fun _ _ h => h⟩ (kn0 (t := 7) (c := .pointer (some ⟨w1.heap.size, 0, none⟩)) (by kernel_rfl) rfl) (fun ρ w' hρ hg => by simp [execOp, hρ, go_sem, (hg.cell (p := ⟨w1.heap.size, 0, none⟩) n4.out.lt).trans (n4.out.cell 0), (hg.cell (p := ⟨w1.heap.size, 1, none⟩) n4.out.lt).trans (n4.out.cell 1), (hg.cell (p := ⟨w1.heap.size, 2, none⟩) n4.out.lt).trans (n4.out.cell 2), (hg.cell (p := ⟨w1.heap.size, 3, none⟩) n4.out.lt).trans (n4.out.cell 3), (hg.cell (p := ⟨w1.heap.size, 4, none⟩) n4.out.lt).trans (n4.out.cell 4), (hg.cell (p := ⟨w1.heap.size, 5, none⟩) n4.out.lt).trans (n4.out.cell 5)]) ?_
      refine GW.call1 (eqv (.int .i64 (l.length : Int))) rfl ⟨68, by kernel_rfl, by kernel_rfl, fun _ _ h => h⟩ rfl Try.func18 (by kernel_rfl) (by kernel_rfl) (eqv_lasts _) (kn (t := 69) (j := 29) (by kernel_rfl)) (fun v w' hg hv => ?_) ?_
      · obtain rfl : v = _ := hv
        refine (total_any s A1 c1 w').mono ?_
        rw [hto.out]
        rintro e w9 ⟨rfl, hg9⟩
        exact ⟨_, rfl, rfl, hg9⟩
      refine GW.mv rfl ⟨68, by kernel_rfl, by kernel_rfl, fun _ _ h => h⟩ (.inl rfl) (kn0' (t := 0) (c := .slice A l.length c) (by kernel_rfl) rfl (isB_lasts _) (⟨A, c, rfl, hc, hcm, rD.out⟩)) (isB_lasts _) ?_
      refine GW.lenB l rfl ⟨68, by kernel_rfl, by kernel_rfl, fun _ _ h => h⟩ rfl Try.underlying26 (kn (t := 71) (j := 31) (by kernel_rfl)) ?_
      refine GW.bin (.bool true) rfl ⟨68, by kernel_rfl, by kernel_rfl, fun _ _ h => h⟩ rfl (kn (t := 70) (j := 30) (by kernel_rfl)) (kn (t := 72) (j := 32) (by kernel_rfl)) (fun w' => by simp [go_sem]) ?_
      refine GW.pick (b := true) rfl trivial rfl (kn (t := 68) (j := 28) (by kernel_rfl)) (kn (t := 73) (j := 33) (by kernel_rfl)) (eqv_lasts _) ?_
      refine GW.mv rfl trivial (.inl rfl) (kn (t := 74) (j := 34) (by kernel_rfl)) (eqv_lasts _) ?_
      refine GW.p1 (.agg #[.int .i64 s.size, .slice A1 s.bs.length c1, .int .i64 s.tail, .int .u32 (n32 s.last.1), .int .u64 (n64 s.last.2.1), .int .u64 (n64 s.last.2.2)]) rfl ⟨75, by kernel_rfl, by kernel_rfl, fun _ _ h => h⟩ (kn0 (t := 7) (c := .pointer (some ⟨w1.heap.size, 0, none⟩)) (by kernel_rfl) rfl) (fun ρ w' hρ hg => by simp [execOp, hρ, go_sem, (hg.cell (p := ⟨w1.heap.size, 0, none⟩) n4.out.lt).trans (n4.out.cell 0), (hg.cell (p := ⟨w1.heap.size, 1, none⟩) n4.out.lt).trans (n4.out.cell 1), (hg.cell (p := ⟨w1.heap.size, 2, none⟩) n4.out.lt).trans (n4.out.cell 2), (hg.cell (p := ⟨w1.heap.size, 3, none⟩) n4.out.lt).trans (n4.out.cell 3), (hg.cell (p := ⟨w1.heap.size, 4, none⟩) n4.out.lt).trans (n4.out.cell 4), (hg.cell (p := ⟨w1.heap.size, 5, none⟩) n4.out.lt).trans (n4.out.cell 5)]) ?_
      refine GW.call1 (eqv (.bool true)) rfl ⟨75, by kernel_rfl, by kernel_rfl, fun _ _ h => h⟩ rfl Try.func19 (by kernel_rfl) (by kernel_rfl) (eqv_lasts _) (kn (t := 76) (j := 36) (by kernel_rfl)) (fun v w' hg hv => ?_) ?_
      · obtain rfl : v = _ := hv
        refine (right_any s A1 c1 w').mono ?_
        rw [hri.out]
        rintro e w9 ⟨rfl, hg9⟩
        exact ⟨_, rfl, rfl, hg9⟩
      refine GW.pick (b := true) rfl trivial rfl (kn (t := 75) (j := 35) (by kernel_rfl)) (kn (t := 77) (j := 37) (by kernel_rfl)) (eqv_lasts _) ?_
      refine GW.mv rfl trivial (.inl rfl) (kn (t := 78) (j := 38) (by kernel_rfl)) (eqv_lasts _) ?_
      refine GW.p1 (.pointer (some ⟨wX.heap.size, 0, none⟩)) rfl ⟨79, by kernel_rfl, by kernel_rfl, fun _ _ h => h⟩ (kn0 (t := 10) (c := .pointer (some ⟨wX.heap.size, 0, none⟩)) (by kernel_rfl) rfl) (fun ρ w' hρ hg => by simp [execOp, hρ, go_sem]) ?_
      refine GW.p1 (.int .u32 (n32 x.1)) rfl ⟨79, by kernel_rfl, by kernel_rfl, fun _ _ h => h⟩ (kn (t := 80) (j := 40) (by kernel_rfl)) (fun ρ w' hρ hg => by simp [execOp, hρ, go_sem, (hg.cell (p := ⟨wX.heap.size, 0, none⟩) m4.out.lt).trans (m4.out.cell 0)]) ?_
      refine GW.p1 (.pointer (some ⟨wZ.heap.size, 0, none⟩)) rfl ⟨79, by kernel_rfl, by kernel_rfl, fun _ _ h => h⟩ (kn0 (t := 11) (c := .pointer (some ⟨wZ.heap.size, 0, none⟩)) (by kernel_rfl) rfl) (fun ρ w' hρ hg => by simp [execOp, hρ, go_sem]) ?_
      refine GW.p1 (.int .u32 (n32 x.1)) rfl ⟨79, by kernel_rfl, by kernel_rfl, fun _ _ h => h⟩ (kn (t := 82) (j := 42) (by kernel_rfl)) (fun ρ w' hρ hg => by simp [execOp, hρ, go_sem, (hg.cell (p := ⟨wZ.heap.size, 0, none⟩) q4.out.lt).trans (q4.out.cell 0)]) ?_
      refine GW.bin (.bool true) rfl ⟨79, by kernel_rfl, by kernel_rfl, fun _ _ h => h⟩ rfl (kn (t := 81) (j := 41) (by kernel_rfl)) (kn (t := 83) (j := 43) (by kernel_rfl)) (fun w' => by simp [go_sem]) ?_
      refine GW.pick (b := true) rfl trivial rfl (kn (t := 79) (j := 39) (by kernel_rfl)) (kn (t := 84) (j := 44) (by kernel_rfl)) (eqv_lasts _) ?_
      refine GW.mv rfl trivial (.inl rfl) (kn (t := 85) (j := 45) (by kernel_rfl)) (eqv_lasts _) ?_
      refine GW.p1 (.pointer (some ⟨wX.heap.size, 1, none⟩)) rfl ⟨86, by kernel_rfl, by kernel_rfl, fun _ _ h => h⟩ (kn0 (t := 10) (c := .pointer (some ⟨wX.heap.size, 0, none⟩)) (by kernel_rfl) rfl) (fun ρ w' hρ hg => by simp [execOp, hρ, go_sem]) ?_
      refine GW.p1 (.agg #[.int .u64 (n64 x.2.1), .int .u64 (n64 x.2.2)]) rfl ⟨86, by kernel_rfl, by kernel_rfl, fun _ _ h => h⟩ (kn (t := 87) (j := 47) (by kernel_rfl)) (fun ρ w' hρ hg => by simp [execOp, hρ, go_sem, (hg.cell (p := ⟨wX.heap.size, 1, none⟩) m4.out.lt).trans (m4.out.cell 1), (hg.cell (p := ⟨wX.heap.size, 2, none⟩) m4.out.lt).trans (m4.out.cell 2)]) ?_
      refine GW.p1 (.pointer (some ⟨wZ.heap.size, 1, none⟩)) rfl ⟨86, by kernel_rfl, by kernel_rfl, fun _ _ h => h⟩ (kn0 (t := 11) (c := .pointer (some ⟨wZ.heap.size, 0, none⟩)) (by kernel_rfl) rfl) (fun ρ w' hρ hg => by simp [execOp, hρ, go_sem]) ?_
      refine GW.p1 (.agg #[.int .u64 (n64 x.2.1), .int .u64 (n64 x.2.2)]) rfl ⟨86, by kernel_rfl, by kernel_rfl, fun _ _ h => h⟩ (kn (t := 89) (j := 49) (by kernel_rfl)) (fun ρ w' hρ hg => by simp [execOp, hρ, go_sem, (hg.cell (p := ⟨wZ.heap.size, 1, none⟩) q4.out.lt).trans (q4.out.cell 1), (hg.cell (p := ⟨wZ.heap.size, 2, none⟩) q4.out.lt).trans (q4.out.cell 2)]) ?_
      refine GW.bin (.bool true) rfl ⟨86, by kernel_rfl, by kernel_rfl, fun _ _ h => h⟩ rfl (kn (t := 88) (j := 48) (by kernel_rfl)) (kn (t := 90) (j := 50) (by kernel_rfl)) (fun w' => by simp [go_sem]) ?_
      refine GW.pick (b := true) rfl trivial rfl (kn (t := 86) (j := 46) (by kernel_rfl)) (kn (t := 91) (j := 51) (by kernel_rfl)) (eqv_lasts _) ?_
      refine GW.mv rfl trivial (.inr rfl) (kn (t := 92) (j := 52) (by kernel_rfl)) (eqv_lasts _) ?_
      refine GW.done (by simp) (by kernel_rfl) (fun w' hg_ => ?_)
      intro v0 _ v1 _ v2 _ v3 _ v4 _ v5 _ v6 _ v7 _ v8 _ v9 _ v10 _ v11 _ v12 _ v13 _ v14 _ v15 _ v16 _ v17 _ v18 _ v19 _ v20 _ v21 _ v22 _ v23 _ v24 _ v25 _ v26 _ v27 _ v28 _ v29 _ v30 _ v31 _ v32 _ v33 _ v34 _ v35 _ v36 _ v37 _ v38 _ v39 _ v40 _ v41 _ v42 _ v43 _ v44 _ v45 _ v46 _ v47 _ v48 _ v49 _ v50 _ v51 _ v52 _ v53 h53
      obtain rfl : v53 = (.bool true) := h53
      simp only [GFin, Act.put, List.setIfInBounds_toArray, List.set_cons_succ, List.set_cons_zero]
      go_wp2
      go_ret
      exact ⟨_, rfl, rfl, Gr.trans G4.out hg_⟩
    · obtain rfl : W = [] := hW2 hk
      have hk' : 0 ≤ k → ¬ k < (n : Int) := by omega
      clear hW2 hW1
      by_cases k0 : 0 ≤ k
      · have k1 := hk' k0
        clear hk hk'
        go_wp2_with fail
        go_at_call 12
        refine (hsg.out w2 rB.out).mono ?_
        rintro e wX ⟨rfl, g3⟩
        have n3 := Lib.hid ((blk_more n2.out g3).alloc (.cells #[.int .u32 (n32 x.1), .int .u64 (n64 x.2.1), .int .u64 (n64 x.2.2)] 33))
        have m3 := Lib.hid (Blk.new wX 33 #[.int .u32 (n32 x.1), .int .u64 (n64 x.2.1), .int .u64 (n64 x.2.2)])
        have G3 := Lib.hid ((Gr.trans G2.out g3).alloc (.cells #[.int .u32 (n32 x.1), .int .u64 (n64 x.2.1), .int .u64 (n64 x.2.2)] 33))
        have gg3 := Gr.alloc g3 (.cells #[.int .u32 (n32 x.1), .int .u64 (n64 x.2.1), .int .u64 (n64 x.2.2)] 33)
        have r3 := Lib.hid ((r2.out.below gg3).more (Below.size gg3))
        have rC := Lib.hid ((rB.out.below gg3).more (Below.size gg3))
        clear n2 r2 G2 rB g3 gg3 hsg
        go_wp2_with (first
          | (refine wpList_bytes_string rfl (.tmp 37) 26 9 5 rfl Try.underlying26 Bl.byteType.1 Try.underlying9 _ _ _ _ l rfl rfl rC.out ?_))
        go_at_call 13
        refine (hrg.out _).mono ?_
        rintro e wZ ⟨rfl, g4⟩
        have gg4 := Gr.alloc g4 (.cells #[.int .u32 (n32 x.1), .int .u64 (n64 x.2.1), .int .u64 (n64 x.2.2)] 40)
        have n4 := Lib.hid (blk_more n3.out gg4)
        have m4 := Lib.hid (blk_more m3.out gg4)
        have q4 := Lib.hid (Blk.new wZ 40 #[.int .u32 (n32 x.1), .int .u64 (n64 x.2.1), .int .u64 (n64 x.2.2)])
        have r4 := Lib.hid ((r3.out.below gg4).more (Below.size gg4))
        have rD := Lib.hid ((rC.out.below gg4).more (Below.size gg4))
        have G4 := Lib.hid (Gr.trans G3.out gg4)
        clear n3 m3 r3 rC G3 g4 gg4 hrg
        go_wp2
        refine region_grow (by kernel_rfl) (by kernel_rfl) ?_
        refine GW.call0 (eqv (.bool true)) rfl trivial rfl Try.func9 (by kernel_rfl) (by kernel_rfl) (eqv_lasts _)  (fun w' hg => ?_) ?_
        · refine (awake_any w').mono ?_
          rintro e w9 ⟨rfl, hg9⟩
          exact ⟨_, rfl, rfl, hg9⟩
        refine GW.mv rfl trivial (.inl rfl) (kn (t := 40) (j := 0) (by kernel_rfl)) (eqv_lasts _) ?_
        refine GW.p1 (.agg #[.int .i64 s.size, .slice A1 s.bs.length c1, .int .i64 s.tail, .int .u32 (n32 s.last.1), .int .u64 (n64 s.last.2.1), .int .u64 (n64 s.last.2.2)]) rfl ⟨41, by kernel_rfl, by kernel_rfl, fun _ _ h => h⟩ (kn0 (t := 7) (c := .pointer (some ⟨w1.heap.size, 0, none⟩)) (by kernel_rfl) rfl) (fun ρ w' hρ hg => by simp [execOp, hρ, go_sem, (hg.cell (p := ⟨w1.heap.size, 0, none⟩) n4.out.lt).trans (n4.out.cell 0), (hg.cell (p := ⟨w1.heap.size, 1, none⟩) n4.out.lt).trans (n4.out.cell 1), (hg.cell (p := ⟨w1.heap.size, 2, none⟩) n4.out.lt).trans (n4.out.cell 2), (hg.cell (p := ⟨w1.heap.size, 3, none⟩) n4.out.lt).trans (n4.out.cell 3), (hg.cell (p := ⟨w1.heap.size, 4, none⟩) n4.out.lt).trans (n4.out.cell 4), (hg.cell (p := ⟨w1.heap.size, 5, none⟩) n4.out.lt).trans (n4.out.cell 5)]) ?_
        refine GW.call1 (isSg s) rfl ⟨41, by kernel_rfl, by kernel_rfl, fun _ _ h => h⟩ rfl Try.func15 (by kernel_rfl) (by kernel_rfl) (isSg_lasts _) (kn (t := 42) (j := 2) (by kernel_rfl)) (fun v w' hg hv => ?_) ?_
        · obtain rfl : v = _ := hv
          refine (hfr.out A1 c1 w' ((r4.out.below hg).more (Below.size hg))).mono ?_
          rintro e w9 ⟨A9, c9, rfl, o9, hg9⟩
          exact ⟨_, rfl, isSg_out o9, hg9⟩
        refine GW.mv rfl ⟨41, by kernel_rfl, by kernel_rfl, fun _ _ h => h⟩ (.inl rfl) (kn0' (t := 0) (c := .slice A l.length c) (by kernel_rfl) rfl (isB_lasts _) (⟨A, c, rfl, hc, hcm, rD.out⟩)) (isB_lasts _) ?_
        refine GW.bs (l) rfl ⟨41, by kernel_rfl, by kernel_rfl, fun _ _ h => h⟩ rfl Try.underlying26 byteType.1 Try.underlying9 (kn (t := 44) (j := 4) (by kernel_rfl)) ?_
        refine GW.mv rfl ⟨41, by kernel_rfl, by kernel_rfl, fun _ _ h => h⟩ (.inl rfl) (kn0 (t := 1) (c := .int .i64 size) (by kernel_rfl) rfl) (eqv_lasts _) ?_
        refine GW.call2 (isSg s) rfl ⟨41, by kernel_rfl, by kernel_rfl, fun _ _ h => h⟩ rfl Try.func16 (by kernel_rfl) (by kernel_rfl) (isSg_lasts _) (kn (t := 45) (j := 5) (by kernel_rfl)) (kn (t := 46) (j := 6) (by kernel_rfl)) (fun v u w' hg hv hu => ?_) ?_
        · obtain rfl : v = _ := hv
          obtain rfl : u = _ := hu
          refine (hrf.out w').mono ?_
          rintro e w9 ⟨A9, c9, rfl, o9, hg9⟩
          exact ⟨_, rfl, isSg_out o9, hg9⟩
        refine GW.call2 (eqv (.bool true)) rfl ⟨41, by kernel_rfl, by kernel_rfl, fun _ _ h => h⟩ rfl Try.func14 (by kernel_rfl) (by kernel_rfl) (eqv_lasts _) (kn (t := 43) (j := 3) (by kernel_rfl)) (kn (t := 47) (j := 7) (by kernel_rfl)) (fun v u w' hg hv hu => ?_) ?_
        · obtain ⟨A8, c8, rfl, q8⟩ := hv
          obtain ⟨A9, c9, rfl, q9⟩ := hu
          refine (hsm.out A8 A9 c8 c9 w' q8 q9).mono ?_
          rintro e w9 ⟨rfl, hg9⟩
          exact ⟨_, rfl, rfl, hg9⟩
        refine GW.pick (b := true) rfl trivial rfl (kn (t := 41) (j := 1) (by kernel_rfl)) (kn (t := 48) (j := 8) (by kernel_rfl)) (eqv_lasts _) ?_
        refine GW.mv rfl trivial (.inl rfl) (kn (t := 49) (j := 9) (by kernel_rfl)) (eqv_lasts _) ?_
        refine GW.mv rfl ⟨50, by kernel_rfl, by kernel_rfl, fun _ _ h => h⟩ (.inl rfl) (kn0' (t := 0) (c := .slice A l.length c) (by kernel_rfl) rfl (isB_lasts _) (⟨A, c, rfl, hc, hcm, rD.out⟩)) (isB_lasts _) ?_
        refine GW.lenB l rfl ⟨50, by kernel_rfl, by kernel_rfl, fun _ _ h => h⟩ rfl Try.underlying26 (kn (t := 51) (j := 11) (by kernel_rfl)) ?_
        refine GW.mv rfl ⟨50, by kernel_rfl, by kernel_rfl, fun _ _ h => h⟩ (.inl rfl) (kn0 (t := 1) (c := .int .i64 size) (by kernel_rfl) rfl) (eqv_lasts _) ?_
        refine GW.call2 (eqv (.int .i64 (n : Int))) rfl ⟨50, by kernel_rfl, by kernel_rfl, fun _ _ h => h⟩ rfl Try.func7 (by kernel_rfl) (by kernel_rfl) (eqv_lasts _) (kn (t := 52) (j := 12) (by kernel_rfl)) (kn (t := 53) (j := 13) (by kernel_rfl)) (fun v u w' hg hv hu => ?_) ?_
        · obtain rfl : v = _ := hv
          obtain rfl : u = _ := hu
          refine (hcn.out w').mono ?_
          rintro e w9 ⟨rfl, rfl⟩
          exact ⟨_, rfl, rfl, Gr.refl _⟩
        refine GW.mv rfl ⟨50, by kernel_rfl, by kernel_rfl, fun _ _ h => h⟩ (.inl rfl) (kn0 (t := 8) (c := .slice A2 n c2) (by kernel_rfl) rfl) (eqv_lasts _) ?_
        refine GW.lenV rfl ⟨50, by kernel_rfl, by kernel_rfl, fun _ _ h => h⟩ rfl Try.underlying37 (kn (t := 55) (j := 15) (by kernel_rfl)) ?_
        refine GW.bin (.bool true) rfl ⟨50, by kernel_rfl, by kernel_rfl, fun _ _ h => h⟩ rfl (kn (t := 54) (j := 14) (by kernel_rfl)) (kn (t := 56) (j := 16) (by kernel_rfl)) (fun w' => by simp [go_sem]) ?_
        refine GW.pick (b := true) rfl trivial rfl (kn (t := 50) (j := 10) (by kernel_rfl)) (kn (t := 57) (j := 17) (by kernel_rfl)) (eqv_lasts _) ?_
        refine GW.mv rfl trivial (.inl rfl) (kn (t := 58) (j := 18) (by kernel_rfl)) (eqv_lasts _) ?_
        refine GW.mv rfl ⟨59, by kernel_rfl, by kernel_rfl, fun _ _ h => h⟩ (.inl rfl) (kn0' (t := 0) (c := .slice A l.length c) (by kernel_rfl) rfl (isB_lasts _) (⟨A, c, rfl, hc, hcm, rD.out⟩)) (isB_lasts _) ?_
        refine GW.mv rfl ⟨59, by kernel_rfl, by kernel_rfl, fun _ _ h => h⟩ (.inl rfl) (kn0 (t := 1) (c := .int .i64 size) (by kernel_rfl) rfl) (eqv_lasts _) ?_
        refine GW.mv rfl ⟨59, by kernel_rfl, by kernel_rfl, fun _ _ h => h⟩ (.inl rfl) (kn0 (t := 2) (c := .int .i64 k) (by kernel_rfl) rfl) (eqv_lasts _) ?_
        refine GW.call3 (isB []) rfl ⟨59, by kernel_rfl, by kernel_rfl, fun _ _ h => h⟩ rfl Try.func17 (by kernel_rfl) (by kernel_rfl) (isB_lasts _) (kn (t := 60) (j := 20) (by kernel_rfl)) (kn (t := 61) (j := 21) (by kernel_rfl)) (kn (t := 62) (j := 22) (by kernel_rfl)) (fun v u s3 w' hg hv hu hs' => ?_) ?_
        · obtain ⟨A8, c8, rfl, q1, q2, q3⟩ := hv
          obtain rfl : u = _ := hu
          obtain rfl : s3 = _ := hs'
          refine (hat.out A8 c8 w' q1 q3).mono ?_
          rintro e w9 ⟨v9, rfl, i9, hg9⟩
          exact ⟨_, rfl, i9, hg9⟩
        refine GW.bs ([]) rfl ⟨59, by kernel_rfl, by kernel_rfl, fun _ _ h => h⟩ rfl Try.underlying26 byteType.1 Try.underlying9 (kn (t := 63) (j := 23) (by kernel_rfl)) ?_
        refine GW.mv rfl ⟨59, by kernel_rfl, by kernel_rfl, fun _ _ h => h⟩ (.inl rfl) (kn0 (t := 9) (c := str []) (by kernel_rfl) rfl) (eqv_lasts _) ?_
        refine GW.bin (.bool true) rfl ⟨59, by kernel_rfl, by kernel_rfl, fun _ _ h => h⟩ rfl (kn (t := 64) (j := 24) (by kernel_rfl)) (kn (t := 65) (j := 25) (by kernel_rfl)) (fun w' => by simp [go_sem]) ?_
        refine GW.pick (b := true) rfl trivial rfl (kn (t := 59) (j := 19) (by kernel_rfl)) (kn (t := 66) (j := 26) (by kernel_rfl)) (eqv_lasts _) ?_
        refine GW.mv rfl trivial (.inl rfl) (kn (t := 67) (j := 27) (by kernel_rfl)) (eqv_lasts _) ?_
        refine GW.p1 (.agg #[.int .i64 s.size, .slice A1 s.bs.length c1, .int .i64 s.tail, .int .u32 (n32 s.last.1), .int .u64 (n64 s.last.2.1), .int .u64 (n64 s.last.2.2)]) rfl ⟨68, by kernel_rfl, by kernel_rfl, fun _ _ h => h⟩ (kn0 (t := 7) (c := .pointer (some ⟨w1.heap.size, 0, none⟩)) (by kernel_rfl) rfl) (fun ρ w' hρ hg => by simp [execOp, hρ, go_sem, (hg.cell (p := ⟨w1.heap.size, 0, none⟩) n4.out.lt).trans (n4.out.cell 0), (hg.cell (p := ⟨w1.heap.size, 1, none⟩) n4.out.lt).trans (n4.out.cell 1), (hg.cell (p := ⟨w1.heap.size, 2, none⟩) n4.out.lt).trans (n4.out.cell 2), (hg.cell (p := ⟨w1.heap.size, 3, none⟩) n4.out.lt).trans (n4.out.cell 3), (hg.cell (p := ⟨w1.heap.size, 4, none⟩) n4.out.lt).trans (n4.out.cell 4), (hg.cell (p := ⟨w1.heap.size, 5, none⟩) n4.out.lt).trans (n4.out.cell 5)]) ?_
        refine GW.call1 (eqv (.int .i64 (l.length : Int))) rfl ⟨68, by kernel_rfl, by kernel_rfl, fun _ _ h => h⟩ rfl Try.func18 (by kernel_rfl) (by kernel_rfl) (eqv_lasts _) (kn (t := 69) (j := 29) (by kernel_rfl)) (fun v w' hg hv => ?_) ?_
        · obtain rfl : v = _ := hv
          refine (total_any s A1 c1 w').mono ?_
          rw [hto.out]
          rintro e w9 ⟨rfl, hg9⟩
          exact ⟨_, rfl, rfl, hg9⟩
        refine GW.mv rfl ⟨68, by kernel_rfl, by kernel_rfl, fun _ _ h => h⟩ (.inl rfl) (kn0' (t := 0) (c := .slice A l.length c) (by kernel_rfl) rfl (isB_lasts _) (⟨A, c, rfl, hc, hcm, rD.out⟩)) (isB_lasts _) ?_
        refine GW.lenB l rfl ⟨68, by kernel_rfl, by kernel_rfl, fun _ _ h => h⟩ rfl Try.underlying26 (kn (t := 71) (j := 31) (by kernel_rfl)) ?_
        refine GW.bin (.bool true) rfl ⟨68, by kernel_rfl, by kernel_rfl, fun _ _ h => h⟩ rfl (kn (t := 70) (j := 30) (by kernel_rfl)) (kn (t := 72) (j := 32) (by kernel_rfl)) (fun w' => by simp [go_sem]) ?_
        refine GW.pick (b := true) rfl trivial rfl (kn (t := 68) (j := 28) (by kernel_rfl)) (kn (t := 73) (j := 33) (by kernel_rfl)) (eqv_lasts _) ?_
        refine GW.mv rfl trivial (.inl rfl) (kn (t := 74) (j := 34) (by kernel_rfl)) (eqv_lasts _) ?_
        refine GW.p1 (.agg #[.int .i64 s.size, .slice A1 s.bs.length c1, .int .i64 s.tail, .int .u32 (n32 s.last.1), .int .u64 (n64 s.last.2.1), .int .u64 (n64 s.last.2.2)]) rfl ⟨75, by kernel_rfl, by kernel_rfl, fun _ _ h => h⟩ (kn0 (t := 7) (c := .pointer (some ⟨w1.heap.size, 0, none⟩)) (by kernel_rfl) rfl) (fun ρ w' hρ hg => by simp [execOp, hρ, go_sem, (hg.cell (p := ⟨w1.heap.size, 0, none⟩) n4.out.lt).trans (n4.out.cell 0), (hg.cell (p := ⟨w1.heap.size, 1, none⟩) n4.out.lt).trans (n4.out.cell 1), (hg.cell (p := ⟨w1.heap.size, 2, none⟩) n4.out.lt).trans (n4.out.cell 2), (hg.cell (p := ⟨w1.heap.size, 3, none⟩) n4.out.lt).trans (n4.out.cell 3), (hg.cell (p := ⟨w1.heap.size, 4, none⟩) n4.out.lt).trans (n4.out.cell 4), (hg.cell (p := ⟨w1.heap.size, 5, none⟩) n4.out.lt).trans (n4.out.cell 5)]) ?_
        refine GW.call1 (eqv (.bool true)) rfl ⟨75, by kernel_rfl, by kernel_rfl, fun _ _ h => h⟩ rfl Try.func19 (by kernel_rfl) (by kernel_rfl) (eqv_lasts _) (kn (t := 76) (j := 36) (by kernel_rfl)) (fun v w' hg hv => ?_) ?_
        · obtain rfl : v = _ := hv
          refine (right_any s A1 c1 w').mono ?_
          rw [hri.out]
          rintro e w9 ⟨rfl, hg9⟩
          exact ⟨_, rfl, rfl, hg9⟩
        refine GW.pick (b := true) rfl trivial rfl (kn (t := 75) (j := 35) (by kernel_rfl)) (kn (t := 77) (j := 37) (by kernel_rfl)) (eqv_lasts _) ?_
        refine GW.mv rfl trivial (.inl rfl) (kn (t := 78) (j := 38) (by kernel_rfl)) (eqv_lasts _) ?_
        refine GW.p1 (.pointer (some ⟨wX.heap.size, 0, none⟩)) rfl ⟨79, by kernel_rfl, by kernel_rfl, fun _ _ h => h⟩ (kn0 (t := 10) (c := .pointer (some ⟨wX.heap.size, 0, none⟩)) (by kernel_rfl) rfl) (fun ρ w' hρ hg => by simp [execOp, hρ, go_sem]) ?_
        refine GW.p1 (.int .u32 (n32 x.1)) rfl ⟨79, by kernel_rfl, by kernel_rfl, fun _ _ h => h⟩ (kn (t := 80) (j := 40) (by kernel_rfl)) (fun ρ w' hρ hg => by simp [execOp, hρ, go_sem, (hg.cell (p := ⟨wX.heap.size, 0, none⟩) m4.out.lt).trans (m4.out.cell 0)]) ?_
        refine GW.p1 (.pointer (some ⟨wZ.heap.size, 0, none⟩)) rfl ⟨79, by kernel_rfl, by kernel_rfl, fun _ _ h => h⟩ (kn0 (t := 11) (c := .pointer (some ⟨wZ.heap.size, 0, none⟩)) (by kernel_rfl) rfl) (fun ρ w' hρ hg => by simp [execOp, hρ, go_sem]) ?_
        refine GW.p1 (.int .u32 (n32 x.1)) rfl ⟨79, by kernel_rfl, by kernel_rfl, fun _ _ h => h⟩ (kn (t := 82) (j := 42) (by kernel_rfl)) (fun ρ w' hρ hg => by simp [execOp, hρ, go_sem, (hg.cell (p := ⟨wZ.heap.size, 0, none⟩) q4.out.lt).trans (q4.out.cell 0)]) ?_
        refine GW.bin (.bool true) rfl ⟨79, by kernel_rfl, by kernel_rfl, fun _ _ h => h⟩ rfl (kn (t := 81) (j := 41) (by kernel_rfl)) (kn (t := 83) (j := 43) (by kernel_rfl)) (fun w' => by simp [go_sem]) ?_
        refine GW.pick (b := true) rfl trivial rfl (kn (t := 79) (j := 39) (by kernel_rfl)) (kn (t := 84) (j := 44) (by kernel_rfl)) (eqv_lasts _) ?_
        refine GW.mv rfl trivial (.inl rfl) (kn (t := 85) (j := 45) (by kernel_rfl)) (eqv_lasts _) ?_
        refine GW.p1 (.pointer (some ⟨wX.heap.size, 1, none⟩)) rfl ⟨86, by kernel_rfl, by kernel_rfl, fun _ _ h => h⟩ (kn0 (t := 10) (c := .pointer (some ⟨wX.heap.size, 0, none⟩)) (by kernel_rfl) rfl) (fun ρ w' hρ hg => by simp [execOp, hρ, go_sem]) ?_
        refine GW.p1 (.agg #[.int .u64 (n64 x.2.1), .int .u64 (n64 x.2.2)]) rfl ⟨86, by kernel_rfl, by kernel_rfl, fun _ _ h => h⟩ (kn (t := 87) (j := 47) (by kernel_rfl)) (fun ρ w' hρ hg => by simp [execOp, hρ, go_sem, (hg.cell (p := ⟨wX.heap.size, 1, none⟩) m4.out.lt).trans (m4.out.cell 1), (hg.cell (p := ⟨wX.heap.size, 2, none⟩) m4.out.lt).trans (m4.out.cell 2)]) ?_
        refine GW.p1 (.pointer (some ⟨wZ.heap.size, 1, none⟩)) rfl ⟨86, by kernel_rfl, by kernel_rfl, fun _ _ h => h⟩ (kn0 (t := 11) (c := .pointer (some ⟨wZ.heap.size, 0, none⟩)) (by kernel_rfl) rfl) (fun ρ w' hρ hg => by simp [execOp, hρ, go_sem]) ?_
        refine GW.p1 (.agg #[.int .u64 (n64 x.2.1), .int .u64 (n64 x.2.2)]) rfl ⟨86, by kernel_rfl, by kernel_rfl, fun _ _ h => h⟩ (kn (t := 89) (j := 49) (by kernel_rfl)) (fun ρ w' hρ hg => by simp [execOp, hρ, go_sem, (hg.cell (p := ⟨wZ.heap.size, 1, none⟩) q4.out.lt).trans (q4.out.cell 1), (hg.cell (p := ⟨wZ.heap.size, 2, none⟩) q4.out.lt).trans (q4.out.cell 2)]) ?_
        refine GW.bin (.bool true) rfl ⟨86, by kernel_rfl, by kernel_rfl, fun _ _ h => h⟩ rfl (kn (t := 88) (j := 48) (by kernel_rfl)) (kn (t := 90) (j := 50) (by kernel_rfl)) (fun w' => by simp [go_sem]) ?_
        refine GW.pick (b := true) rfl trivial rfl (kn (t := 86) (j := 46) (by kernel_rfl)) (kn (t := 91) (j := 51) (by kernel_rfl)) (eqv_lasts _) ?_
        refine GW.mv rfl trivial (.inr rfl) (kn (t := 92) (j := 52) (by kernel_rfl)) (eqv_lasts _) ?_
        refine GW.done (by simp) (by kernel_rfl) (fun w' hg_ => ?_)
        intro v0 _ v1 _ v2 _ v3 _ v4 _ v5 _ v6 _ v7 _ v8 _ v9 _ v10 _ v11 _ v12 _ v13 _ v14 _ v15 _ v16 _ v17 _ v18 _ v19 _ v20 _ v21 _ v22 _ v23 _ v24 _ v25 _ v26 _ v27 _ v28 _ v29 _ v30 _ v31 _ v32 _ v33 _ v34 _ v35 _ v36 _ v37 _ v38 _ v39 _ v40 _ v41 _ v42 _ v43 _ v44 _ v45 _ v46 _ v47 _ v48 _ v49 _ v50 _ v51 _ v52 _ v53 h53
        obtain rfl : v53 = (.bool true) := h53
        simp only [GFin, Act.put, List.setIfInBounds_toArray, List.set_cons_succ, List.set_cons_zero]
        go_wp2
        go_ret
        exact ⟨_, rfl, rfl, Gr.trans G4.out hg_⟩
      · clear hk hk'
        go_wp2_with fail
        go_at_call 12
        refine (hsg.out w2 rB.out).mono ?_
        rintro e wX ⟨rfl, g3⟩
        have n3 := Lib.hid ((blk_more n2.out g3).alloc (.cells #[.int .u32 (n32 x.1), .int .u64 (n64 x.2.1), .int .u64 (n64 x.2.2)] 33))
        have m3 := Lib.hid (Blk.new wX 33 #[.int .u32 (n32 x.1), .int .u64 (n64 x.2.1), .int .u64 (n64 x.2.2)])
        have G3 := Lib.hid ((Gr.trans G2.out g3).alloc (.cells #[.int .u32 (n32 x.1), .int .u64 (n64 x.2.1), .int .u64 (n64 x.2.2)] 33))
        have gg3 := Gr.alloc g3 (.cells #[.int .u32 (n32 x.1), .int .u64 (n64 x.2.1), .int .u64 (n64 x.2.2)] 33)
        have r3 := Lib.hid ((r2.out.below gg3).more (Below.size gg3))
        have rC := Lib.hid ((rB.out.below gg3).more (Below.size gg3))
        clear n2 r2 G2 rB g3 gg3 hsg
        go_wp2_with (first
          | (refine wpList_bytes_string rfl (.tmp 37) 26 9 5 rfl Try.underlying26 Bl.byteType.1 Try.underlying9 _ _ _ _ l rfl rfl rC.out ?_))
        go_at_call 13
        refine (hrg.out _).mono ?_
        rintro e wZ ⟨rfl, g4⟩
        have gg4 := Gr.alloc g4 (.cells #[.int .u32 (n32 x.1), .int .u64 (n64 x.2.1), .int .u64 (n64 x.2.2)] 40)
        have n4 := Lib.hid (blk_more n3.out gg4)
        have m4 := Lib.hid (blk_more m3.out gg4)
        have q4 := Lib.hid (Blk.new wZ 40 #[.int .u32 (n32 x.1), .int .u64 (n64 x.2.1), .int .u64 (n64 x.2.2)])
        have r4 := Lib.hid ((r3.out.below gg4).more (Below.size gg4))
        have rD := Lib.hid ((rC.out.below gg4).more (Below.size gg4))
        have G4 := Lib.hid (Gr.trans G3.out gg4)
        clear n3 m3 r3 rC G3 g4 gg4 hrg
        go_wp2
        refine region_grow (by kernel_rfl) (by kernel_rfl) ?_
        refine GW.call0 (eqv (.bool true)) rfl trivial rfl Try.func9 (by kernel_rfl) (by kernel_rfl) (eqv_lasts _)  (fun w' hg => ?_) ?_
        · refine (awake_any w').mono ?_
          rintro e w9 ⟨rfl, hg9⟩
          exact ⟨_, rfl, rfl, hg9⟩
        refine GW.mv rfl trivial (.inl rfl) (kn (t := 40) (j := 0) (by kernel_rfl)) (eqv_lasts _) ?_
        refine GW.p1 (.agg #[.int .i64 s.size, .slice A1 s.bs.length c1, .int .i64 s.tail, .int .u32 (n32 s.last.1), .int .u64 (n64 s.last.2.1), .int .u64 (n64 s.last.2.2)]) rfl ⟨41, by kernel_rfl, by kernel_rfl, fun _ _ h => h⟩ (kn0 (t := 7) (c := .pointer (some ⟨w1.heap.size, 0, none⟩)) (by kernel_rfl) rfl) (fun ρ w' hρ hg => by simp [execOp, hρ, go_sem, (hg.cell (p := ⟨w1.heap.size, 0, none⟩) n4.out.lt).trans (n4.out.cell 0), (hg.cell (p := ⟨w1.heap.size, 1, none⟩) n4.out.lt).trans (n4.out.cell 1), (hg.cell (p := ⟨w1.heap.size, 2, none⟩) n4.out.lt).trans (n4.out.cell 2), (hg.cell (p := ⟨w1.heap.size, 3, none⟩) n4.out.lt).trans (n4.out.cell 3), (hg.cell (p := ⟨w1.heap.size, 4, none⟩) n4.out.lt).trans (n4.out.cell 4), (hg.cell (p := ⟨w1.heap.size, 5, none⟩) n4.out.lt).trans (n4.out.cell 5)]) ?_
        refine GW.call1 (isSg s) rfl ⟨41, by kernel_rfl, by kernel_rfl, fun _ _ h => h⟩ rfl Try.func15 (by kernel_rfl) (by kernel_rfl) (isSg_lasts _) (kn (t := 42) (j := 2) (by kernel_rfl)) (fun v w' hg hv => ?_) ?_
        · obtain rfl : v = _ := hv
          refine (hfr.out A1 c1 w' ((r4.out.below hg).more (Below.size hg))).mono ?_
          rintro e w9 ⟨A9, c9, rfl, o9, hg9⟩
          exact ⟨_, rfl, isSg_out o9, hg9⟩
        refine GW.mv rfl ⟨41, by kernel_rfl, by kernel_rfl, fun _ _ h => h⟩ (.inl rfl) (kn0' (t := 0) (c := .slice A l.length c) (by kernel_rfl) rfl (isB_lasts _) (⟨A, c, rfl, hc, hcm, rD.out⟩)) (isB_lasts _) ?_
        refine GW.bs (l) rfl ⟨41, by kernel_rfl, by kernel_rfl, fun _ _ h => h⟩ rfl Try.underlying26 byteType.1 Try.underlying9 (kn (t := 44) (j := 4) (by kernel_rfl)) ?_
        refine GW.mv rfl ⟨41, by kernel_rfl, by kernel_rfl, fun _ _ h => h⟩ (.inl rfl) (kn0 (t := 1) (c := .int .i64 size) (by kernel_rfl) rfl) (eqv_lasts _) ?_
        refine GW.call2 (isSg s) rfl ⟨41, by kernel_rfl, by kernel_rfl, fun _ _ h => h⟩ rfl Try.func16 (by kernel_rfl) (by kernel_rfl) (isSg_lasts _) (kn (t := 45) (j := 5) (by kernel_rfl)) (kn (t := 46) (j := 6) (by kernel_rfl)) (fun v u w' hg hv hu => ?_) ?_
        · obtain rfl : v = _ := hv
          obtain rfl : u = _ := hu
          refine (hrf.out w').mono ?_
          rintro e w9 ⟨A9, c9, rfl, o9, hg9⟩
          exact ⟨_, rfl, isSg_out o9, hg9⟩
        refine GW.call2 (eqv (.bool true)) rfl ⟨41, by kernel_rfl, by kernel_rfl, fun _ _ h => h⟩ rfl Try.func14 (by kernel_rfl) (by kernel_rfl) (eqv_lasts _) (kn (t := 43) (j := 3) (by kernel_rfl)) (kn (t := 47) (j := 7) (by kernel_rfl)) (fun v u w' hg hv hu => ?_) ?_
        · obtain ⟨A8, c8, rfl, q8⟩ := hv
          obtain ⟨A9, c9, rfl, q9⟩ := hu
          refine (hsm.out A8 A9 c8 c9 w' q8 q9).mono ?_
          rintro e w9 ⟨rfl, hg9⟩
          exact ⟨_, rfl, rfl, hg9⟩
        refine GW.pick (b := true) rfl trivial rfl (kn (t := 41) (j := 1) (by kernel_rfl)) (kn (t := 48) (j := 8) (by kernel_rfl)) (eqv_lasts _) ?_
        refine GW.mv rfl trivial (.inl rfl) (kn (t := 49) (j := 9) (by kernel_rfl)) (eqv_lasts _) ?_
        refine GW.mv rfl ⟨50, by kernel_rfl, by kernel_rfl, fun _ _ h => h⟩ (.inl rfl) (kn0' (t := 0) (c := .slice A l.length c) (by kernel_rfl) rfl (isB_lasts _) (⟨A, c, rfl, hc, hcm, rD.out⟩)) (isB_lasts _) ?_
        refine GW.lenB l rfl ⟨50, by kernel_rfl, by kernel_rfl, fun _ _ h => h⟩ rfl Try.underlying26 (kn (t := 51) (j := 11) (by kernel_rfl)) ?_
        refine GW.mv rfl ⟨50, by kernel_rfl, by kernel_rfl, fun _ _ h => h⟩ (.inl rfl) (kn0 (t := 1) (c := .int .i64 size) (by kernel_rfl) rfl) (eqv_lasts _) ?_
        refine GW.call2 (eqv (.int .i64 (n : Int))) rfl ⟨50, by kernel_rfl, by kernel_rfl, fun _ _ h => h⟩ rfl Try.func7 (by kernel_rfl) (by kernel_rfl) (eqv_lasts _) (kn (t := 52) (j := 12) (by kernel_rfl)) (kn (t := 53) (j := 13) (by kernel_rfl)) (fun v u w' hg hv hu => ?_) ?_
        · obtain rfl : v = _ := hv
          obtain rfl : u = _ := hu
          refine (hcn.out w').mono ?_
          rintro e w9 ⟨rfl, rfl⟩
          exact ⟨_, rfl, rfl, Gr.refl _⟩
        refine GW.mv rfl ⟨50, by kernel_rfl, by kernel_rfl, fun _ _ h => h⟩ (.inl rfl) (kn0 (t := 8) (c := .slice A2 n c2) (by kernel_rfl) rfl) (eqv_lasts _) ?_
        refine GW.lenV rfl ⟨50, by kernel_rfl, by kernel_rfl, fun _ _ h => h⟩ rfl Try.underlying37 (kn (t := 55) (j := 15) (by kernel_rfl)) ?_
        refine GW.bin (.bool true) rfl ⟨50, by kernel_rfl, by kernel_rfl, fun _ _ h => h⟩ rfl (kn (t := 54) (j := 14) (by kernel_rfl)) (kn (t := 56) (j := 16) (by kernel_rfl)) (fun w' => by simp [go_sem]) ?_
        refine GW.pick (b := true) rfl trivial rfl (kn (t := 50) (j := 10) (by kernel_rfl)) (kn (t := 57) (j := 17) (by kernel_rfl)) (eqv_lasts _) ?_
        refine GW.mv rfl trivial (.inl rfl) (kn (t := 58) (j := 18) (by kernel_rfl)) (eqv_lasts _) ?_
        refine GW.mv rfl ⟨59, by kernel_rfl, by kernel_rfl, fun _ _ h => h⟩ (.inl rfl) (kn0' (t := 0) (c := .slice A l.length c) (by kernel_rfl) rfl (isB_lasts _) (⟨A, c, rfl, hc, hcm, rD.out⟩)) (isB_lasts _) ?_
        refine GW.mv rfl ⟨59, by kernel_rfl, by kernel_rfl, fun _ _ h => h⟩ (.inl rfl) (kn0 (t := 1) (c := .int .i64 size) (by kernel_rfl) rfl) (eqv_lasts _) ?_
        refine GW.mv rfl ⟨59, by kernel_rfl, by kernel_rfl, fun _ _ h => h⟩ (.inl rfl) (kn0 (t := 2) (c := .int .i64 k) (by kernel_rfl) rfl) (eqv_lasts _) ?_
        refine GW.call3 (isB []) rfl ⟨59, by kernel_rfl, by kernel_rfl, fun _ _ h => h⟩ rfl Try.func17 (by kernel_rfl) (by kernel_rfl) (isB_lasts _) (kn (t := 60) (j := 20) (by kernel_rfl)) (kn (t := 61) (j := 21) (by kernel_rfl)) (kn (t := 62) (j := 22) (by kernel_rfl)) (fun v u s3 w' hg hv hu hs' => ?_) ?_
        · obtain ⟨A8, c8, rfl, q1, q2, q3⟩ := hv
          obtain rfl : u = _ := hu
          obtain rfl : s3 = _ := hs'
          refine (hat.out A8 c8 w' q1 q3).mono ?_
          rintro e w9 ⟨v9, rfl, i9, hg9⟩
          exact ⟨_, rfl, i9, hg9⟩
        refine GW.bs ([]) rfl ⟨59, by kernel_rfl, by kernel_rfl, fun _ _ h => h⟩ rfl Try.underlying26 byteType.1 Try.underlying9 (kn (t := 63) (j := 23) (by kernel_rfl)) ?_
        refine GW.mv rfl ⟨59, by kernel_rfl, by kernel_rfl, fun _ _ h => h⟩ (.inl rfl) (kn0 (t := 9) (c := str []) (by kernel_rfl) rfl) (eqv_lasts _) ?_
        refine GW.bin (.bool true) rfl ⟨59, by kernel_rfl, by kernel_rfl, fun _ _ h => h⟩ rfl (kn (t := 64) (j := 24) (by kernel_rfl)) (kn (t := 65) (j := 25) (by kernel_rfl)) (fun w' => by simp [go_sem]) ?_
        refine GW.pick (b := true) rfl trivial rfl (kn (t := 59) (j := 19) (by kernel_rfl)) (kn (t := 66) (j := 26) (by kernel_rfl)) (eqv_lasts _) ?_
        refine GW.mv rfl trivial (.inl rfl) (kn (t := 67) (j := 27) (by kernel_rfl)) (eqv_lasts _) ?_
        refine GW.p1 (.agg #[.int .i64 s.size, .slice A1 s.bs.length c1, .int .i64 s.tail, .int .u32 (n32 s.last.1), .int .u64 (n64 s.last.2.1), .int .u64 (n64 s.last.2.2)]) rfl ⟨68, by kernel_rfl, by kernel_rfl, fun _ _ h => h⟩ (kn0 (t := 7) (c := .pointer (some ⟨w1.heap.size, 0, none⟩)) (by kernel_rfl) rfl) (fun ρ w' hρ hg => by simp [execOp, hρ, go_sem, (hg.cell (p := ⟨w1.heap.size, 0, none⟩) n4.out.lt).trans (n4.out.cell 0), (hg.cell (p := ⟨w1.heap.size, 1, none⟩) n4.out.lt).trans (n4.out.cell 1), (hg.cell (p := ⟨w1.heap.size, 2, none⟩) n4.out.lt).trans (n4.out.cell 2), (hg.cell (p := ⟨w1.heap.size, 3, none⟩) n4.out.lt).trans (n4.out.cell 3), (hg.cell (p := ⟨w1.heap.size, 4, none⟩) n4.out.lt).trans (n4.out.cell 4), (hg.cell (p := ⟨w1.heap.size, 5, none⟩) n4.out.lt).trans (n4.out.cell 5)]) ?_
        refine GW.call1 (eqv (.int .i64 (l.length : Int))) rfl ⟨68, by kernel_rfl, by kernel_rfl, fun _ _ h => h⟩ rfl Try.func18 (by kernel_rfl) (by kernel_rfl) (eqv_lasts _) (kn (t := 69) (j := 29) (by kernel_rfl)) (fun v w' hg hv => ?_) ?_
        · obtain rfl : v = _ := hv
          refine (total_any s A1 c1 w').mono ?_
          rw [hto.out]
          rintro e w9 ⟨rfl, hg9⟩
          exact ⟨_, rfl, rfl, hg9⟩
        refine GW.mv rfl ⟨68, by kernel_rfl, by kernel_rfl, fun _ _ h => h⟩ (.inl rfl) (kn0' (t := 0) (c := .slice A l.length c) (by kernel_rfl) rfl (isB_lasts _) (⟨A, c, rfl, hc, hcm, rD.out⟩)) (isB_lasts _) ?_
        refine GW.lenB l rfl ⟨68, by kernel_rfl, by kernel_rfl, fun _ _ h => h⟩ rfl Try.underlying26 (kn (t := 71) (j := 31) (by kernel_rfl)) ?_
        refine GW.bin (.bool true) rfl ⟨68, by kernel_rfl, by kernel_rfl, fun _ _ h => h⟩ rfl (kn (t := 70) (j := 30) (by kernel_rfl)) (kn (t := 72) (j := 32) (by kernel_rfl)) (fun w' => by simp [go_sem]) ?_
        refine GW.pick (b := true) rfl trivial rfl (kn (t := 68) (j := 28) (by kernel_rfl)) (kn (t := 73) (j := 33) (by kernel_rfl)) (eqv_lasts _) ?_
        refine GW.mv rfl trivial (.inl rfl) (kn (t := 74) (j := 34) (by kernel_rfl)) (eqv_lasts _) ?_
        refine GW.p1 (.agg #[.int .i64 s.size, .slice A1 s.bs.length c1, .int .i64 s.tail, .int .u32 (n32 s.last.1), .int .u64 (n64 s.last.2.1), .int .u64 (n64 s.last.2.2)]) rfl ⟨75, by kernel_rfl, by kernel_rfl, fun _ _ h => h⟩ (kn0 (t := 7) (c := .pointer (some ⟨w1.heap.size, 0, none⟩)) (by kernel_rfl) rfl) (fun ρ w' hρ hg => by simp [execOp, hρ, go_sem, (hg.cell (p := ⟨w1.heap.size, 0, none⟩) n4.out.lt).trans (n4.out.cell 0), (hg.cell (p := ⟨w1.heap.size, 1, none⟩) n4.out.lt).trans (n4.out.cell 1), (hg.cell (p := ⟨w1.heap.size, 2, none⟩) n4.out.lt).trans (n4.out.cell 2), (hg.cell (p := ⟨w1.heap.size, 3, none⟩) n4.out.lt).trans (n4.out.cell 3), (hg.cell (p := ⟨w1.heap.size, 4, none⟩) n4.out.lt).trans (n4.out.cell 4), (hg.cell (p := ⟨w1.heap.size, 5, none⟩) n4.out.lt).trans (n4.out.cell 5)]) ?_
        refine GW.call1 (eqv (.bool true)) rfl ⟨75, by kernel_rfl, by kernel_rfl, fun _ _ h => h⟩ rfl Try.func19 (by kernel_rfl) (by kernel_rfl) (eqv_lasts _) (kn (t := 76) (j := 36) (by kernel_rfl)) (fun v w' hg hv => ?_) ?_
        · obtain rfl : v = _ := hv
          refine (right_any s A1 c1 w').mono ?_
          rw [hri.out]
          rintro e w9 ⟨rfl, hg9⟩
          exact ⟨_, rfl, rfl, hg9⟩
        refine GW.pick (b := true) rfl trivial rfl (kn (t := 75) (j := 35) (by kernel_rfl)) (kn (t := 77) (j := 37) (by kernel_rfl)) (eqv_lasts _) ?_
        refine GW.mv rfl trivial (.inl rfl) (kn (t := 78) (j := 38) (by kernel_rfl)) (eqv_lasts _) ?_
        refine GW.p1 (.pointer (some ⟨wX.heap.size, 0, none⟩)) rfl ⟨79, by kernel_rfl, by kernel_rfl, fun _ _ h => h⟩ (kn0 (t := 10) (c := .pointer (some ⟨wX.heap.size, 0, none⟩)) (by kernel_rfl) rfl) (fun ρ w' hρ hg => by simp [execOp, hρ, go_sem]) ?_
        refine GW.p1 (.int .u32 (n32 x.1)) rfl ⟨79, by kernel_rfl, by kernel_rfl, fun _ _ h => h⟩ (kn (t := 80) (j := 40) (by kernel_rfl)) (fun ρ w' hρ hg => by simp [execOp, hρ, go_sem, (hg.cell (p := ⟨wX.heap.size, 0, none⟩) m4.out.lt).trans (m4.out.cell 0)]) ?_
        refine GW.p1 (.pointer (some ⟨wZ.heap.size, 0, none⟩)) rfl ⟨79, by kernel_rfl, by kernel_rfl, fun _ _ h => h⟩ (kn0 (t := 11) (c := .pointer (some ⟨wZ.heap.size, 0, none⟩)) (by kernel_rfl) rfl) (fun ρ w' hρ hg => by simp [execOp, hρ, go_sem]) ?_
        refine GW.p1 (.int .u32 (n32 x.1)) rfl ⟨79, by kernel_rfl, by kernel_rfl, fun _ _ h => h⟩ (kn (t := 82) (j := 42) (by kernel_rfl)) (fun ρ w' hρ hg => by simp [execOp, hρ, go_sem, (hg.cell (p := ⟨wZ.heap.size, 0, none⟩) q4.out.lt).trans (q4.out.cell 0)]) ?_
        refine GW.bin (.bool true) rfl ⟨79, by kernel_rfl, by kernel_rfl, fun _ _ h => h⟩ rfl (kn (t := 81) (j := 41) (by kernel_rfl)) (kn (t := 83) (j := 43) (by kernel_rfl)) (fun w' => by simp [go_sem]) ?_
        refine GW.pick (b := true) rfl trivial rfl (kn (t := 79) (j := 39) (by kernel_rfl)) (kn (t := 84) (j := 44) (by kernel_rfl)) (eqv_lasts _) ?_
        refine GW.mv rfl trivial (.inl rfl) (kn (t := 85) (j := 45) (by kernel_rfl)) (eqv_lasts _) ?_
        refine GW.p1 (.pointer (some ⟨wX.heap.size, 1, none⟩)) rfl ⟨86, by kernel_rfl, by kernel_rfl, fun _ _ h => h⟩ (kn0 (t := 10) (c := .pointer (some ⟨wX.heap.size, 0, none⟩)) (by kernel_rfl) rfl) (fun ρ w' hρ hg => by simp [execOp, hρ, go_sem]) ?_
        refine GW.p1 (.agg #[.int .u64 (n64 x.2.1), .int .u64 (n64 x.2.2)]) rfl ⟨86, by kernel_rfl, by kernel_rfl, fun _ _ h => h⟩ (kn (t := 87) (j := 47) (by kernel_rfl)) (fun ρ w' hρ hg => by simp [execOp, hρ, go_sem, (hg.cell (p := ⟨wX.heap.size, 1, none⟩) m4.out.lt).trans (m4.out.cell 1), (hg.cell (p := ⟨wX.heap.size, 2, none⟩) m4.out.lt).trans (m4.out.cell 2)]) ?_
        refine GW.p1 (.pointer (some ⟨wZ.heap.size, 1, none⟩)) rfl ⟨86, by kernel_rfl, by kernel_rfl, fun _ _ h => h⟩ (kn0 (t := 11) (c := .pointer (some ⟨wZ.heap.size, 0, none⟩)) (by kernel_rfl) rfl) (fun ρ w' hρ hg => by simp [execOp, hρ, go_sem]) ?_
        refine GW.p1 (.agg #[.int .u64 (n64 x.2.1), .int .u64 (n64 x.2.2)]) rfl ⟨86, by kernel_rfl, by kernel_rfl, fun _ _ h => h⟩ (kn (t := 89) (j := 49) (by kernel_rfl)) (fun ρ w' hρ hg => by simp [execOp, hρ, go_sem, (hg.cell (p := ⟨wZ.heap.size, 1, none⟩) q4.out.lt).trans (q4.out.cell 1), (hg.cell (p := ⟨wZ.heap.size, 2, none⟩) q4.out.lt).trans (q4.out.cell 2)]) ?_
        refine GW.bin (.bool true) rfl ⟨86, by kernel_rfl, by kernel_rfl, fun _ _ h => h⟩ rfl (kn (t := 88) (j := 48) (by kernel_rfl)) (kn (t := 90) (j := 50) (by kernel_rfl)) (fun w' => by simp [go_sem]) ?_
        refine GW.pick (b := true) rfl trivial rfl (kn (t := 86) (j := 46) (by kernel_rfl)) (kn (t := 91) (j := 51) (by kernel_rfl)) (eqv_lasts _) ?_
        refine GW.mv rfl trivial (.inr rfl) (kn (t := 92) (j := 52) (by kernel_rfl)) (eqv_lasts _) ?_
        refine GW.done (by simp) (by kernel_rfl) (fun w' hg_ => ?_)
        intro v0 _ v1 _ v2 _ v3 _ v4 _ v5 _ v6 _ v7 _ v8 _ v9 _ v10 _ v11 _ v12 _ v13 _ v14 _ v15 _ v16 _ v17 _ v18 _ v19 _ v20 _ v21 _ v22 _ v23 _ v24 _ v25 _ v26 _ v27 _ v28 _ v29 _ v30 _ v31 _ v32 _ v33 _ v34 _ v35 _ v36 _ v37 _ v38 _ v39 _ v40 _ v41 _ v42 _ v43 _ v44 _ v45 _ v46 _ v47 _ v48 _ v49 _ v50 _ v51 _ v52 _ v53 h53
        obtain rfl : v53 = (.bool true) := h53
        simp only [GFin, Act.put, List.setIfInBounds_toArray, List.set_cons_succ, List.set_cons_zero]
        go_wp2
        go_ret
        exact ⟨_, rfl, rfl, Gr.trans G4.out hg_⟩
  · have h400' : (400 : Int) < (l.length : Int) := by omega
    clear hr
    go_enter Try.func4, Try.ntmps4
    go_wp2_with fail
    go_at_call 9
    refine (awake_any _).mono ?_
    rintro e w2 ⟨rfl, g2⟩
    go_wp2
    go_ret
    exact ⟨_, rfl, rfl, g2⟩
end Sg
end Go.Proofs.Ytcibngbgcnnjnaa

