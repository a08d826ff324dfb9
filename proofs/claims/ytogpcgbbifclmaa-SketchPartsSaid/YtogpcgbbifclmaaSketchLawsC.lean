/- The walk of SketchParts: it returns true and writes nothing that was there. No condition. -/
import Derived.Test.YtogpcgbbifclmaaSketchAwake
import Derived.IntWalk
set_option linter.unusedVariables false
set_option linter.unusedSimpArgs false
namespace Go.Proofs.Ytogpcgbbifclmaa
open Go Go.RowKit W
namespace Sk
theorem sk_le (a b : List UInt8) (h : ∀ w ∈ shingles b, w ∈ shingles a) (k : Nat) (hk : k < 8) (x y : UInt64) (hx : (sk a)[k]? = some x) (hy : (sk b)[k]? = some y) : ¬ n64 y < n64 x := by
  have e : ∀ c, (sk c)[k]? = some (least k (shingles c)) := fun c => by
    unfold sk
    rw [List.getElem?_map, List.getElem?_range hk]
    rfl
  rw [e] at hx hy
  obtain rfl := Option.some.inj hx
  obtain rfl := Option.some.inj hy
  have := least_sub k (shingles a) (shingles b) h
  simp only [n64_def]
  omega
theorem of_at (A : Option Addr) (c n : Nat) (bs : List UInt8) (hs : bs.length ≤ 1099511627776) (hn : n = bs.length) (hc : bs.length ≤ c) (hcm : c ≤ maxLen) (w : World) (hr : RB w w.heap.size A bs) :
    Calls Try.prog 9 #[.slice A n c] w fun e w' => e = .returned (.agg (vs (sk bs))) ∧ Gr w w' := by
  subst hn
  exact of_any A c bs hs hc hcm w hr
theorem nat_of {i : Int} (h : 0 ≤ i) : ∃ n : Nat, i = (n : Int) := ⟨i.toNat, by omega⟩
set_option maxRecDepth 100000 in
set_option maxHeartbeats 8000000 in
theorem sketchParts_walk (A : Option Addr) (c : Nat) (l : List UInt8) (A2 : Option Addr) (c2 : Nat) (m : List UInt8) (x y : UInt8) (w : World) (hc : l.length ≤ c) (hm : c ≤ maxLen) (hr : RB w w.heap.size A l) (hc2 : m.length ≤ c2) (hm2 : c2 ≤ maxLen) (hr2 : RB w w.heap.size A2 m) :
    Calls Try.prog 5 #[.slice A l.length c, .slice A2 m.length c2, .agg #[.int .u8 (n8 x), .int .u8 (n8 y)]] w (Ret (eqv (.bool true)) w) := by
  have hrh := Lib.hid hr
  have hrh2 := Lib.hid hr2
  clear hr hr2
  have haw := Lib.hid (fun w => awake_any w)
  by_cases h : l.length ≤ 60 ∧ m.length ≤ 60 ∧ 4 ≤ l.length
  · obtain ⟨h1, h2, h3⟩ := h
    have k1 : ¬ (60 : Int) < (l.length : Int) := by omega
    have k2 : ¬ (60 : Int) < (m.length : Int) := by omega
    have k3 : ¬ (l.length : Int) < 4 := by omega
    have s0 := n8_lt x
    have s1 := n8_pos x
    have s2 := n8_lt y
    have s3 := n8_pos y
    obtain ⟨all, hall⟩ : ∃ all, all = l ++ m := ⟨_, rfl⟩
    have hal : all.length = l.length + m.length := by rw [hall, List.length_append]
    have hal4 : 4 ≤ all.length := by omega
    have hal120 : all.length ≤ 120 := by omega
    replace hall := Lib.hid hall
    replace hal := Lib.hid hal
    have z1 : 0 ≤ n8 x % ((all.length : Int) - 3) := Int.emod_nonneg _ (by omega)
    have z2 : n8 x % ((all.length : Int) - 3) < (all.length : Int) - 3 := Int.emod_lt_of_pos _ (by omega)
    obtain ⟨at_, hat⟩ := nat_of z1
    rw [hat] at z1 z2
    have z3 : 0 ≤ n8 y % ((all.length : Int) - 3 - (at_ : Int)) := Int.emod_nonneg _ (by omega)
    have z4 : n8 y % ((all.length : Int) - 3 - (at_ : Int)) < (all.length : Int) - 3 - (at_ : Int) := Int.emod_lt_of_pos _ (by omega)
    obtain ⟨nn, hnn⟩ := nat_of z3
    rw [hnn] at z3 z4
    have z5 : (at_ : Int) + (4 + (nn : Int)) ≤ (all.length : Int) := by omega
    have z6 : (4 : Int) < (all.length : Int) - 3 + 4 := by omega
    have b0 := Lib.hid (Blk.new w 37 #[.int .u8 (n8 x), .int .u8 (n8 y)])
    have g0 := Lib.hid ((Gr.refl w).alloc (.cells #[.int .u8 (n8 x), .int .u8 (n8 y)] 37))
    have o1 := OB.made (E := 5) (base := w.heap.size + 1) (w.alloc (.cells #[.int .u8 (n8 x), .int .u8 (n8 y)] 37)) (by simp)
    rw [World.size_alloc] at o1
    replace o1 := Lib.hid o1
    have g1 := Lib.hid (Gr.alloc g0.out (.cells #[] 5))
    have q1 := Lib.hid (hrh.out.below g1.out)
    go_enter Try.func5, Try.ntmps5
    go_wp2_with (first
    | (refine wpList_append_bytes _ rfl (.tmp 30) (.tmp 31) 22 rfl (w.heap.size + 1) 5 Try.underlying22 byteType _ [] rfl (by exact o1.out) w.heap.size _ _ _ l rfl rfl (by exact q1.out) (by simp; omega) (by simp) l (rfl) l.length rfl ?_; intro A3 c3 w1 o2 hbel1; have q2 := Lib.hid (hrh2.out.below (Below.trans g1.out (hbel1.mono (by omega)))); replace o2 := Lib.hid o2; have hs2 := hbel1.size)
    | (refine step_append_bytes _ rfl (.tmp 30) (.tmp 31) 22 rfl (w.heap.size + 1) 5 Try.underlying22 byteType _ [] rfl (by exact o1.out) w.heap.size _ _ _ l rfl rfl (by exact q1.out) (by simp; omega) (by simp) l (rfl) l.length rfl ?_; intro A3 c3 w1 o2 hbel1; have q2 := Lib.hid (hrh2.out.below (Below.trans g1.out (hbel1.mono (by omega)))); replace o2 := Lib.hid o2; have hs2 := hbel1.size)
    | (refine wpList_append_bytes _ rfl (.tmp 32) (.tmp 33) 22 rfl (w.heap.size + 1) 5 Try.underlying22 byteType _ l rfl (by exact o2.out) w.heap.size _ _ _ m rfl rfl (by exact q2.out) (by omega) (by simp at hs2; omega) all (hall.out) all.length rfl ?_; intro A4 c4 w2 o3 hbel2; replace o3 := Lib.hid o3; clear o2 q2)
    | (refine step_append_bytes _ rfl (.tmp 32) (.tmp 33) 22 rfl (w.heap.size + 1) 5 Try.underlying22 byteType _ l rfl (by exact o2.out) w.heap.size _ _ _ m rfl rfl (by exact q2.out) (by omega) (by simp at hs2; omega) all (hall.out) all.length rfl ?_; intro A4 c4 w2 o3 hbel2; replace o3 := Lib.hid o3; clear o2 q2))
    have u0 := hbel1.size
    have u1 := hbel2.size
    simp only [World.size_alloc] at u0
    have b2 := (((b0.out.alloc (.cells #[] 5)).below hbel1 (by omega)).below hbel2 (by omega))
    have G2 : Gr w w2 := (Below.trans g1.out (hbel1.mono (by omega))).trans (hbel2.mono (by omega))
    replace b2 := Lib.hid b2
    replace G2 := Lib.hid G2
    clear hbel1 hbel2 b0 g0 g1 o1 q1
    have hcap := o3.out.cap
    go_at_call 9
    refine (of_any A4 c4 all (by omega) hcap.1 hcap.2 w2 o3.out.rb).mono ?_
    rintro e w3 ⟨rfl, hg3⟩
    have b3 := Lib.hid (blk_more b2.out hg3)
    have o4 := Lib.hid (o3.out.below hg3)
    have G3 := Lib.hid (Gr.trans G2.out hg3)
    have u3 := b3.out.lt
    have bx := Lib.hid (Blk.new w3 30 (vs (List.replicate 8 0)))
    have hm8 := sk_length all
    clear b2 G2 o3 hg3
    have y1 : (at_ : Int) ≤ (at_ : Int) + (4 + (nn : Int)) := by omega
    have y2 : (at_ : Int) + (4 + (nn : Int)) ≤ (c4 : Int) := by omega
    have y3 : ¬ c4 = at_ := by omega
    have y4 : ((at_ : Int) + (4 + (nn : Int))).toNat = at_ + (4 + nn) := by omega
    have y5 : ¬ c4 - at_ = 0 := by omega
    have hcap1 := hcap.1
    have hcap2 := hcap.2
    go_wp2_with (first
      | (refine wpList_store_blk rfl 30 _ _ rfl w3.heap.size (vs (sk all)) rfl rfl 30 (vs (List.replicate 8 0)) bx.out (info8' hm8) (by rw [vs_size, vs_size, hm8]; rfl) (vs_cells _) ?_; intro w4 bx4 kx4 hs4; have gx := Lib.hid kx4.new; have b4 := blk_more b3.out gx.out; have c0 := b4.cell 0; have c1 := b4.cell 1; replace b4 := Lib.hid b4; replace bx4 := Lib.hid bx4; clear kx4))
    obtain ⟨part, hpart⟩ : ∃ p, p = (all.drop at_).take (4 + nn) := ⟨_, rfl⟩
    have hpl : part.length = 4 + nn := by rw [hpart, List.length_take, List.length_drop]; omega
    have hsub := Lib.hid (fun w hw => by rw [hpart] at hw; exact part_sub all at_ (4 + nn) (by omega) (by omega) w hw : ∀ w ∈ shingles part, w ∈ shingles all)
    have hrp : RB w4 w4.heap.size (A4.map fun x => x.add at_) part := by
      have q := ((o4.out.rb.below gx.out).drop (k := at_) (cap := c4) (by omega) hcap1).take (k := 4 + nn) (by simp; omega)
      rw [if_neg y3, ← hpart] at q
      exact q.more (Below.size gx.out)
    replace hpart := Lib.hid hpart
    go_at_call 9
    refine (of_at _ (c4 - at_) (4 + nn) part (by omega) hpl.symm (by omega) (by omega) w4 hrp).mono ?_
    rintro e w5 ⟨rfl, hg5⟩
    have G5 := Lib.hid (Gr.trans (Gr.trans G3.out gx.out) hg5)
    have x5 := Lib.hid (blk_more bx4.out hg5)
    have u5 := x5.out.lt
    have by5 := Lib.hid (Blk.new w5 30 (vs (List.replicate 8 0)))
    have hp8 := sk_length part
    clear b3 G3 o4 gx bx4 hg5 hrp b4 c0 c1
    go_wp2_with (first
      | (refine wpList_store_blk rfl 30 _ _ rfl w5.heap.size (vs (sk part)) rfl rfl 30 (vs (List.replicate 8 0)) by5.out (info8' hp8) (by rw [vs_size, vs_size, hp8]; rfl) (vs_cells _) ?_; intro w6 by6 ky6 hs6; have gy := ky6.new; have x6 := Lib.hid (blk_more x5.out gy); have G6 := Lib.hid (Gr.trans G5.out gy); replace by6 := Lib.hid by6; clear ky6 gy))
    clear x5 G5 by5 hat hnn y1 y2 y4 z1 z2 z3 z4 z5 z6 y3 y5 bx
    go_loopw [12] (fun i wr => ∃ k : Nat, k ≤ 8 ∧ i = .int .i64 (k : Int) ∧ Blk wr w3.heap.size 30 (vs (sk all)) ∧ Blk wr w5.heap.size 30 (vs (sk part)) ∧ Gr w wr) (fun i _ => 8 - (intOf i).toNat)
    case atStart => exact ⟨0, by omega, rfl, x6.out, by6.out, G6.out⟩
    case round =>
      clear x6 by6 G6
      obtain ⟨k, hk, rfl, ka, kb, hg⟩ := hrel
      by_cases h : k < 8
      · obtain ⟨xa, hxa⟩ : ∃ z, (sk all)[k]? = some z := ⟨_, List.getElem?_eq_getElem (by omega)⟩
        obtain ⟨xb, hxb⟩ : ∃ z, (sk part)[k]? = some z := ⟨_, List.getElem?_eq_getElem (by omega)⟩
        have ca : wr.cell? ⟨w3.heap.size, k, none⟩ = some (.int .u64 (n64 xa)) := by rw [ka.cell, vs_at, hxa]; rfl
        have cb : wr.cell? ⟨w5.heap.size, k, none⟩ = some (.int .u64 (n64 xb)) := by rw [kb.cell, vs_at, hxb]; rfl
        have hle := sk_le all part hsub.out k h xa xb hxa hxb
        have t1 : (k : Int) < 8 := by omega
        have t2 : 0 ≤ (k : Int) := by omega
        have t3 : (k : Int).toNat = k := by omega
        replace ka := Lib.hid ka
        replace kb := Lib.hid kb
        replace hg := Lib.hid hg
        clear hxa hxb
        go_wp2
        go_quiet (fail)
        go_wp2
        go_roundw
        case rel => exact ⟨k + 1, by omega, by simp, ka.out.drewN _, kb.out.drewN _, below_drewN hg.out _⟩
        case measure => simp [intOf]; omega
      · obtain rfl : k = 8 := by omega
        clear ka kb hsub hpart
        have hra := hrh.out.below hg
        replace hra := Lib.hid (hra.more hg.size)
        replace hg := Lib.hid hg
        go_wp2_with fail
        go_at_call 9
        refine (of_any A c l (by omega) hc hm wr hra.out).mono ?_
        rintro e w7 ⟨rfl, hg7⟩
        have G7 := Lib.hid (Gr.trans hg.out hg7)
        have p1 := Lib.hid (OB.made (E := 5) (base := w7.heap.size) w7 (Nat.le_refl _))
        have p2 := Lib.hid ((hrh.out.below G7.out).alloc (Below.size G7.out) (.cells #[] 5))
        clear hg7 hg hra
        go_wp2_with (first
    | (refine wpList_append_bytes _ rfl (.tmp 74) (.tmp 75) 22 rfl w7.heap.size 5 Try.underlying22 byteType _ [] rfl (by exact p1.out) w.heap.size _ _ _ l rfl rfl (by exact p2.out) (by simp; omega) (by simp) l (rfl) l.length rfl ?_; intro A5 c5 v1 r2 hbel1; have gv1 := Below.trans (Below.alloc (Below.refl w7.heap.size w7) (Nat.le_refl _) (.cells #[] 5)) hbel1; have p3 := Lib.hid (hrh.out.below (Gr.trans G7.out gv1)); replace gv1 := Lib.hid gv1; replace r2 := Lib.hid r2; clear hbel1)
    | (refine step_append_bytes _ rfl (.tmp 74) (.tmp 75) 22 rfl w7.heap.size 5 Try.underlying22 byteType _ [] rfl (by exact p1.out) w.heap.size _ _ _ l rfl rfl (by exact p2.out) (by simp; omega) (by simp) l (rfl) l.length rfl ?_; intro A5 c5 v1 r2 hbel1; have gv1 := Below.trans (Below.alloc (Below.refl w7.heap.size w7) (Nat.le_refl _) (.cells #[] 5)) hbel1; have p3 := Lib.hid (hrh.out.below (Gr.trans G7.out gv1)); replace gv1 := Lib.hid gv1; replace r2 := Lib.hid r2; clear hbel1)
    | (refine wpList_append_bytes _ rfl (.tmp 76) (.tmp 77) 22 rfl w7.heap.size 5 Try.underlying22 byteType _ l rfl (by exact r2.out) w.heap.size _ _ _ l rfl rfl (by exact p3.out) (by omega) (Below.size gv1.out) (l ++ l) (rfl) (l ++ l).length rfl ?_; intro A6 c6 v2 r3 hbel2; have gv2 := Lib.hid (Below.trans gv1.out hbel2); replace r3 := Lib.hid r3; clear r2 p3 gv1 hbel2)
    | (refine step_append_bytes _ rfl (.tmp 76) (.tmp 77) 22 rfl w7.heap.size 5 Try.underlying22 byteType _ l rfl (by exact r2.out) w.heap.size _ _ _ l rfl rfl (by exact p3.out) (by omega) (Below.size gv1.out) (l ++ l) (rfl) (l ++ l).length rfl ?_; intro A6 c6 v2 r3 hbel2; have gv2 := Lib.hid (Below.trans gv1.out hbel2); replace r3 := Lib.hid r3; clear r2 p3 gv1 hbel2))
        go_at_call 9
        have hll : (l ++ l).length ≤ 120 := by rw [List.length_append]; omega
        refine (of_at A6 c6 _ (l ++ l) (by omega) (by rw [List.length_append]) r3.out.cap.1 r3.out.cap.2 v2 r3.out.rb).mono ?_
        rintro e w9 ⟨rfl, hg9⟩
        have G9 := Lib.hid (Gr.trans (Gr.trans G7.out gv2.out) hg9)
        clear G7 gv2 r3 hg9 p1 p2
        have hk8 := sk_length l
        have hk9 := sk_length (l ++ l)
        have t13 := Lib.hid ((Blk.new w9 30 (vs (List.replicate 8 0))).alloc (.cells (vs (List.replicate 8 0)) 30))
        have t14 := Blk.new (w9.alloc (.cells (vs (List.replicate 8 0)) 30)) 30 (vs (List.replicate 8 0))
        rw [World.size_alloc] at t14
        replace t14 := Lib.hid t14
        go_wp2_with (first
          | (refine wpList_store_blk rfl 30 _ _ rfl w9.heap.size (vs (sk l)) rfl rfl 30 (vs (List.replicate 8 0)) t13.out (info8' hk8) (by rw [vs_size, vs_size, hk8]; rfl) (vs_cells _) ?_; intro v3 n13 kn hsn; have n14 := Lib.hid (kn.blk t14.out (by simp)); have gn := Lib.hid (Kb.below kn (by simp; omega)); replace n13 := Lib.hid n13; clear kn t13 t14)
          | (refine wpList_store_blk rfl 30 _ _ rfl (w9.heap.size + 1) (vs (sk (l ++ l))) rfl rfl 30 (vs (List.replicate 8 0)) n14.out (info8' hk9) (by rw [vs_size, vs_size, hk9]; rfl) (vs_cells _) ?_; intro v4 m14 kn hsm; have m13 := Lib.hid (kn.blk n13.out (by simp)); have gm := Lib.hid (Kb.below kn (by rw [hsn]; simp <;> omega)); replace m14 := Lib.hid m14; clear kn n13 n14))
        have q3 : ((l.length : Int) - 3).toNat = l.length - 3 := by omega
        have q4 : 0 ≤ (l.length : Int) - 3 := by omega
        have q5 : (l.length : Int) - 3 ≤ (l.length : Int) := by omega
        have q6 : ¬ c = l.length - 3 := by omega
        have q7 : (3 : Int) ≤ (c : Int) := by omega
        have q10 : (3 : Int) ≤ (l.length : Int) := by omega
        have q8 : l.length - (l.length - 3) = 3 := by omega
        have q9 : IntKind.i64.wrap ((l.length : Int) - 3) = (l.length : Int) - 3 := IntWalk.i64_in _ (by omega)
        clear hsm hsn
        have G4 : Gr w v4 := by
          have e1 : Gr w9 v3 := Below.trans ((Below.alloc (Below.alloc (Below.refl w9.heap.size w9) (Nat.le_refl _) (.cells (vs (List.replicate 8 0)) 30)) (by simp) (.cells (vs (List.replicate 8 0)) 30))) gn.out
          exact Gr.trans G9.out (Below.trans e1 (gm.out.mono (by omega)))
        have o80 := Lib.hid (OB.drew (OB.made (E := 5) (base := v4.heap.size) v4 (Nat.le_refl _)))
        have g80 := Lib.hid (Gr.drew (Gr.alloc (Gr.refl v4) (.cells #[] 5)))
        have r85 : RB (v4.alloc (.cells #[] 5)).drew w.heap.size (A.map (·.add (l.length - 3))) (l.drop (l.length - 3)) := by
          have q := (hrh.out.below (Gr.trans G4 g80.out)).drop (k := l.length - 3) (cap := c) (by omega) hc
          rw [if_neg q6] at q
          exact q
        have d85 : (l.drop (l.length - 3)).length = 3 := by rw [List.length_drop]; omega
        have d88 : (l.take 3).length = 3 := by rw [List.length_take]; omega
        obtain ⟨seam, hseam⟩ : ∃ s, s = l.drop (l.length - 3) ++ l.take 3 := ⟨_, rfl⟩
        have dsm : seam.length = 6 := by rw [hseam, List.length_append, d85, d88]
        have htw := Lib.hid (sk_twice l h3)
        rw [← hseam] at htw
        replace hseam := Lib.hid hseam
        replace r85 := Lib.hid r85
        replace d85 := Lib.hid d85
        replace d88 := Lib.hid d88
        replace dsm := Lib.hid dsm
        replace G4 := Lib.hid G4
        go_region_law (first
          | (refine step_append_bytes _ rfl (.tmp 80) (.tmp 85) 22 rfl v4.heap.size 5 Try.underlying22 byteType (.slice (some ⟨v4.heap.size, 0, none⟩) 0 0) [] (by simp [Act.eval]) (by exact o80.out) w.heap.size (A.map (·.add (l.length - 3))) (c - (l.length - 3)) 3 (l.drop (l.length - 3)) rfl d85.out.symm (by exact r85.out) (by rw [d85.out]; simp) (by simp) (l.drop (l.length - 3)) rfl 3 d85.out.symm ?_; intro A7 c7 v5 o86 hb86; have g86 : Hid (Gr v4 v5) := Lib.hid (Below.trans g80.out hb86); have r88 := Lib.hid ((hrh.out.below (Gr.trans G4.out g86.out)).take (k := 3) (by omega)); replace o86 := Lib.hid o86; clear hb86)
          | (refine step_append_bytes _ rfl (.tmp 86) (.tmp 88) 22 rfl v4.heap.size 5 Try.underlying22 byteType (.slice A7 3 c7) (l.drop (l.length - 3)) (by simp [Act.eval]) (by exact o86.out) w.heap.size A c 3 (l.take 3) rfl d88.out.symm (by exact r88.out) (by rw [d85.out, d88.out]; simp) (Below.size g86.out) seam hseam.out seam.length rfl ?_; intro A9 c9 v6 o89 hb89))
        have G6 : Gr v4 v6 := Below.trans g86.out hb89
        have v13 := blk_more m13.out G6
        have v14 := blk_more m14.out G6
        have GG := Gr.trans G4.out G6
        have hq1 := o89.cap.1
        have hq2 := o89.cap.2
        have hq3 := o89.rb
        have hs6 : seam.length ≤ 120 := by rw [dsm.out]; omega
        clear o80 g80 r85 g86 r88 o86 hb89 o89 m13 m14 gn gm G9 G4 q9
        go_wp2
        refine region_grow (by kernel_rfl) (by kernel_rfl) ?_
        refine GW.call0 (eqv (.bool true)) rfl trivial rfl Try.func6 (by kernel_rfl) (by kernel_rfl) (eqv_lasts _)  (fun w' hg => ?_) ?_
        · exact awake_any w'
        refine GW.mv rfl trivial (.inl rfl) (kn (t := 90) (j := 0) (by kernel_rfl)) (eqv_lasts _) ?_
        refine GW.ldRow rfl ⟨91, by kernel_rfl, by kernel_rfl, fun _ _ h => h⟩ rfl (kn0 (t := 14) (c := .pointer (some ⟨w9.heap.size + 1, 0, none⟩)) (by kernel_rfl) rfl) (v14) Try.underlying30 rfl (info8' (sk_length _)) ?_
        refine GW.ldRow rfl ⟨91, by kernel_rfl, by kernel_rfl, fun _ _ h => h⟩ rfl (kn0 (t := 13) (c := .pointer (some ⟨w9.heap.size, 0, none⟩)) (by kernel_rfl) rfl) (v13) Try.underlying30 rfl (info8' (sk_length _)) ?_
        refine GW.mv rfl ⟨91, by kernel_rfl, by kernel_rfl, fun _ _ h => h⟩ (.inl rfl) (kn0 (t := 15) (c := .slice A9 seam.length c9) (by kernel_rfl) rfl) (eqv_lasts _) ?_
        refine GW.call1 (eqv (.agg (vs (sk seam)))) rfl ⟨91, by kernel_rfl, by kernel_rfl, fun _ _ h => h⟩ rfl Try.func9 (by kernel_rfl) (by kernel_rfl) (eqv_lasts _) (kn (t := 94) (j := 4) (by kernel_rfl)) (fun v w' hg hv => ?_) ?_
        · obtain rfl : v = _ := hv
          refine (of_any A9 c9 seam (by omega) hq1 hq2 w' ((hq3.below hg).more hg.size)).mono ?_
          rintro e w2 ⟨rfl, hg2⟩
          exact ⟨_, rfl, rfl, hg2⟩
        refine GW.call2 (eqv (.agg (vs (merge (sk l) (sk seam))))) rfl ⟨91, by kernel_rfl, by kernel_rfl, fun _ _ h => h⟩ rfl Try.func11 (by kernel_rfl) (by kernel_rfl) (eqv_lasts _) (kn (t := 93) (j := 3) (by kernel_rfl)) (kn (t := 95) (j := 5) (by kernel_rfl)) (fun v u w' hg hv hu => ?_) ?_
        · obtain rfl : v = _ := hv
          obtain rfl : u = _ := hu
          refine (merge_any (sk l) (sk seam) w' (sk_length _) (sk_length _)).mono ?_
          rintro e w2 ⟨rfl, hg2⟩
          exact ⟨_, rfl, rfl, hg2⟩
        refine GW.bin (.bool true) rfl ⟨91, by kernel_rfl, by kernel_rfl, fun _ _ h => h⟩ rfl (kn (t := 92) (j := 2) (by kernel_rfl)) (kn (t := 96) (j := 6) (by kernel_rfl)) (fun w' => by rw [eq_agg _ _ (sk_length _) (merge_length (sk_length _) (sk_length _)), htw.out]; simp) ?_
        refine GW.pick (b := true) rfl trivial rfl (kn (t := 91) (j := 1) (by kernel_rfl)) (kn (t := 97) (j := 7) (by kernel_rfl)) (eqv_lasts _) ?_
        refine GW.mv rfl trivial (.inr rfl) (kn (t := 98) (j := 8) (by kernel_rfl)) (eqv_lasts _) ?_
        refine GW.done (by simp) (by kernel_rfl) (fun w' hg => ?_)
        intro v0 _ v1 _ v2 _ v3 _ v4 _ v5 _ v6 _ v7 _ v8 _ v9 h9
        obtain rfl : v9 = (.bool true) := h9
        simp only [GFin, Act.put, List.setIfInBounds_toArray, List.set_cons_succ, List.set_cons_zero]
        go_wp2
        go_ret
        refine ⟨_, rfl, ?_, Gr.trans GG hg⟩
        simp [eqv]
  · have g0 := Lib.hid ((Gr.refl w).alloc (.cells #[.int .u8 (n8 x), .int .u8 (n8 y)] 37))
    have hh : ((60 : Int) < (l.length : Int)) ∨ (¬ (60 : Int) < (l.length : Int) ∧ (60 : Int) < (m.length : Int)) ∨ (¬ (60 : Int) < (l.length : Int) ∧ ¬ (60 : Int) < (m.length : Int) ∧ (l.length : Int) < 4) := by omega
    rcases hh with k1 | ⟨k1, k2⟩ | ⟨k1, k2, k3⟩
    all_goals
      go_enter Try.func5, Try.ntmps5
      go_wp2_with fail
      go_at_call 6
      refine (haw.out _).mono ?_
      rintro e w3 ⟨v, rfl, hv, hg⟩
      obtain rfl : v = .bool true := hv
      replace hg := Lib.hid hg
      go_wp2
      go_ret
      exact ⟨_, rfl, rfl, Gr.trans g0.out hg.out⟩
end Sk
end Go.Proofs.Ytogpcgbbifclmaa

