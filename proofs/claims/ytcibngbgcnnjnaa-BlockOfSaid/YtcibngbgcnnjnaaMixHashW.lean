/- The walks of the hash that meets bytes piece by piece, and of the reference's sum. No condition but sizes. -/
import Derived.Test.YtcibngbgcnnjnaaMixText
import Derived.Test.YtcibngbgcnnjnaaMixHash
set_option linter.unusedVariables false
set_option linter.unusedSimpArgs false
namespace Go.Proofs.Ytcibngbgcnnjnaa
open Go Go.RowKit W
namespace Mix
theorem shl_eq (c : UInt8) (k : Nat) : c.toUInt64 * UInt64.ofInt (2 ^ (8 * k)) = UInt64.ofNat (c.toNat * 256 ^ k) := by
  have e : ((2 : Int) ^ (8 * k)) = ((256 ^ k : Nat) : Int) := by rw [Int.pow_mul]; simp
  rw [e, w_ofNat_u64, UInt64.ofNat_mul]
  congr 1
  simp
theorem word_any (A : Option Addr) (c B : Nat) (l : List UInt8) (w : World) (hs : l.length ≤ 8) (hrd : RB w B A l) :
    Calls Try.prog 61 #[.slice A l.length c] w fun e w' => e = .returned (.int .u64 (n64 (word l))) ∧ w = w' := by
  have hrd' := Lib.hid hrd
  clear hrd
  go_enter Try.func61, Try.ntmps61
  go_wp2
  go_loop [3, 8] (fun s i => ∃ k : Nat, k ≤ l.length ∧ s = .int .u64 (n64 (word (l.take k))) ∧ i = .int .i64 k) (fun _ i => l.length - (intOf i).toNat)
  case atStart => exact ⟨0, Nat.zero_le _, rfl, rfl⟩
  case round =>
    obtain ⟨k, hk, rfl, rfl⟩ := hrel
    by_cases h : k < l.length
    · obtain ⟨ad, rfl, _, hc⟩ := hrd'.out.at_ h
      have hm := Lib.hid (word_or (l.take k) l[k] (by rw [List.length_take]; omega))
      have ht : (l.take k).length = k := by rw [List.length_take]; omega
      have hsn := Lib.hid (show l.take (k + 1) = l.take k ++ [l[k]] from List.take_succ_eq_append_getElem h)
      have ht' := Lib.hid ht
      clear ht
      generalize word (l.take k) = x at *
      go_wp2
      go_round
      case rel =>
        refine ⟨k + 1, by omega, ?_, by go_num⟩
        rw [hsn.out, ← hm.out, ht'.out]
        rw [shl_eq]
      case measure => simp [intOf]; omega
    · have hk' : k = l.length := by omega
      subst hk'
      rw [List.take_length]
      go_wp2
      go_ret
      exact ⟨rfl, rfl⟩
/-- All that lay there but block g lies as it lay. -/
def Kb (g : Nat) (w w' : World) : Prop := w.grownBy w' (some g)
section
variable {g : Nat} {a b c : World}
theorem Kb.refl (g : Nat) (w : World) : Kb g w w := World.grownBy.refl w _
theorem Kb.size (h : Kb g a b) : a.heap.size ≤ b.heap.size := World.grownBy.size h
theorem Kb.trans (h : Kb g a b) (k : Kb g b c) : Kb g a c := World.grownBy.trans h k
theorem Kb.set (h : Kb g a b) (i : Nat) (u : Value) : Kb g a (b.setCell ⟨g, i, none⟩ u) := World.grownBy.trans h ⟨rfl, rfl, rfl, by simp, fun k _ hk => Below.heap_setCell b ⟨g, i, none⟩ u k (fun e => hk (by rw [e]))⟩
theorem Kb.alloc (h : Kb g a b) (o : Obj) : Kb g a (b.alloc o) := World.grownBy.trans h (World.grownBy_alloc b o _)
theorem Kb.to {B : Nat} (h : Kb g a b) (k : Below B b c) (hB : a.heap.size ≤ B) : Kb g a c :=
  ⟨k.os.trans (World.grownBy.os h), k.tape.trans (World.grownBy.tape h), k.output.trans (World.grownBy.output h), Nat.le_trans (World.grownBy.size h) k.size, fun i hi hne => (k.block i (by omega)).trans (World.grownBy.block h i hi hne)⟩
theorem Kb.gr (h : Kb g a b) (k : Gr b c) : Kb g a c := h.to k (World.grownBy.size h)
theorem Kb.below (h : Kb g a b) (hg : g ≤ a.heap.size) : Below g a b := ⟨World.grownBy.os h, World.grownBy.tape h, World.grownBy.output h, World.grownBy.size h, fun i hi => World.grownBy.block h i (by omega) (fun e => by cases e; omega)⟩
theorem Kb.blk (h : Kb g a b) {i : Nat} {t : TypeId} {cs : Array Value} (hb : Blk a i t cs) (hi : i ≠ g) : Blk b i t cs := hb.grown h (fun e => hi (by cases e; rfl))
end
/-- Block g is a hash that has met the bytes l. -/
def MetN (N : Nat) (w : World) (g : Nat) (l : List UInt8) : Prop := ∃ A c, Blk w g 95 #[.int .u64 (n64 (feed start l).1), .int .u64 (n64 (feed start l).2), .bool true, .slice A (rest l).length c, .int .i64 (l.length : Int)] ∧
  RB w w.heap.size A (rest l) ∧ (∀ ad, A = some ad → g < ad.block ∧ ad.block < N) ∧ (rest l).length ≤ c ∧ c ≤ maxLen
def Met (w : World) (g : Nat) (l : List UInt8) : Prop := MetN w.heap.size w g l
def Fresh (w : World) (g : Nat) : Prop := Blk w g 95 #[.int .u64 0, .int .u64 0, .bool false, .slice none 0 0, .int .i64 0]
theorem begin_met (N g : Nat) (l : List UInt8) (w : World) (h : MetN N w g l) : Calls Try.prog 59 #[.pointer (some ⟨g, 0, none⟩)] w fun e w' => e = .returned (.tuple #[]) ∧ w = w' := by
  obtain ⟨A, c, hb, _⟩ := h
  have c2 : w.cell? ⟨g, 2, none⟩ = some (.bool true) := hb.cell 2
  go_enter Try.func59, Try.ntmps59
  go_wp2
  go_end0
  exact ⟨rfl, rfl⟩
theorem begin_fresh (N g : Nat) (w : World) (h : Fresh w g) : Calls Try.prog 59 #[.pointer (some ⟨g, 0, none⟩)] w fun e w' => e = .returned (.tuple #[]) ∧ MetN N w' g [] ∧ Kb g w w' := by
  have hb : Blk w g _ _ := h
  have c2 : w.cell? ⟨g, 2, none⟩ = some (.bool false) := hb.cell 2
  have hst := Lib.hid (start_any w)
  go_enter Try.func59, Try.ntmps59
  go_wp2_with fail
  refine hst.out.mono ?_
  rintro e w' ⟨rfl, hg⟩
  have hb' := hb.below hg hb.lt
  have d0 := hb'.cell 0
  have d1 := hb'.cell 1
  have d2 := hb'.cell 2
  have f0 := hb'.frozen 0
  have f1 := hb'.frozen 1
  have f2 := hb'.frozen 2
  have hbf := Lib.hid (((hb'.set_ 0 (.int .u64 (n64 start.1))).set_ 1 (.int .u64 (n64 start.2))).set_ 2 (.bool true))
  have hbel := Lib.hid (((((Kb.refl g w).gr hg).set 0 (.int .u64 (n64 start.1))).set 1 (.int .u64 (n64 start.2))).set 2 (.bool true))
  clear hb hb' hg c2 h
  go_wp2
  go_end0
  refine ⟨rfl, ⟨none, 0, ?_, ?_, fun _ h => (by cases h), ?_, by unfold maxLen; omega⟩, hbel.out⟩
  · rw [feed_less (by simp), rest_less (by simp)]
    exact hbf.out
  · rw [rest_less (by simp)]
    exact RB.nil_
  · rw [rest_less (by simp)]
    exact Nat.le_refl _
theorem begin_any (N g : Nat) (l : List UInt8) (w : World) (h : MetN N w g l ∨ (Fresh w g ∧ l = [])) : Calls Try.prog 59 #[.pointer (some ⟨g, 0, none⟩)] w fun e w' => e = .returned (.tuple #[]) ∧ MetN N w' g l ∧ Kb g w w' := by
  rcases h with h | ⟨h, rfl⟩
  · refine (begin_met N g l w h).mono ?_
    rintro e w' ⟨rfl, rfl⟩
    exact ⟨rfl, h, Kb.refl _ _⟩
  · exact begin_fresh N g w h
theorem MetN.lt {N : Nat} {w : World} {g : Nat} {l : List UInt8} (h : MetN N w g l) : g < w.heap.size := by
  obtain ⟨A, c, hb, _⟩ := h
  exact hb.lt
theorem RB.setFar {w : World} {B : Nat} {A : Option Addr} {l : List UInt8} (h : RB w B A l) {p : Addr} (hp : ∀ ad, A = some ad → ad.block ≠ p.block) (u : Value) : RB (w.setCell p u) B A l :=
  ⟨h.1, fun hn => by
    obtain ⟨ad, e, hb, hc⟩ := h.2 hn
    exact ⟨ad, e, hb, fun j u' hu => (World.cell?_setCell_other _ _ _ _ (fun h' => hp ad e (by rw [← block_of_add ad j, h']))).trans (hc j u' hu)⟩⟩
def slen : Value → Nat
  | .slice _ n _ => n
  | _ => 0
set_option maxRecDepth 100000 in
set_option maxHeartbeats 1600000 in
theorem write_any (g : Nat) (l b : List UInt8) (Ab : Option Addr) (cb : Nat) (w : World) (h : Met w g l ∨ (Fresh w g ∧ l = [])) (hb : RB w g Ab b) (hs : l.length + b.length ≤ 1099511627776) (hcb : b.length ≤ cb) :
    Calls Try.prog 51 #[.pointer (some ⟨g, 0, none⟩), .slice Ab b.length cb] w fun e w' => e = .returned (.tuple #[]) ∧ Met w' g (l ++ b) ∧ Kb g w w' := by
  have hbeg := Lib.hid (begin_any w.heap.size g l w h)
  have hb' := Lib.hid hb
  have hgw : g < w.heap.size := (by rcases h with h | ⟨h, _⟩; exact MetN.lt h; exact Blk.lt h)
  clear h hb
  obtain ⟨i0, hi0, hz0, hz1, hz2⟩ := info_parts byteType.2
  go_enter Try.func51, Try.ntmps51
  go_wp2_with fail
  refine hbeg.out.mono ?_
  rintro e w1 ⟨rfl, hm1, hbel1⟩
  have hglt := hm1.lt
  obtain ⟨A, c, hk, hr, hA, hc, hm⟩ := hm1
  have hrl := rest_lt _ l (Nat.le_refl _)
  have hfeed := Lib.hid (feed_append b l.length start l (Nat.le_refl _))
  have hb1 := Lib.hid (hb'.out.below (hbel1.below (Nat.le_of_lt hgw)))
  have hsz1 := hbel1.size
  have d4 : w1.cell? ⟨g, 4, none⟩ = some (.int .i64 (l.length : Int)) := hk.cell 4
  have f4 := hk.frozen 4
  obtain ⟨n, hn⟩ : ∃ n : Int, n = (l.length : Int) + (b.length : Int) := ⟨_, rfl⟩
  have hk2 : Blk (w1.setCell ⟨g, 4, none⟩ (.int .i64 ((l.length : Int) + (b.length : Int)))) g 95 #[.int .u64 (n64 (feed start l).1), .int .u64 (n64 (feed start l).2), .bool true, .slice A (rest l).length c, .int .i64 ((l.length : Int) + (b.length : Int))] := hk.set_ 4 _
  have hbel2 := hbel1.set 4 (.int .i64 ((l.length : Int) + (b.length : Int)))
  have hb2 := hb1.out.setCell (p := ⟨g, 4, none⟩) (Nat.le_refl _) (.int .i64 ((l.length : Int) + (b.length : Int)))
  have hr2 := RB.setFar hr (p := ⟨g, 4, none⟩) (fun ad h => by have := hA ad h; show ad.block ≠ g; omega) (.int .i64 ((l.length : Int) + (b.length : Int)))
  have hsz : (w1.setCell ⟨g, 4, none⟩ (.int .i64 ((l.length : Int) + (b.length : Int)))).heap.size = w1.heap.size := World.size_setCell _ _ _
  have hk3 := Lib.hid (hk2.alloc (.cells #[] 5))
  have hb3 := Lib.hid (hb2.alloc (by rw [hsz]; omega) (.cells #[] 5))
  have hr3 := Lib.hid (hr2.alloc (by rw [hsz]; exact Nat.le_refl _) (.cells #[] 5))
  have hbel3 := Lib.hid (hbel2.alloc (.cells #[] 5))
  have hown3' := OB.made (E := 5) (base := w1.heap.size) (w1.setCell ⟨g, 4, none⟩ (.int .i64 ((l.length : Int) + (b.length : Int)))) (by rw [hsz]; exact Nat.le_refl _)
  rw [hsz] at hown3'
  have hown3 := Lib.hid hown3'
  have e3 := hk3.out.cell 3
  clear hbeg hb' hk hr hb1 hk2 hb2 hr2 hbel1 hbel2 hown3' hn n hm
  go_wp2_with (first
    | (refine wpList_append_bytes _ rfl (.tmp 18) (.tmp 22) 26 rfl w1.heap.size 5 Try.underlying26 byteType _ [] rfl (by exact hown3.out) w1.heap.size _ _ _ (rest l) rfl rfl (by exact hr3.out) (by simp; omega) (by simp) (rest l) rfl (rest l).length rfl ?_; intro A4 c4 w4 hown4 hbel4; have hb4 := Lib.hid (hb3.out.below (Below.mono hbel4 (Nat.le_of_lt hglt))); have hk4 := Lib.hid (hk3.out.below hbel4 hglt); have hbel4' := Lib.hid (hbel3.out.to hbel4 hsz1); have hle4 : w1.heap.size ≤ w4.heap.size := (by have := hbel4.size; simp at this; omega); clear hbel4)
    | (refine wpList_append_bytes _ rfl (.tmp 23) (.tmp 24) 26 rfl w1.heap.size 5 Try.underlying26 byteType _ (rest l) rfl (by exact hown4) g _ _ _ b rfl rfl (by exact hb4.out) (by omega) (by exact hle4) (rest l ++ b) rfl (rest l ++ b).length rfl ?_; intro A5 c5 w5 hown5 hbel5; have hk5 := Lib.hid (hk4.out.below hbel5 hglt); have hbel5' := Lib.hid (hbel4'.out.to hbel5 hsz1)))
  obtain ⟨A6, c6, he6, hc6, hm6⟩ := hown5.shape
  have hA5 : ∀ ad, A5 = some ad → g < ad.block ∧ ad.block < w5.heap.size := fun ad h => by
    subst h
    obtain ⟨blk, o, sp⟩ := ad
    have h1 := (OB.block hown5).1
    have h2 := (OB.block hown5).2.1
    show g < blk ∧ blk < _
    omega
  have hr5 := Lib.hid hown5.rb
  cases he6
  clear hown5 hown4 hown3 hr3 hk3 hb3 hbel3 hb4 hk4 hbel4' e3 d4 f4 hA
  go_loopw [4] (fun v wr => ∃ (m : List UInt8) (s : St) (A : Option Addr) (c : Nat), v = .slice A m.length c ∧ RB wr wr.heap.size A m ∧ (∀ ad, A = some ad → g < ad.block ∧ ad.block < wr.heap.size) ∧ m.length ≤ c ∧ c ≤ maxLen ∧
    (∃ A0 c0, Blk wr g 95 #[.int .u64 (n64 s.1), .int .u64 (n64 s.2), .bool true, .slice A0 (rest l).length c0, .int .i64 ((l.length : Int) + (b.length : Int))]) ∧ Kb g w wr ∧ Hid (feed s m = feed start (l ++ b) ∧ rest m = rest (l ++ b))) (fun v _ => slen v)
  case atStart =>
    exact ⟨rest l ++ b, feed start l, A5, c5, by simp, hr5.out, hA5, hc6, hm6, ⟨A, c, hk5.out⟩, hbel5'.out, Lib.hid ⟨hfeed.out.1.symm, hfeed.out.2.symm⟩⟩
  case round =>
    obtain ⟨m, s, A, c, rfl, hr, hA, hc, hmx, ⟨A0, c0, hk⟩, hbel, hF⟩ := hrel
    clear hk5 hbel5' hr5 hA5
    by_cases h8 : 8 ≤ m.length
    · have hr' := Lib.hid hr
      have hk' := Lib.hid hk
      have hglt := hk.lt
      have hbel' := Lib.hid hbel
      have q0 : wr.cell? ⟨g, 0, none⟩ = some (.int .u64 (n64 s.1)) := hk.cell 0
      have q1 : wr.cell? ⟨g, 1, none⟩ = some (.int .u64 (n64 s.2)) := hk.cell 1
      have hF' : feed (round s (word (m.take 8))) (m.drop 8) = feed start (l ++ b) ∧ rest (m.drop 8) = rest (l ++ b) := by
        rw [← feed_more h8, ← rest_more h8]; exact hF.out
      replace hF' := Lib.hid hF'
      clear hr hk hbel hF
      go_wp2
      refine region_grow (by kernel_rfl) (by kernel_rfl) ?_
      refine GW.mv rfl trivial (.inl rfl) (kn0 (t := 0) (c := .pointer (some ⟨g, 0, none⟩)) (by kernel_rfl) rfl) (eqv_lasts _) ?_
      refine GW.mv rfl trivial (.inl rfl) (kn0 (t := 0) (c := .pointer (some ⟨g, 0, none⟩)) (by kernel_rfl) rfl) (eqv_lasts _) ?_
      refine GW.p1 (.pointer (some ⟨g, 0, none⟩)) rfl trivial (kn (t := 30) (j := 1) (by kernel_rfl)) (fun ρ w' hρ hg => by simp [execOp, hρ, go_sem]) ?_
      refine GW.p1 (.pointer (some ⟨g, 0, none⟩)) rfl trivial (kn (t := 31) (j := 2) (by kernel_rfl)) (fun ρ w' hρ hg => by simp [execOp, hρ, go_sem]) ?_
      refine GW.p1 (sumV s) rfl trivial (kn (t := 32) (j := 3) (by kernel_rfl)) (fun ρ w' hρ hg => by have h0 := (hg.cell (p := ⟨g, 0, none⟩) hglt).trans q0; have h1 := (hg.cell (p := ⟨g, 1, none⟩) hglt).trans q1; simp [execOp, hρ, go_sem, h0, h1]) ?_
      refine GW.mv rfl trivial (.inl rfl) (kn0' (t := 4) (c := .slice A m.length c) (by kernel_rfl) rfl (isB_lasts m) (⟨A, c, rfl, hc, hmx, hr'.out⟩)) (isB_lasts m) ?_
      refine GW.shi m .i64 8 rfl trivial rfl Try.underlying26 hi0 (kn (t := 34) (j := 5) (by kernel_rfl)) knc (by omega) ?_
      refine GW.call1 (eqv (.int .u64 (n64 (word (m.take 8))))) rfl trivial rfl Try.func61 (by kernel_rfl) (by kernel_rfl) (eqv_lasts _) (kn (t := 35) (j := 6) (by kernel_rfl)) (fun v w' hg hv => ?_) ?_
      · obtain ⟨A', c', rfl, _, _, hr2⟩ := hv
        refine (word_any A' c' _ (m.take 8) w' (by rw [List.length_take]; omega) hr2).mono ?_
        rintro e w2 ⟨rfl, rfl⟩
        exact ⟨_, rfl, rfl, Gr.refl _⟩
      refine GW.call2 (eqv (sumV (round s (word (m.take 8))))) rfl trivial rfl Try.func60 (by kernel_rfl) (by kernel_rfl) (eqv_lasts _) (kn (t := 33) (j := 4) (by kernel_rfl)) (kn (t := 36) (j := 7) (by kernel_rfl)) (fun v u w' hg hv hu => ?_) ?_
      · obtain rfl : v = _ := hv
        obtain rfl : u = _ := hu
        refine (sround_any s _ w').mono ?_
        rintro e w2 ⟨rfl, hg2⟩
        exact ⟨_, rfl, rfl, hg2⟩
      refine GW.tail (m := 9) (by simp) (by kernel_rfl) (by kernel_rfl) (fun w' hg => ?_)
      intro v0 h0 v1 _ v2 _ v3 _ v4 _ v5 _ v6 _ v7 _ v8 h8
      obtain rfl : v0 = (.pointer (some ⟨g, 0, none⟩)) := h0
      obtain rfl : v8 = (sumV (round s (word (m.take 8)))) := h8
      simp only [GFin, List.take_succ_cons, List.take_zero, List.drop_succ_cons, List.drop_zero, Act.put, List.setIfInBounds_toArray, List.set_cons_succ, List.set_cons_zero]
      have hk2 := hk'.out.below hg hglt
      have q2 := hk2.cell 0
      have q3 := hk2.cell 1
      have f0 := hk2.frozen 0
      have f1 := hk2.frozen 1
      obtain ⟨s2, hs2⟩ : ∃ s2, s2 = round s (word (m.take 8)) := ⟨_, rfl⟩
      rw [← hs2] at hF' ⊢
      clear hs2
      have hk3 : Blk ((w'.setCell ⟨g, 0, none⟩ (.int .u64 (n64 s2.1))).setCell ⟨g, 1, none⟩ (.int .u64 (n64 s2.2))) g 95 #[.int .u64 (n64 s2.1), .int .u64 (n64 s2.2), .bool true, .slice A0 (rest l).length c0, .int .i64 ((l.length : Int) + (b.length : Int))] := (hk2.set_ 0 _).set_ 1 _
      have hbel2 := Lib.hid (((hbel'.out.gr hg).set 0 (.int .u64 (n64 s2.1))).set 1 (.int .u64 (n64 s2.2)))
      have hr3 := Lib.hid (RB.setFar (RB.setFar ((hr'.out.below hg).more hg.size) (p := ⟨g, 0, none⟩) (fun ad h => by have := hA ad h; show ad.block ≠ g; omega) (.int .u64 (n64 s2.1))) (p := ⟨g, 1, none⟩) (fun ad h => by have := hA ad h; show ad.block ≠ g; omega) (.int .u64 (n64 s2.2)))
      replace hk3 := Lib.hid hk3
      have hsz' := hg.size
      clear hk2 hk' hr' hg q0 q1
      go_wp2
      go_roundw
      case rel =>
        refine ⟨m.drop 8, s2, _, c - 8, ?_, by rw [World.size_setCell, World.size_setCell]; exact hr3.out.drop h8 hc, ?_, by rw [List.length_drop]; omega, by omega, ⟨A0, c0, hk3.out⟩, hbel2.out, hF'⟩
        · rw [List.length_drop]
          simp [Addr.add]
        · intro ad had
          cases A with
          | none => split at had <;> cases had
          | some a0 =>
            have h1 := hA a0 rfl
            have h2 := hsz'
            rw [World.size_setCell, World.size_setCell]
            split at had
            · cases had; omega
            · cases had; rw [block_of_add]; omega
      case measure => simp [slen]; omega
    · have hml : m.length < 8 := by omega
      have q3 := hk.cell 3
      have f3 := hk.frozen 3
      have hF2 : s = feed start (l ++ b) ∧ m = rest (l ++ b) := by
        have := hF.out
        rwa [feed_less h8, rest_less h8] at this
      obtain ⟨hF3, hF4⟩ := hF2
      subst hF3
      subst hF4
      have hk2 := Lib.hid (hk.set_ 3 (.slice A (rest (l ++ b)).length c))
      have hbel2 := Lib.hid (hbel.set 3 (.slice A (rest (l ++ b)).length c))
      have hr2 := Lib.hid (RB.setFar hr (p := ⟨g, 3, none⟩) (fun ad h => by have := hA ad h; show ad.block ≠ g; omega) (.slice A (rest (l ++ b)).length c))
      clear hr hk hbel hF
      go_wp2
      go_end0
      refine ⟨rfl, ⟨A, c, ?_, by rw [World.size_setCell]; exact hr2.out, by rw [World.size_setCell]; exact hA, hc, hmx⟩, hbel2.out⟩
      have := hk2.out
      rw [show (((l ++ b).length : Nat) : Int) = (l.length : Int) + (b.length : Int) by simp]
      exact this
end Mix
end Go.Proofs.Ytcibngbgcnnjnaa

