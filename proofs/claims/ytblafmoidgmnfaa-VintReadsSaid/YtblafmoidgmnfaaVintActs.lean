/- A slice of things that are put or read, as it lies; the walks of the law's small functions on them. No condition but sizes. -/
import Derived.Test.YtblafmoidgmnfaaVintAwake
import Derived.Test.YtblafmoidgmnfaaVintRefB
set_option linter.unusedVariables false
set_option linter.unusedSimpArgs false
namespace Go.Proofs.Ytblafmoidgmnfaa
open Go Go.RowKit W
namespace Vint
structure ActT where
  kind : Int
  n : UInt64
  m : UInt64
  k : Int
  s : List UInt8
abbrev actC (a : ActT) : Array Value := #[.int .i64 a.kind, .int .u64 (n64 a.n), .int .u64 (n64 a.m), .int .i64 a.k, .string ⟨a.s.toArray⟩]
abbrev actV (a : ActT) : Value := .agg (actC a)
def LA (w : World) (B : Nat) (A : Option Addr) (ls : List ActT) : Prop := ∀ i (h : i < ls.length), ∃ ad, A = some ad ∧ ad.block < B ∧ ∀ j v, (actC ls[i])[j]? = some v → w.cell? (ad.add (i * 5 + j)) = some v
theorem LA.below {w w' : World} {B : Nat} {A : Option Addr} {ls : List ActT} (h : LA w B A ls) (hb : Below B w w') : LA w' B A ls := fun i hi => by
  obtain ⟨ad, h1, h2, h3⟩ := h i hi
  refine ⟨ad, h1, h2, fun j v hv => ?_⟩
  rw [hb.cell (p := ad.add (i * 5 + j)) (by rw [block_of_add]; exact h2)]
  exact h3 j v hv
theorem add_at (a : Addr) (i j : Nat) (h : 0 < j) : a.add (i + j) = ⟨(a.add i).block, (a.add i).off + j, none⟩ := by
  unfold Addr.add
  by_cases h0 : i = 0
  · subst h0; simp; omega
  · simp [h0]; omega
theorem LA.at_ {w : World} {B : Nat} {A : Option Addr} {ls : List ActT} (hl : LA w B A ls) {i : Nat} (h : i < ls.length) : ∃ ad, A = some ad ∧ ad.block < B ∧ w.cell? (ad.add (i * 5)) = some (.int .i64 (ls[i]).kind) ∧
    w.cell? ⟨(ad.add (i * 5)).block, (ad.add (i * 5)).off + 1, none⟩ = some (.int .u64 (n64 (ls[i]).n)) ∧ w.cell? ⟨(ad.add (i * 5)).block, (ad.add (i * 5)).off + 2, none⟩ = some (.int .u64 (n64 (ls[i]).m)) ∧
    w.cell? ⟨(ad.add (i * 5)).block, (ad.add (i * 5)).off + 3, none⟩ = some (.int .i64 (ls[i]).k) ∧ w.cell? ⟨(ad.add (i * 5)).block, (ad.add (i * 5)).off + 4, none⟩ = some (.string ⟨(ls[i]).s.toArray⟩) := by
  obtain ⟨ad, h1, h2, h3⟩ := hl i h
  refine ⟨ad, h1, h2, h3 0 _ rfl, ?_, ?_, ?_, ?_⟩
  · rw [← add_at ad (i * 5) 1 (by omega)]; exact h3 1 _ rfl
  · rw [← add_at ad (i * 5) 2 (by omega)]; exact h3 2 _ rfl
  · rw [← add_at ad (i * 5) 3 (by omega)]; exact h3 3 _ rfl
  · rw [← add_at ad (i * 5) 4 (by omega)]; exact h3 4 _ rfl
/-- Few, and of short texts. -/
def few (ls : List ActT) : Bool := decide (ls.length ≤ 40) && ls.all fun a => decide (a.s.length ≤ 200)
set_option maxHeartbeats 1000000 in
theorem few_any (A : Option Addr) (c : Nat) (ls : List ActT) (w : World) (hl : LA w w.heap.size A ls) :
    Calls Try.prog 7 #[.slice A ls.length c] w fun e w' => e = .returned (.bool (few ls)) ∧ w = w' := by
  have hl' := Lib.hid hl
  clear hl
  by_cases h40 : 40 < ls.length
  · have hf : Hid (few ls = false) := Lib.hid (by unfold few; rw [decide_eq_false (by omega), Bool.false_and])
    go_enter Try.func7, Try.ntmps7
    go_wp2
    go_ret
    rw [hf.out]
    exact ⟨rfl, rfl⟩
  · go_enter Try.func7, Try.ntmps7
    go_wp2
    go_loop [3] (fun i => ∃ k : Nat, k ≤ ls.length ∧ i = .int .i64 (k : Int) ∧ Hid ((ls.take k).all (fun a => decide (a.s.length ≤ 200)) = true)) (fun i => ls.length - (intOf i).toNat)
    case atStart => exact ⟨0, by omega, rfl, Lib.hid rfl⟩
    case round =>
      obtain ⟨k, hk, rfl, hall⟩ := hrel
      by_cases h : k < ls.length
      · obtain ⟨ad, hA, hlt, c0, c1, c2, c3, c4⟩ := hl'.out.at_ h
        subst hA
        have hsn := Lib.hid (show (ls.take (k + 1)).all (fun a => decide (a.s.length ≤ 200)) = ((ls.take k).all (fun a => decide (a.s.length ≤ 200)) && decide ((ls[k]).s.length ≤ 200)) by rw [List.take_succ_eq_append_getElem h, List.all_append]; simp)
        have hmem := Lib.hid (show ls[k] ∈ ls from List.getElem_mem h)
        generalize ls[k] = a at *
        clear c0 c1 c2 c3
        by_cases h2 : 200 < a.s.length
        · have h2i : (200 : Int) < (a.s.length : Int) := by omega
          have hf : Hid (few ls = false) := Lib.hid (by
            unfold few
            rw [Bool.and_eq_false_iff]
            refine .inr ?_
            rw [List.all_eq_false]
            exact ⟨a, hmem.out, by simp; omega⟩)
          clear hall hsn hmem
          go_wp2
          go_ret
          rw [hf.out]
          exact ⟨rfl, rfl⟩
        · have h2i : ¬ (200 : Int) < (a.s.length : Int) := by omega
          have hall2 : Hid ((ls.take (k + 1)).all (fun a => decide (a.s.length ≤ 200)) = true) := Lib.hid (by rw [hsn.out, hall.out, decide_eq_true (by omega)]; rfl)
          clear hall hsn hmem
          go_wp2
          go_round
          case rel => exact ⟨k + 1, by omega, by go_num, hall2⟩
          case measure => simp [intOf]; omega
      · obtain rfl : k = ls.length := by omega
        have hf : Hid (few ls = true) := Lib.hid (by
          have := hall.out
          rw [List.take_length] at this
          unfold few
          rw [this, decide_eq_true (by omega)]
          rfl)
        clear hall
        go_wp2
        go_ret
        rw [hf.out]
        exact ⟨rfl, rfl⟩
/-- The bytes of a thing. -/
def bytesOf (a : ActT) : List UInt8 := if a.kind = 0 ∨ a.kind = 1 then num a.n.toNat else if a.kind = 2 then text a.s else sum a.n a.m
theorem kind_ways (a : ActT) : (a.kind = 0 ∧ bytesOf a = num a.n.toNat) ∨ (a.kind = 1 ∧ bytesOf a = num a.n.toNat) ∨ (a.kind = 2 ∧ bytesOf a = text a.s) ∨ (¬ a.kind = 0 ∧ ¬ a.kind = 1 ∧ ¬ a.kind = 2 ∧ bytesOf a = sum a.n a.m) := by
  unfold bytesOf
  by_cases h0 : a.kind = 0
  · exact .inl ⟨h0, if_pos (.inl h0)⟩
  · by_cases h1 : a.kind = 1
    · exact .inr (.inl ⟨h1, if_pos (.inr h1)⟩)
    · by_cases h2 : a.kind = 2
      · exact .inr (.inr (.inl ⟨h2, by rw [if_neg (by omega), if_pos h2]⟩))
      · exact .inr (.inr (.inr ⟨h0, h1, h2, by rw [if_neg (by omega), if_neg h2]⟩))
set_option maxHeartbeats 2000000 in
theorem put_any (A : Option Addr) (c : Nat) (l : List UInt8) (a : ActT) (w : World) (hs : l.length ≤ 10000000000) (hs2 : a.s.length ≤ 10000000000) (hr : RB w w.heap.size A l) :
    Calls Try.prog 9 #[.slice A l.length c, actV a] w (Out 5 w (l ++ bytesOf a)) := by
  have hb := Blk.new w 29 (actC a)
  have hg := (Gr.refl w).alloc (.cells (actC a) 29)
  have hr1 := hr.below hg
  rw [show w.heap.size = w.heap.size from rfl] at hr1
  have hr2 := hr1.more (B' := (w.alloc (.cells (actC a) 29)).heap.size) (by simp)
  obtain ⟨w1, hw1⟩ : ∃ w1, w1 = w.alloc (.cells (actC a) 29) := ⟨_, rfl⟩
  rw [← hw1] at hb hg hr2
  have q0 : w1.cell? ⟨w.heap.size, 0, none⟩ = some (.int .i64 a.kind) := hb.cell 0
  have q1 : w1.cell? ⟨w.heap.size, 1, none⟩ = some (.int .u64 (n64 a.n)) := hb.cell 1
  have q2 : w1.cell? ⟨w.heap.size, 2, none⟩ = some (.int .u64 (n64 a.m)) := hb.cell 2
  have q4 : w1.cell? ⟨w.heap.size, 4, none⟩ = some (.string ⟨a.s.toArray⟩) := hb.cell 4
  have hw1' := Lib.hid hw1
  replace hg := Lib.hid hg
  clear hb hr hr1 hw1
  rcases kind_ways a with ⟨h0, hb⟩ | ⟨h1, hb⟩ | ⟨h2, hb⟩ | ⟨h0, h1, h2, hb⟩
  · have hn := Lib.hid (vnum_any A c l a.n w1 (by omega) hr2)
    rw [hb]
    have e0 : (a.kind == 0) = true := by simp [h0]
    clear h0
    clear hr2 hb
    go_enter Try.func9, Try.ntmps9
    go_wp2_with fail
    rw [← hw1'.out]
    refine hn.out.mono ?_
    rintro e w2 ⟨A', c', rfl, hown, hg'⟩
    replace hown := Lib.hid hown
    replace hg' := Lib.hid hg'
    clear hn
    go_wp2
    go_ret
    exact ⟨A', c', by rw [List.length_append]; rfl, hown.out.base_le hg.out.size, hg.out.trans hg'.out⟩
  · have hn := Lib.hid (vnum_any A c l a.n w1 (by omega) hr2)
    rw [hb]
    have e0 : (a.kind == 0) = false := by simp [h1]
    have e1 : (a.kind == 1) = true := by simp [h1]
    clear h1
    clear hr2 hb
    go_enter Try.func9, Try.ntmps9
    go_wp2_with fail
    rw [← hw1'.out]
    refine hn.out.mono ?_
    rintro e w2 ⟨A', c', rfl, hown, hg'⟩
    replace hown := Lib.hid hown
    replace hg' := Lib.hid hg'
    clear hn
    go_wp2
    go_ret
    exact ⟨A', c', by rw [List.length_append]; rfl, hown.out.base_le hg.out.size, hg.out.trans hg'.out⟩
  · have hn := Lib.hid (vtext_any A c l a.s w1 (by omega) (by omega) hr2)
    rw [hb]
    have e0 : (a.kind == 0) = false := by simp [h2]
    have e1 : (a.kind == 1) = false := by simp [h2]
    have e2 : (a.kind == 2) = true := by simp [h2]
    clear h2
    clear hr2 hb
    go_enter Try.func9, Try.ntmps9
    go_wp2_with fail
    rw [← hw1'.out]
    refine hn.out.mono ?_
    rintro e w2 ⟨A', c', rfl, hown, hg'⟩
    replace hown := Lib.hid hown
    replace hg' := Lib.hid hg'
    clear hn
    go_wp2
    go_ret
    exact ⟨A', c', by rw [List.length_append]; rfl, hown.out.base_le hg.out.size, hg.out.trans hg'.out⟩
  · have hn := Lib.hid (vsum_any A c l a.n a.m w1 (by omega) hr2)
    rw [hb]
    have e0 : (a.kind == 0) = false := by simp [h0]
    have e1 : (a.kind == 1) = false := by simp [h1]
    have e2 : (a.kind == 2) = false := by simp [h2]
    clear h0 h1 h2
    clear hr2 hb
    go_enter Try.func9, Try.ntmps9
    go_wp2_with fail
    rw [← hw1'.out]
    refine hn.out.mono ?_
    rintro e w2 ⟨A', c', rfl, hown, hg'⟩
    replace hown := Lib.hid hown
    replace hg' := Lib.hid hg'
    clear hn
    go_wp2
    go_ret
    exact ⟨A', c', by rw [List.length_append]; rfl, hown.out.base_le hg.out.size, hg.out.trans hg'.out⟩
set_option maxHeartbeats 2000000 in
theorem bytes_any (a : ActT) (w : World) (hs2 : a.s.length ≤ 10000000000) :
    Calls Try.prog 10 #[actV a] w fun e w' => e = .returned (str (bytesOf a)) ∧ Gr w w' := by
  have hb := Blk.new w 29 (actC a)
  have hg := (Gr.refl w).alloc (.cells (actC a) 29)
  obtain ⟨w1, hw1⟩ : ∃ w1, w1 = w.alloc (.cells (actC a) 29) := ⟨_, rfl⟩
  rw [← hw1] at hb hg
  have q0 : w1.cell? ⟨w.heap.size, 0, none⟩ = some (.int .i64 a.kind) := hb.cell 0
  have q1 : w1.cell? ⟨w.heap.size, 1, none⟩ = some (.int .u64 (n64 a.n)) := hb.cell 1
  have q2 : w1.cell? ⟨w.heap.size, 2, none⟩ = some (.int .u64 (n64 a.m)) := hb.cell 2
  have q4 : w1.cell? ⟨w.heap.size, 4, none⟩ = some (.string ⟨a.s.toArray⟩) := hb.cell 4
  have hw1' := Lib.hid hw1
  replace hg := Lib.hid hg
  clear hb hw1
  rcases kind_ways a with ⟨h0, hb⟩ | ⟨h1, hb⟩ | ⟨h2, hb⟩ | ⟨h0, h1, h2, hb⟩
  · have hn := Lib.hid (refNum_any a.n w1)
    rw [hb]
    have e0 : (a.kind == 0) = true := by simp [h0]
    clear h0
    clear hb
    go_enter Try.func10, Try.ntmps10
    go_wp2_with fail
    rw [← hw1'.out]
    refine hn.out.mono ?_
    rintro e w2 ⟨rfl, hg'⟩
    replace hg' := Lib.hid hg'
    clear hn
    go_wp2
    go_ret
    exact ⟨rfl, hg.out.trans hg'.out⟩
  · have hn := Lib.hid (refNum_any a.n w1)
    rw [hb]
    have e0 : (a.kind == 0) = false := by simp [h1]
    have e1 : (a.kind == 1) = true := by simp [h1]
    clear h1
    clear hb
    go_enter Try.func10, Try.ntmps10
    go_wp2_with fail
    rw [← hw1'.out]
    refine hn.out.mono ?_
    rintro e w2 ⟨rfl, hg'⟩
    replace hg' := Lib.hid hg'
    clear hn
    go_wp2
    go_ret
    exact ⟨rfl, hg.out.trans hg'.out⟩
  · have hn := Lib.hid (refText_any a.s w1 (by omega))
    rw [hb]
    have e0 : (a.kind == 0) = false := by simp [h2]
    have e1 : (a.kind == 1) = false := by simp [h2]
    have e2 : (a.kind == 2) = true := by simp [h2]
    clear h2
    clear hb
    go_enter Try.func10, Try.ntmps10
    go_wp2_with fail
    rw [← hw1'.out]
    refine hn.out.mono ?_
    rintro e w2 ⟨rfl, hg'⟩
    replace hg' := Lib.hid hg'
    clear hn
    go_wp2
    go_ret
    exact ⟨rfl, hg.out.trans hg'.out⟩
  · have hn := Lib.hid (refSum_any a.n a.m w1)
    rw [hb]
    have e0 : (a.kind == 0) = false := by simp [h0]
    have e1 : (a.kind == 1) = false := by simp [h1]
    have e2 : (a.kind == 2) = false := by simp [h2]
    clear h0 h1 h2
    clear hb
    go_enter Try.func10, Try.ntmps10
    go_wp2_with fail
    rw [← hw1'.out]
    refine hn.out.mono ?_
    rintro e w2 ⟨rfl, hg'⟩
    replace hg' := Lib.hid hg'
    clear hn
    go_wp2
    go_ret
    exact ⟨rfl, hg.out.trans hg'.out⟩
end Vint
end Go.Proofs.Ytblafmoidgmnfaa
