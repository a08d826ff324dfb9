/- Acts that lie in memory; the walks of few and awake. No condition but sizes. -/
import Derived.Test.YtpkbdodclkgjpaaLnkRefE
import Derived.Test.YtpkbdodclkgjpaaLnkDoW
set_option linter.unusedVariables false
set_option linter.unusedSimpArgs false
namespace Go.Proofs.Ytpkbdodclkgjpaa
open Go Go.RowKit Go.Shelf W
namespace Ln
def acL (c : Ac) : List Value := [.int .i64 c.k, .int .i64 c.w, .int .i64 c.i, .int .i64 c.t, .int .u32 (n32 c.m), str c.b]
def acs (l : List Ac) : List Value := l.flatMap acL
theorem acs_len (l : List Ac) : (acs l).length = l.length * 6 := flat_len acL 6 (fun _ => rfl) l
/-- Acts that are read. -/
def AR (w : World) (B : Nat) (A : Option Addr) (l : List Ac) : Prop := Reads w B 6 A l.length (acs l)
theorem AR.more {w : World} {B C : Nat} {A : Option Addr} {l : List Ac} (h : AR w B A l) (k : B ≤ C) : AR w C A l := Reads.more h k
theorem AR.below {w w' : World} {B : Nat} {A : Option Addr} {l : List Ac} (h : AR w B A l) (k : Below B w w') : AR w' B A l := Reads.below h k
theorem AR.at_ {w : World} {B : Nat} {A : Option Addr} {l : List Ac} (h : AR w B A l) {k : Nat} (hk : k < l.length) : ∃ ad, A = some ad ∧ ad.block < B ∧ w.cell? (ad.add (k * 6)) = some (.int .i64 l[k].k) ∧
    w.cell? ⟨(ad.add (k * 6)).block, (ad.add (k * 6)).off + 1, none⟩ = some (.int .i64 l[k].w) ∧ w.cell? ⟨(ad.add (k * 6)).block, (ad.add (k * 6)).off + 2, none⟩ = some (.int .i64 l[k].i) ∧
    w.cell? ⟨(ad.add (k * 6)).block, (ad.add (k * 6)).off + 3, none⟩ = some (.int .i64 l[k].t) ∧ w.cell? ⟨(ad.add (k * 6)).block, (ad.add (k * 6)).off + 4, none⟩ = some (.int .u32 (n32 l[k].m)) ∧
    w.cell? ⟨(ad.add (k * 6)).block, (ad.add (k * 6)).off + 5, none⟩ = some (str l[k].b) := by
  obtain ⟨ad, h1, h2, h3, h4⟩ := Reads.row (f := acL) (fun _ => rfl) rfl h hk (by omega)
  exact ⟨ad, h1, h2, h3 _ rfl, h4 1 _ (by omega) (by omega) rfl, h4 2 _ (by omega) (by omega) rfl, h4 3 _ (by omega) (by omega) rfl, h4 4 _ (by omega) (by omega) rfl, h4 5 _ (by omega) (by omega) rfl⟩
def shortB (l : List Ac) : Bool := l.all fun c => decide (c.b.length ≤ 100)
def fewB (l : List Ac) : Bool := decide (l.length ≤ 60) && shortB l
theorem short_snoc (l : List Ac) (k : Nat) (h : k < l.length) (h1 : shortB (l.take k) = true) (h2 : (l[k]).b.length ≤ 100) : shortB (l.take (k + 1)) = true := by
  unfold shortB at *
  rw [List.take_succ_eq_append_getElem h, List.all_append, h1]
  simp [h2]
theorem short_bad (l : List Ac) (k : Nat) (h : k < l.length) (h2 : ¬ (l[k]).b.length ≤ 100) : shortB l = false := by
  unfold shortB
  rw [List.all_eq_false]
  exact ⟨l[k], List.getElem_mem h, by simpa using h2⟩
theorem ret_bool {a b : Bool} (h : a = b) : Ending.returned (.bool a) = .returned (.bool b) := by rw [h]
set_option maxRecDepth 100000 in
set_option maxHeartbeats 2000000 in
theorem few_any (A : Option Addr) (c : Nat) (l : List Ac) (w : World) (hl : AR w w.heap.size A l) (hd : ∀ t ∈ l, t.b.length ≤ 9223372036854775807) (hk : l.length ≤ 9223372036854775807) :
    Calls Try.prog 5 #[.slice A l.length c] w fun e w' => e = .returned (.bool (fewB l)) ∧ Gr w w' := by
  have hl' := Lib.hid hl
  have hd' := Lib.hid hd
  clear hl hd
  by_cases h60 : l.length ≤ 60
  · have h60' : ¬ (60 : Int) < (l.length : Int) := by omega
    have hfe := Lib.hid (show fewB l = shortB l by unfold fewB; rw [decide_eq_true h60]; rfl)
    go_enter Try.func5, Try.ntmps5
    go_wp2
    go_loopw [3] (fun i wr => ∃ k : Nat, k ≤ l.length ∧ i = .int .i64 (k : Int) ∧ Hid (shortB (l.take k) = true) ∧ Gr w wr) (fun i _ => l.length - (intOf i).toNat)
    case atStart => exact ⟨0, by omega, rfl, Lib.hid rfl, Gr.refl w⟩
    case round =>
      obtain ⟨k, hk, rfl, hs, hg⟩ := hrel
      by_cases h : k < l.length
      · obtain ⟨ad, hA, hlt, e0, e1, e2, e3, e4, e5⟩ := (hl'.out.below hg).at_ h
        subst hA
        have hdk := hd'.out l[k] (List.getElem_mem h)
        have i1 : (0 : Int) ≤ (k : Int) := by omega
        have i2 : (k : Int) < (l.length : Int) := by omega
        clear e0 e1 e2 e3 e4
        by_cases hq : (l[k]).b.length ≤ 100
        · have hs' := Lib.hid (short_snoc l k h hs.out hq)
          have hq' : ¬ (100 : Int) < ((l[k]).b.length : Int) := by omega
          generalize l[k] = t at *
          go_wp2
          go_roundw
          case rel => exact ⟨k + 1, by omega, by go_num, hs', hg⟩
          case measure => simp [intOf]; omega
        · have hs' := Lib.hid (short_bad l k h hq)
          have hq' : (100 : Int) < ((l[k]).b.length : Int) := by omega
          generalize l[k] = t at *
          go_wp2
          go_ret
          exact ⟨ret_bool (by rw [hfe.out, hs'.out]), hg⟩
      · obtain rfl : k = l.length := by omega
        rw [List.take_length] at hs
        go_wp2
        go_ret
        exact ⟨ret_bool (by rw [hfe.out, hs.out]), hg⟩
  · have h60' : (60 : Int) < (l.length : Int) := by omega
    have hfe := Lib.hid (show fewB l = false by unfold fewB; rw [decide_eq_false h60]; rfl)
    go_enter Try.func5, Try.ntmps5
    go_wp2
    go_ret
    exact ⟨ret_bool hfe.out.symm, Gr.refl w⟩
theorem few_fits {l : List Ac} (h : fewB l = true) : l.length ≤ 60 ∧ ∀ c ∈ l, c.b.length ≤ 100 := by
  unfold fewB shortB at h
  rw [Bool.and_eq_true, List.all_eq_true] at h
  exact ⟨of_decide_eq_true h.1, fun c hc => of_decide_eq_true (h.2 c hc)⟩
theorem ub_one (w : World) (x : UInt8) (cs : Array Value) (fr : Nat × Nat) (h : cs[0]? = some (bv x)) : UB (w.alloc (.cells cs 5 fr)) (some ⟨w.heap.size, 0, none⟩) [x] := fun _ => by
  refine ⟨w.heap.size, 0, cs, fr, rfl, heap_alloc_new w _, fun j hj => ?_⟩
  obtain rfl : j = 0 := by simpa using hj
  exact h
abbrev wz : Way := ⟨[], 0, 0⟩
abbrev w1 : Way := ⟨[([97], false)], 1, 0⟩
abbrev w2 : Way := ⟨[([97], false), ([98], false)], 2, 0⟩
abbrev w3 : Way := ⟨[([97], false), ([98], false), ([97], false)], 2, 0⟩
abbrev w4 : Way := ⟨[([97], false), ([97], false)], 2, 0⟩
set_option maxRecDepth 100000 in
set_option maxHeartbeats 4000000 in
theorem awake_any (w : World) : Calls Try.prog 6 #[] w fun e w' => e = .returned (.bool true) ∧ Gr w w' := by
  have kc := fun (w : World) (C : Array Value) (n c : Nat) => Lib.run_convert_bytes_const (P := Try.prog) w 44 5 C n c Try.underlying44 Try.underlying5
  go_enter Try.func6, Try.ntmps6
  go_wp2_with fail
  refine (new_any w).mono ?_
  rintro e W1 ⟨rfl, rfl⟩
  have k1 := Lib.hid (lk_new w)
  have g1 := Lib.hid ((Gr.refl w).alloc (.cells lkZ 54))
  have l1 : w.heap.size < (w.alloc (.cells lkZ 54)).heap.size := by simp
  generalize w.alloc (.cells lkZ 54) = W1 at k1 g1 l1 ⊢
  go_wp2_with fail
  have G1 := (Gr.refl W1).alloc (.cells #[.int .u8 97] 5 (1, 2))
  refine (send_k (k := 0) (g := w.heap.size) (a := wz) (b := wz) (by omega) _ (k1.out.gr G1) (by decide) (by decide) (by decide) _ 1 [97] (by decide) (ub_one W1 97 _ (1, 2) (by rfl))).mono ?_
  rintro e W2 ⟨rfl, k2, _, b2⟩
  replace k2 : Lk W2 w.heap.size w1 wz := k2
  have g2 : Gr w W2 := Below.trans (Below.trans g1.out (Below.mono G1 (Nat.le_of_lt l1))) b2
  replace k2 := Lib.hid k2
  have l2 : w.heap.size ≤ W2.heap.size := g2.size
  replace g2 := Lib.hid g2
  clear k1 G1 g1 l1 b2
  go_wp2_with fail
  have G1 := (Gr.refl W2).alloc (.cells #[.int .u8 98] 5 (1, 2))
  refine (send_k (k := 0) (g := w.heap.size) (a := w1) (b := wz) (by omega) _ (k2.out.gr G1) (by decide) (by decide) (by decide) _ 1 [98] (by decide) (ub_one W2 98 _ (1, 2) (by rfl))).mono ?_
  rintro e W3 ⟨rfl, k3, _, b2⟩
  replace k3 : Lk W3 w.heap.size w2 wz := k3
  have g3 : Gr w W3 := Below.trans (Below.trans g2.out (Below.mono G1 l2)) b2
  replace k3 := Lib.hid k3
  replace g3 := Lib.hid g3
  clear k2 G1 g2 l2 b2
  go_wp2_with fail
  refine (double_k (k := 0) (g := w.heap.size) (a := w2) (b := wz) (by omega) _ k3.out 0 (by decide) (by decide) (by decide)).mono ?_
  rintro e W4 ⟨rfl, k4, _, b2⟩
  replace k4 : Lk W4 w.heap.size w3 wz := k4
  have g4 : Gr w W4 := Below.trans g3.out b2
  replace k4 := Lib.hid k4
  replace g4 := Lib.hid g4
  clear k3 g3 b2
  go_wp2_with fail
  refine (deliver_k (k := 0) (g := w.heap.size) (a := w3) (b := wz) (by omega) _ k4.out 1 (by decide) (by decide) (by decide)).mono ?_
  rintro e W5 ⟨v, rfl, o5, k5, _, b2⟩
  replace k5 : Lk W5 w.heap.size w4 wz := k5
  replace o5 : OB 5 W5 W4.heap.size v [98] := o5
  have g5 : Gr w W5 := Below.trans g4.out b2
  obtain ⟨A5, c5, rfl, _, _⟩ := OB.shape o5
  have r5 := Lib.hid o5.rb
  replace k5 := Lib.hid k5
  replace g5 := Lib.hid g5
  clear k4 g4 b2 o5
  go_wp2_with (first
    | (refine wpList_bytes_string rfl (.tmp 26) 44 9 5 rfl Try.underlying44 Crc.byteType.1 Try.underlying9 _ _ _ _ [98] rfl rfl r5.out ?_)
    | fail)
  refine (len_k (k := 0) (by omega) W5 k5.out).mono ?_
  rintro e W6 ⟨rfl, rfl⟩
  go_wp2_with fail
  refine (sent_k (k := 0) (by omega) _ k5.out).mono ?_
  rintro e W7 ⟨rfl, rfl⟩
  go_wp2
  go_ret
  exact ⟨rfl, g5.out⟩
end Ln
end Go.Proofs.Ytpkbdodclkgjpaa

