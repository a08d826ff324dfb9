/- The walks of the weak sums of windows: what each function of roll and of its reference returns. No condition but sizes. -/
import Derived.Test.YtcibngbgcnnjnaaChecked
import Derived.Test.YtcibngbgcnnjnaaGrow
import Derived.Test.YtcibngbgcnnjnaaRollSpec
import Derived.WalkKit
import Derived.WalkLawsBesides
import Derived.WalkSpells
import Derived.Deep.QuietTactic
import Derived.BigQuiet
import Derived.Deep.RegionLaw
import Derived.Deep.RegionHeld3
set_option linter.unusedVariables false
set_option linter.unusedSimpArgs false
namespace Go.Proofs.Ytcibngbgcnnjnaa
open Go Go.RowKit W
namespace Roll
theorem byteType : ByteType Try.prog 5 := ⟨by kernel_rfl, by kernel_rfl⟩

theorem whole_any (a b : UInt16) (w : World) : Calls Try.prog 50 #[.int .u16 (n16 a), .int .u16 (n16 b)] w fun e w' => e = .returned (.int .u32 (n32 (whole (a, b)))) ∧ w = w' := by
  go_enter Try.func50, Try.ntmps50
  go_wp2
  go_ret
  exact ⟨rfl, rfl⟩
theorem add_any (c : UInt8) (x y : UInt16) (p q : Nat) (w : World) (hpq : p ≠ q) (hp : Blk w p 90 #[.int .u16 (n16 x)]) (hq : Blk w q 90 #[.int .u16 (n16 y)]) :
    Calls Try.prog 49 #[.int .u8 (n8 c), .pointer (some ⟨p, 0, none⟩), .pointer (some ⟨q, 0, none⟩)] w fun e w' => e = .returned (.tuple #[]) ∧
      w' = (w.setCell ⟨p, 0, none⟩ (.int .u16 (n16 (x + c.toUInt16)))).setCell ⟨q, 0, none⟩ (.int .u16 (n16 (y + (x + c.toUInt16)))) := by
  have c1 : w.cell? ⟨p, 0, none⟩ = some (.int .u16 (n16 x)) := hp.cell 0
  have f1 := hp.frozen 0
  have hq1 := hq.far (p := ⟨p, 0, none⟩) (fun e => hpq e.symm) (.int .u16 (n16 (x + c.toUInt16)))
  have c2 : (w.setCell ⟨p, 0, none⟩ (.int .u16 (n16 (x + c.toUInt16)))).cell? ⟨q, 0, none⟩ = some (.int .u16 (n16 y)) := hq1.cell 0
  have f2 := hq1.frozen 0
  have c3 : (w.setCell ⟨p, 0, none⟩ (.int .u16 (n16 (x + c.toUInt16)))).cell? ⟨p, 0, none⟩ = some (.int .u16 (n16 (x + c.toUInt16))) := (hp.set_ 0 _).cell 0
  clear hp hq hq1
  go_enter Try.func49, Try.ntmps49
  go_wp2
  go_end0
  exact ⟨rfl, rfl⟩

set_option maxRecDepth 100000 in
set_option maxHeartbeats 400000 in
theorem of_any (A : Option Addr) (c B : Nat) (l : List UInt8) (w : World) (hs : l.length ≤ 1099511627776) (hB : B ≤ w.heap.size) (hrd : RB w B A l) :
    Calls Try.prog 29 #[.slice A l.length c] w fun e w' => e = .returned (.int .u32 (n32 (of l))) ∧ Gr w w' := by
  have hrd' := Lib.hid hrd
  clear hrd
  have hmf : ∀ (fn : Fn) (first cap : Array Value) (w : World), (Instr.makeFunc fn first cap).run Try.prog w = .ok (.func fn first cap) w := fun _ _ _ _ => rfl
  go_enter Try.func29, Try.ntmps29
  go_wp2
  go_loopw [11] (fun i wr => ∃ k : Nat, k ≤ l.length ∧ i = .int .i64 k ∧ Gr w wr ∧ Blk wr w.heap.size 90 #[.int .u16 (n16 (run (l.take k)).1)] ∧ Blk wr (w.heap.size + 1) 90 #[.int .u16 (n16 (run (l.take k)).2)]) (fun i _ => l.length - (intOf i).toNat)
  case atStart =>
    have h1 := Blk.new w 90 #[.int .u16 0]
    have h2 := Blk.new (w.alloc (.cells #[.int .u16 0] 90)) 90 #[.int .u16 0]
    rw [World.size_alloc] at h2
    exact ⟨0, Nat.zero_le _, rfl, ((Gr.refl w).alloc _).alloc _, h1.alloc _, h2⟩
  case round =>
    obtain ⟨k, hk, rfl, hg, hp, hq⟩ := hrel
    by_cases h : k < l.length
    · obtain ⟨ad, rfl, _, hc⟩ := (hrd'.out.below (Below.mono hg hB)).at_ h
      have hm := Lib.hid (show run (l.take (k + 1)) = step (run (l.take k)) l[k] by rw [List.take_succ_eq_append_getElem h, run_snoc])
      generalize run (l.take k) = r at *
      have ha := Lib.hid (add_any l[k] r.1 r.2 _ _ wr (by omega) hp hq)
      have hp' := Lib.hid hp
      have hq' := Lib.hid hq
      have hg' := Lib.hid hg
      clear hp hq hg
      go_wp2_with (go_at_call 49; refine ha.out.mono ?_; rintro e w' ⟨rfl, rfl⟩)
      go_roundw
      case rel =>
        have h1 := (hp'.out.set_ 0 (.int .u16 (n16 (r.1 + l[k].toUInt16)))).far (p := ⟨w.heap.size + 1, 0, none⟩) (by show w.heap.size ≠ w.heap.size + 1; omega) (.int .u16 (n16 (r.2 + (r.1 + l[k].toUInt16))))
        have h2 := (hq'.out.far (p := ⟨w.heap.size, 0, none⟩) (by show w.heap.size + 1 ≠ w.heap.size; omega) (.int .u16 (n16 (r.1 + l[k].toUInt16)))).set_ 0 (.int .u16 (n16 (r.2 + (r.1 + l[k].toUInt16))))
        refine ⟨k + 1, by omega, by go_num, ?_, ?_, ?_⟩
        · exact Below.setCell (Below.setCell hg'.out (p := ⟨w.heap.size, 0, none⟩) (Nat.le_refl _) _) (p := ⟨w.heap.size + 1, 0, none⟩) (Nat.le_succ _) _
        · rw [hm.out]; exact h1
        · rw [hm.out]; exact h2
      case measure => simp [intOf]; omega
    · have hk' : k = l.length := by omega
      subst hk'
      rw [List.take_length] at hp hq
      have c1 : wr.cell? ⟨w.heap.size, 0, none⟩ = some (.int .u16 (n16 (run l).1)) := hp.cell 0
      have c2 : wr.cell? ⟨w.heap.size + 1, 0, none⟩ = some (.int .u16 (n16 (run l).2)) := hq.cell 0
      have hw := Lib.hid (whole_any (run l).1 (run l).2 wr)
      have hof := Lib.hid (show of l = whole ((run l).1, (run l).2) from rfl)
      have hg' := Lib.hid hg
      generalize (run l).1 = x at *
      generalize (run l).2 = y at *
      clear hp hq hg
      go_wp2_with (go_at_call 50; refine hw.out.mono ?_; rintro e w' ⟨rfl, rfl⟩)
      go_ret
      exact ⟨by rw [hof.out]; rfl, hg'.out⟩

theorem ofNat_sub (k n : Nat) (h : k ≤ n) (hn : n ≤ 4294967295) : UInt32.ofNat (n - k) = UInt32.ofNat n - UInt32.ofNat k := by
  apply UInt32.toNat_inj.1
  rw [UInt32.toNat_sub]
  simp only [UInt32.toNat_ofNat']
  omega
set_option maxRecDepth 100000 in
set_option maxHeartbeats 400000 in
theorem refOf_any (l : List UInt8) (w : World) (hs : l.length ≤ 4294967295) :
    Calls Try.prog 31 #[str l] w fun e w' => e = .returned (.int .u32 (n32 (of l))) ∧ w = w' := by
  obtain ⟨s, hse⟩ : ∃ s : ByteArray, s = ⟨l.toArray⟩ := ⟨_, rfl⟩
  have hsz : s.size = l.length := by subst hse; simp [ByteArray.size]
  have hget : ∀ k (h : k < s.size) (h' : k < l.length), s[k] = l[k] := by subst hse; exact fun k h h' => rfl
  show Calls _ _ #[.string ⟨l.toArray⟩] _ _
  rw [← hse]
  have hs' : s.size ≤ 4294967295 := by omega
  have hsz' := Lib.hid hsz
  clear hsz hse
  go_enter Try.func31, Try.ntmps31
  go_wp2
  go_loop [3, 4, 5] (fun a b i => ∃ (k : Nat) (x y : UInt32), k ≤ s.size ∧ a = .int .u32 (n32 x) ∧ b = .int .u32 (n32 y) ∧ i = .int .i64 k ∧ Hid (Ref l k (x, y))) (fun _ _ i => s.size - (intOf i).toNat)
  case atStart => exact ⟨0, 0, 0, Nat.zero_le _, rfl, rfl, rfl, Lib.hid (Ref.zero l)⟩
  case round =>
    obtain ⟨k, x, y, hk, rfl, rfl, rfl, hR⟩ := hrel
    by_cases h : k < s.size
    · have hg := Lib.hid (hget k h (by rw [← hsz'.out]; exact h))
      have hstep := Lib.hid (hR.out.step (by rw [← hsz'.out]; exact h) (by omega))
      have hsub : ((s.size - k : Nat) : Int) = (s.size : Int) - k := by omega
      clear hR hget
      go_wp2
      go_round
      case rel =>
        refine ⟨k + 1, _, _, by omega, rfl, rfl, by go_num, ?_⟩
        have e : UInt32.ofNat s.size - UInt32.ofNat k = UInt32.ofNat (l.length - k) := by
          rw [hsz'.out]; exact (ofNat_sub k l.length (by rw [← hsz'.out]; omega) hs).symm
        rw [e, hg.out]
        exact hstep
      case measure => simp [intOf]; omega
    · have hk' : k = s.size := by omega
      have hfin := Lib.hid (Ref.done (s := (x, y)) (by have := hR.out; rw [hk', hsz'.out] at this; exact this))
      clear hR
      go_wp2
      go_ret
      refine ⟨?_, rfl⟩
      have := hfin.out
      rw [← this]
      rfl

end Roll
end Go.Proofs.Ytcibngbgcnnjnaa

