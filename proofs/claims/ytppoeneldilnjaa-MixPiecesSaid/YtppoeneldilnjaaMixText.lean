/- The walks of the texts of strong sums: writing, reading, and their reference. No condition but sizes. -/
import Derived.Test.YtppoeneldilnjaaMixWalk
set_option linter.unusedVariables false
set_option linter.unusedSimpArgs false
namespace Go.Proofs.Ytppoeneldilnjaa
open Go Go.RowKit W
namespace Mix
theorem byteType : ByteType Try.prog 5 := ⟨by kernel_rfl, by kernel_rfl⟩
def digits : List UInt8 := [48, 49, 50, 51, 52, 53, 54, 55, 56, 57, 97, 98, 99, 100, 101, 102]
def L (d e : Nat → UInt8) : Nat → List UInt8
  | 0 => List.replicate 32 0
  | k + 1 => ((L d e k).set k (d k)).set (16 + k) (e k)
theorem L_length (d e : Nat → UInt8) (k : Nat) : (L d e k).length = 32 := by
  induction k with
  | zero => simp [L]
  | succ k ih => simp [L, ih]
/-- The digit of a number below 16. -/
def dg (x : UInt64) : UInt8 := digits.getD (x.toNat % 16) 0
/-- The j-th half byte, the lowest first. -/
def nib (x : UInt64) (j : Nat) : UInt64 := UInt64.ofNat (x.toNat / 2 ^ (4 * j))
def up (x : UInt64) (k : Nat) : UInt8 := dg (nib x (15 - k))
theorem dg_get (x : UInt64) (h : (n64 (x &&& 15)).toNat < (⟨#[48, 49, 50, 51, 52, 53, 54, 55, 56, 57, 97, 98, 99, 100, 101, 102]⟩ : ByteArray).size) :
    (⟨#[48, 49, 50, 51, 52, 53, 54, 55, 56, 57, 97, 98, 99, 100, 101, 102]⟩ : ByteArray)[(n64 (x &&& 15)).toNat]'h = dg x := by
  have e : (n64 (x &&& 15)).toNat = x.toNat % 16 := by
    rw [n64_toNat, UInt64.toNat_and]
    exact Nat.and_two_pow_sub_one_eq_mod x.toNat 4
  unfold dg
  rw [← e]
  generalize (n64 (x &&& 15)).toNat = m at h
  have h' : m < 16 := h
  show (#[48, 49, 50, 51, 52, 53, 54, 55, 56, 57, 97, 98, 99, 100, 101, 102] : Array UInt8)[m] = _
  rw [← Array.getElem_toList]
  show digits[m] = _
  rw [List.getD_eq_getElem?_getD, List.getElem?_eq_getElem (show m < digits.length from h')]
  rfl
theorem and_lt16 (x : UInt64) : n64 (x &&& 15) < 16 := by
  have : (x &&& 15).toNat = x.toNat % 16 := by rw [UInt64.toNat_and]; exact Nat.and_two_pow_sub_one_eq_mod x.toNat 4
  unfold n64
  omega
theorem up_eq (x : UInt64) (k : Nat) (hk : k < 16) : dg (UInt64.ofInt (n64 x / 2 ^ (60 - 4 * k))) = up x k := by
  have e : n64 x / 2 ^ (60 - 4 * k) = ((x.toNat / 2 ^ (60 - 4 * k) : Nat) : Int) := by unfold n64; simp
  rw [e, w_ofNat_u64, show 60 - 4 * k = 4 * (15 - k) by omega]
  rfl
set_option maxHeartbeats 400000 in
theorem text_any (s : St) (w : World) : Calls Try.prog 21 #[sumV s] w fun e' w' => e' = .returned (str (L (up s.1) (up s.2) 16)) ∧ Gr w w' := by
  have hL := and_lt16
  obtain ⟨d, hd⟩ : ∃ d, d = up s.1 := ⟨_, rfl⟩
  obtain ⟨e, he⟩ : ∃ e, e = up s.2 := ⟨_, rfl⟩
  rw [← hd, ← he]
  replace hd := Lib.hid hd
  replace he := Lib.hid he
  go_enter Try.func21, Try.ntmps21
  go_wp2
  go_loopw [4, 5] (fun v i wr => ∃ k : Nat, k ≤ 16 ∧ i = .int .i64 k ∧ Gr w wr ∧ Blk wr w.heap.size 26 #[.int .u64 (n64 s.1), .int .u64 (n64 s.2)] ∧ Blk wr (w.heap.size + 1) 59 (bvs (L d e k)).toArray) (fun v i _ => 16 - (intOf i).toNat)
  case atStart =>
    have h1 := (Blk.new w 26 #[.int .u64 (n64 s.1), .int .u64 (n64 s.2)]).alloc (.cells (bvs (L d e 0)).toArray 59)
    have h2 := Blk.new (w.alloc (.cells #[.int .u64 (n64 s.1), .int .u64 (n64 s.2)] 26)) 59 (bvs (L d e 0)).toArray
    rw [World.size_alloc] at h2
    exact ⟨0, Nat.zero_le _, rfl, ((Gr.refl w).alloc _).alloc _, h1, h2⟩
  case round =>
    obtain ⟨k, hk, rfl, hg, hp, hq⟩ := hrel
    by_cases h : k < 16
    · have c0 : wr.cell? ⟨w.heap.size, 0, none⟩ = some (.int .u64 (n64 s.1)) := hp.cell 0
      have f0 : wr.frozen? ⟨w.heap.size + 1, k, none⟩ = false := hq.frozen k
      have hl : (L d e k).length = 32 := L_length d e k
      have hget : ∀ j (h : j < 32), wr.cell? ⟨w.heap.size + 1, j, none⟩ = some (.int .u8 (n8 ((L d e k)[j]'(by rw [hl]; exact h)))) := fun j h => by
        rw [hq.cell j]; simp [bvs, bv, hl, h]
      have g0 := hget k (by omega)
      have g1 : ∀ v, (wr.setCell ⟨w.heap.size + 1, k, none⟩ v).cell? ⟨w.heap.size + 1, 16 + k, none⟩ = some (.int .u8 (n8 ((L d e k)[16 + k]'(by rw [hl]; omega)))) := fun v => by
        rw [World.cell?_setCell_other _ _ _ _ (by intro h; injection h; omega)]; exact hget _ (by omega)
      have f1 : ∀ v, (wr.setCell ⟨w.heap.size + 1, k, none⟩ v).frozen? ⟨w.heap.size + 1, 16 + k, none⟩ = false := fun v => by rw [World.frozen?_setCell]; exact hq.frozen _
      have c1 : ∀ v, (wr.setCell ⟨w.heap.size + 1, k, none⟩ v).cell? ⟨w.heap.size, 1, none⟩ = some (.int .u64 (n64 s.2)) := fun v => by
        rw [World.cell?_setCell_other _ _ _ _ (by intro h; injection h; omega)]; exact hp.cell 1
      have hd' : ∀ h, (⟨#[48, 49, 50, 51, 52, 53, 54, 55, 56, 57, 97, 98, 99, 100, 101, 102]⟩ : ByteArray)[(n64 (UInt64.ofInt (n64 s.1 / 2 ^ (60 - 4 * k)) &&& 15)).toNat]'h = d k := fun h => by rw [dg_get, up_eq _ _ ‹_›, hd.out]
      have he' : ∀ h, (⟨#[48, 49, 50, 51, 52, 53, 54, 55, 56, 57, 97, 98, 99, 100, 101, 102]⟩ : ByteArray)[(n64 (UInt64.ofInt (n64 s.2 / 2 ^ (60 - 4 * k)) &&& 15)).toNat]'h = e k := fun h => by rw [dg_get, up_eq _ _ ‹_›, he.out]
      have hp2 := (hp.far (p := ⟨w.heap.size + 1, k, none⟩) (by show w.heap.size ≠ w.heap.size + 1; omega) (.int .u8 (n8 (d k)))).far (p := ⟨w.heap.size + 1, 16 + k, none⟩) (by show w.heap.size ≠ w.heap.size + 1; omega) (.int .u8 (n8 (e k)))
      have hq2 := (hq.set_ k (.int .u8 (n8 (d k)))).set_ (16 + k) (.int .u8 (n8 (e k)))
      have eL : ((bvs (L d e k)).toArray.setIfInBounds k (.int .u8 (n8 (d k)))).setIfInBounds (16 + k) (.int .u8 (n8 (e k))) = (bvs (L d e (k + 1))).toArray := by simp [L, bvs, bv, List.map_set]
      rw [eL] at hq2
      have hg2 := Below.setCell (Below.setCell hg (p := ⟨w.heap.size + 1, k, none⟩) (Nat.le_succ _) (.int .u8 (n8 (d k)))) (p := ⟨w.heap.size + 1, 16 + k, none⟩) (Nat.le_succ _) (.int .u8 (n8 (e k)))
      replace hp2 := Lib.hid hp2
      replace hq2 := Lib.hid hq2
      replace hg2 := Lib.hid hg2
      clear hp hq hg hget eL
      go_wp2
      go_roundw
      case rel => exact ⟨k + 1, by omega, by go_num, hg2.out, hp2.out, hq2.out⟩
      case measure => simp [intOf]; omega
    · have hk' : k = 16 := by omega
      subst hk'
      have hr := Lib.hid (RB.of_blk (B := w.heap.size + 2) hq (by omega))
      have hlen : (L d e 16).length = 32 := L_length d e 16
      clear hp hq
      go_wp2_with (refine wpList_bytes_string rfl (.tmp 30) 22 9 5 rfl Try.underlying22 byteType.1 Try.underlying9 _ _ _ _ (L d e 16) rfl hlen.symm hr.out ?_)
      go_ret
      exact ⟨rfl, hg⟩
end Mix
end Go.Proofs.Ytppoeneldilnjaa
