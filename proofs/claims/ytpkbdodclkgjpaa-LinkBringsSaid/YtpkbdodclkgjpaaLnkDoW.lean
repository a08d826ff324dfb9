/- The walk of the law's do. No condition but sizes. -/
import Derived.Test.YtpkbdodclkgjpaaLnkDo
import Derived.BigQuiet
set_option linter.unusedVariables false
set_option linter.unusedSimpArgs false
namespace Go.Proofs.Ytpkbdodclkgjpaa
open Go Go.RowKit Go.Shelf W
namespace Ln
abbrev acC (c : Ac) : Array Value := #[.int .i64 c.k, .int .i64 c.w, .int .i64 c.i, .int .i64 c.t, .int .u32 (n32 c.m), str c.b]
theorem run_string_bytesU {P : Program} (w : World) (src dst : TypeId) (hs : P.underlying src = some .string) (hd : P.underlying dst = some (.slice 5)) (he : P.underlying 5 = some (.int .u8)) (l : List UInt8) (hl : l.length ≤ maxLen) :
    ∃ c w', (convert src dst (.string ⟨l.toArray⟩)).run P w = .ok (.slice (some ⟨w.heap.size, 0, none⟩) l.length c) w' ∧ UB w' (some ⟨w.heap.size, 0, none⟩) l ∧ l.length ≤ c ∧ c ≤ maxLen ∧ Below w.heap.size w w' := by
  have hrun := run_bytes_of_string (P := P) w src dst 5 ⟨l.toArray⟩ hs hd he
  have hsz : (⟨l.toArray⟩ : ByteArray).size = l.length := by simp [ByteArray.size]
  rw [hsz] at hrun
  have hh : ∀ o, (w.drew.alloc o).heap[w.heap.size]? = some o := fun o => by show (w.heap.push o)[w.heap.size]? = _; simp
  refine ⟨_, _, hrun, fun _ => ⟨w.heap.size, 0, _, _, rfl, hh _, fun j hj => ?_⟩, grownCap_ge _ _ _ _, grownCap_le_maxLen _ _ _ _ hl, (Below.refl _ _).drew.alloc (by simp) _⟩
  simp only [bytesRow]
  rw [Array.getElem?_append_left (by simpa using hj)]
  simp [hj]
  rfl
theorem wpList_string_bytesU {P : Program} {ops : Array Oper} {rest : List Oper} {o : Oper} {a : Act} {w : World} {Q : Exit → Act → World → Prop} (hgd : Region.wanted o (yielded ops a.tmps) = true) (x : Operand) (src dst : TypeId)
    (ho : o.op = .convert src dst x) (hs : P.underlying src = some .string) (hd : P.underlying dst = some (.slice 5)) (he : P.underlying 5 = some (.int .u8))
    (l : List UInt8) (hx : a.eval x = .string ⟨l.toArray⟩) (hl : l.length ≤ maxLen)
    (h : ∀ c w', UB w' (some ⟨w.heap.size, 0, none⟩) l → l.length ≤ c → c ≤ maxLen → Below w.heap.size w w' → wpList P ops Q rest (a.put o.dst (.slice (some ⟨w.heap.size, 0, none⟩) l.length c)) w') : wpList P ops Q (o :: rest) a w :=
  wpList_wanted hgd fun _ hK => by
    obtain ⟨c, w', hrun, h1, h2, h3, h4⟩ := run_string_bytesU w src dst hs hd he l hl
    unfold Oper.wp execOp
    simp only [ho, hx, Sem.run_bind, hrun]
    exact hK _ _ (h c w' h1 h2 h3 h4)
theorem do2 {w : World} {g : Nat} {a b : Way} (h : Lk w g a b) (ha : Okw a) (hb : Okw b) (c : Ac) (hk : c.k = 2) :
    Calls Try.prog 8 #[.pointer (some ⟨g, 0, none⟩), .agg (acC c)] w fun e w' => e = .returned (.tuple #[str (doP a b c).2.2.1, .bool (doP a b c).2.2.2]) ∧ Left w w' g (doP a b c).1 (doP a b c).2.1 := by
  have g1 := (Gr.refl w).alloc (.cells (acC c) 31)
  have con := drop_any (h.gr g1) ha hb c hk
  obtain ⟨P, hP⟩ : ∃ P, doP a b c = P := ⟨_, rfl⟩
  rw [hP] at con ⊢
  replace con := Lib.hid con
  replace g1 := Lib.hid g1
  have k1 : (c.k == 0) = false := by simp; omega
  have k2 : (c.k == 1) = false := by simp; omega
  have k3 : (c.k == 2) = true := by simp; omega
  have hlt : g < w.heap.size := by obtain ⟨cs, _, _, _, _, hb, _⟩ := h; exact hb.lt
  clear h hP hk
  go_enter Try.func8, Try.ntmps8
  go_wp2_with fail
  refine con.out.mono ?_
  rintro e w2 ⟨rfl, q1, q2, q3, q4⟩
  have fin : Left w w2 g P.1 P.2.1 := ⟨q2, (KT.of_gr g1.out).trans q3, Below.trans (Below.mono g1.out (Nat.le_of_lt hlt)) q4⟩
  replace fin := Lib.hid fin
  replace q1 := Lib.hid q1
  clear con q2 q3 q4 g1
  go_wp2
  go_ret2
  exact ⟨by rw [q1.out]; rfl, fin.out⟩
theorem do3 {w : World} {g : Nat} {a b : Way} (h : Lk w g a b) (ha : Okw a) (hb : Okw b) (c : Ac) (hk : c.k = 3) :
    Calls Try.prog 8 #[.pointer (some ⟨g, 0, none⟩), .agg (acC c)] w fun e w' => e = .returned (.tuple #[str (doP a b c).2.2.1, .bool (doP a b c).2.2.2]) ∧ Left w w' g (doP a b c).1 (doP a b c).2.1 := by
  have g1 := (Gr.refl w).alloc (.cells (acC c) 31)
  have con := double_any (h.gr g1) ha hb c hk
  obtain ⟨P, hP⟩ : ∃ P, doP a b c = P := ⟨_, rfl⟩
  rw [hP] at con ⊢
  replace con := Lib.hid con
  replace g1 := Lib.hid g1
  have k1 : (c.k == 0) = false := by simp; omega
  have k2 : (c.k == 1) = false := by simp; omega
  have k3 : (c.k == 2) = false := by simp; omega
  have k4 : (c.k == 3) = true := by simp; omega
  have hlt : g < w.heap.size := by obtain ⟨cs, _, _, _, _, hb, _⟩ := h; exact hb.lt
  clear h hP hk
  go_enter Try.func8, Try.ntmps8
  go_wp2_with fail
  refine con.out.mono ?_
  rintro e w2 ⟨rfl, q1, q2, q3, q4⟩
  have fin : Left w w2 g P.1 P.2.1 := ⟨q2, (KT.of_gr g1.out).trans q3, Below.trans (Below.mono g1.out (Nat.le_of_lt hlt)) q4⟩
  replace fin := Lib.hid fin
  replace q1 := Lib.hid q1
  clear con q2 q3 q4 g1
  go_wp2
  go_ret2
  exact ⟨by rw [q1.out]; rfl, fin.out⟩
theorem do4 {w : World} {g : Nat} {a b : Way} (h : Lk w g a b) (ha : Okw a) (hb : Okw b) (c : Ac) (h0 : c.k ≠ 0) (h1 : c.k ≠ 1) (h2 : c.k ≠ 2) (h3 : c.k ≠ 3) (ht1 : -9223372036854775808 ≤ c.t) (ht2 : c.t ≤ 9223372036854775807) :
    Calls Try.prog 8 #[.pointer (some ⟨g, 0, none⟩), .agg (acC c)] w fun e w' => e = .returned (.tuple #[str (doP a b c).2.2.1, .bool (doP a b c).2.2.2]) ∧ Left w w' g (doP a b c).1 (doP a b c).2.1 := by
  have g1 := (Gr.refl w).alloc (.cells (acC c) 31)
  have con := turn_any (h.gr g1) ha hb c h0 h1 h2 h3 ht1 ht2
  obtain ⟨P, hP⟩ : ∃ P, doP a b c = P := ⟨_, rfl⟩
  rw [hP] at con ⊢
  replace con := Lib.hid con
  replace g1 := Lib.hid g1
  have k1 : (c.k == 0) = false := by simp; omega
  have k2 : (c.k == 1) = false := by simp; omega
  have k3 : (c.k == 2) = false := by simp; omega
  have k4 : (c.k == 3) = false := by simp; omega
  have hlt : g < w.heap.size := by obtain ⟨cs, _, _, _, _, hb, _⟩ := h; exact hb.lt
  clear h hP h0 h1 h2 h3
  go_enter Try.func8, Try.ntmps8
  go_wp2_with fail
  refine con.out.mono ?_
  rintro e w2 ⟨rfl, q1, q2, q3, q4⟩
  have fin : Left w w2 g P.1 P.2.1 := ⟨q2, (KT.of_gr g1.out).trans q3, Below.trans (Below.mono g1.out (Nat.le_of_lt hlt)) q4⟩
  replace fin := Lib.hid fin
  replace q1 := Lib.hid q1
  clear con q2 q3 q4 g1
  go_wp2
  go_ret2
  exact ⟨by rw [q1.out]; rfl, fin.out⟩
theorem do1 {w : World} {g : Nat} {a b : Way} (h : Lk w g a b) (ha : Okw a) (hb : Okw b) (c : Ac) (hk : c.k = 1) :
    Calls Try.prog 8 #[.pointer (some ⟨g, 0, none⟩), .agg (acC c)] w fun e w' => e = .returned (.tuple #[str (doP a b c).2.2.1, .bool (doP a b c).2.2.2]) ∧ Left w w' g (doP a b c).1 (doP a b c).2.1 := by
  have g1 := (Gr.refl w).alloc (.cells (acC c) 31)
  have con := deliver_any (h.gr g1) ha hb c hk
  obtain ⟨P, hP⟩ : ∃ P, doP a b c = P := ⟨_, rfl⟩
  rw [hP] at con ⊢
  replace con := Lib.hid con
  replace g1 := Lib.hid g1
  have k1 : (c.k == 0) = false := by simp; omega
  have k2 : (c.k == 1) = true := by simp; omega
  have hlt : g < w.heap.size := by obtain ⟨cs, _, _, _, _, hb, _⟩ := h; exact hb.lt
  clear h hP hk
  go_enter Try.func8, Try.ntmps8
  go_wp2_with fail
  refine con.out.mono ?_
  rintro e w2 ⟨v, rfl, o2, q2, q3, q4⟩
  have fin : Left w w2 g P.1 P.2.1 := ⟨q2, (KT.of_gr g1.out).trans q3, Below.trans (Below.mono g1.out (Nat.le_of_lt hlt)) q4⟩
  replace fin := Lib.hid fin
  replace o2 := Lib.hid o2
  clear con q2 q3 q4 g1
  obtain ⟨A, c', rfl, _, _⟩ := o2.out.shape
  have r2 := Lib.hid o2.out.rb
  clear o2
  go_wp2_with (first
    | (refine wpList_bytes_string rfl (.tmp 38) 44 9 5 rfl Try.underlying44 Crc.byteType.1 Try.underlying9 _ _ _ _ P.2.2.1 rfl rfl r2.out ?_))
  go_ret2
  exact ⟨rfl, fin.out⟩
theorem Left.drewN {w w' : World} {g : Nat} {a b : Way} (h : Left w w' g a b) (n : Nat) : Left w (w'.drewN n) g a b :=
  ⟨h.1.gr (below_drewN (Below.refl _ _) n), h.2.1.trans (KT.of_gr (below_drewN (Below.refl _ _) n)), below_drewN h.2.2 n⟩
set_option maxRecDepth 100000 in
set_option maxHeartbeats 4000000 in
theorem do0 {w : World} {g : Nat} {a b : Way} (h : Lk w g a b) (ha : Okw a) (hb : Okw b) (c : Ac) (hk : c.k = 0) (hc : c.b.length ≤ 100) :
    Calls Try.prog 8 #[.pointer (some ⟨g, 0, none⟩), .agg (acC c)] w fun e w' => e = .returned (.tuple #[str (doP a b c).2.2.1, .bool (doP a b c).2.2.2]) ∧ Left w w' g (doP a b c).1 (doP a b c).2.1 := by
  have g1 := (Gr.refl w).alloc (.cells (acC c) 31)
  have k1 : (c.k == 0) = true := by simp; omega
  have hlt : g < w.heap.size := by obtain ⟨cs, _, _, _, _, hb, _⟩ := h; exact hb.lt
  have ba := Lib.hid (Blk.new w 31 (acC c))
  replace g1 := Lib.hid g1
  go_enter Try.func8, Try.ntmps8
  go_wp2_with (first
    | (refine wpList_string_bytesU rfl (.tmp 16) 9 44 rfl Try.underlying9 Try.underlying44 Crc.byteType.1 c.b rfl (by unfold maxLen; omega) ?_; intro c7 w4 hub hc7 hm7 g4; rw [World.size_alloc] at hub; have hub' := Lib.hid hub; have g4' := Lib.hid (g1.out.trans g4); have g4a := Lib.hid g4; clear hub g4)
    | fail)
  refine (send_any (h.gr g4'.out) ha hb c hk hc _ c7 hub'.out).mono ?_
  rintro e w5 ⟨rfl, q1, q2, q3, q4⟩
  have fin : Left w w5 g (doP a b c).1 (doP a b c).2.1 := ⟨q2, (KT.of_gr g4'.out).trans q3, Below.trans (Below.mono g4'.out (Nat.le_of_lt hlt)) q4⟩
  have b5 : Blk w5 w.heap.size 31 (acC c) := q3.blk (blk_more ba.out g4a.out) (by decide) (by decide)
  have c1 := b5.cell 1
  obtain ⟨P, hP⟩ : ∃ P, doP a b c = P := ⟨_, rfl⟩
  rw [hP] at q1 fin
  replace fin := Lib.hid fin
  replace q1 := Lib.hid q1
  replace hP := Lib.hid hP
  clear q2 q3 q4 b5 g4' g4a hub' ba g1
  by_cases hw0 : c.w = 0
  · have e0 : (c.w == 0) = true := by simp [hw0]
    have hd := Lib.hid (show decide (c.w = 0 ∨ c.w = 1) = true by simp [hw0])
    clear hw0
    go_wp2
    go_quiet (fail)
    go_wp2
    go_ret2
    rw [hP.out]
    exact ⟨by rw [q1.out, hd.out]; rfl, fin.out.drewN _⟩
  by_cases hw1 : c.w = 1
  · have e0 : (c.w == 0) = false := by simp [hw1]
    have e1 : (c.w == 1) = true := by simp [hw1]
    have hd := Lib.hid (show decide (c.w = 0 ∨ c.w = 1) = true by simp [hw1])
    clear hw0 hw1
    go_wp2
    go_quiet (fail)
    go_wp2
    go_ret2
    rw [hP.out]
    exact ⟨by rw [q1.out, hd.out]; rfl, fin.out.drewN _⟩
  · have e0 : (c.w == 0) = false := by simp [hw0]
    have e1 : (c.w == 1) = false := by simp [hw1]
    have hd := Lib.hid (show decide (c.w = 0 ∨ c.w = 1) = false by simp [hw0, hw1])
    clear hw0 hw1
    go_wp2
    go_quiet (fail)
    go_wp2
    go_ret2
    rw [hP.out]
    exact ⟨by rw [q1.out, hd.out]; rfl, fin.out.drewN _⟩
theorem do_any {w : World} {g : Nat} {a b : Way} (h : Lk w g a b) (ha : Okw a) (hb : Okw b) (c : Ac) (hc : c.b.length ≤ 100) (ht1 : -9223372036854775808 ≤ c.t) (ht2 : c.t ≤ 9223372036854775807) :
    Calls Try.prog 8 #[.pointer (some ⟨g, 0, none⟩), .agg (acC c)] w fun e w' => e = .returned (.tuple #[str (doP a b c).2.2.1, .bool (doP a b c).2.2.2]) ∧ Left w w' g (doP a b c).1 (doP a b c).2.1 := by
  by_cases h0 : c.k = 0
  · exact do0 h ha hb c h0 hc
  by_cases h1 : c.k = 1
  · exact do1 h ha hb c h1
  by_cases h2 : c.k = 2
  · exact do2 h ha hb c h2
  by_cases h3 : c.k = 3
  · exact do3 h ha hb c h3
  exact do4 h ha hb c h0 h1 h2 h3 ht1 ht2
end Ln
end Go.Proofs.Ytpkbdodclkgjpaa

