/- What is on the ways: sent, or turned once from what was; what is kept where blocks of one type change. No condition. -/
import Derived.Test.YtpkbdodclkgjpaaLnkInv
set_option linter.unusedVariables false
set_option linter.unusedSimpArgs false
namespace Go.Proofs.Ytpkbdodclkgjpaa
open Go Go.RowKit Go.Shelf W
namespace Ln
/-- A packet that was sent, or is turned once from what was. -/
def Good (S : List (List UInt8)) (T : List Ac) (q : Pk) : Prop := (q.2 = false → q.1 ∈ S) ∧ (q.2 = true → ∃ s ∈ S, ∃ t ∈ T, q.1 = Crc.turned s t.t t.m)
theorem Good.more {S S' : List (List UInt8)} {T T' : List Ac} {q : Pk} (h : Good S T q) (h1 : ∀ s ∈ S, s ∈ S') (h2 : ∀ t ∈ T, t ∈ T') : Good S' T' q :=
  ⟨fun e => h1 _ (h.1 e), fun e => by obtain ⟨s, hs, t, ht, e⟩ := h.2 e; exact ⟨s, h1 s hs, t, h2 t ht, e⟩⟩
def sent (S : List (List UInt8)) (c : Ac) (k : Int) : List (List UInt8) := if c.k = 0 ∧ c.w = k then S ++ [c.b] else S
def trns (T : List Ac) (c : Ac) : List Ac := if c.k < 0 ∨ 3 < c.k then T ++ [c] else T
theorem sent_more (S : List (List UInt8)) (c : Ac) (k : Int) : ∀ s ∈ S, s ∈ sent S c k := fun s hs => by
  unfold sent
  split
  · exact List.mem_append_left _ hs
  · exact hs
theorem trns_more (T : List Ac) (c : Ac) : ∀ t ∈ T, t ∈ trns T c := fun s hs => by
  unfold trns
  split
  · exact List.mem_append_left _ hs
  · exact hs
theorem put_good {S : List (List UInt8)} {T : List Ac} {y : Way} {p : Pk} {s : Nat} (h : ∀ q ∈ y.l, Good S T q) (hp : Good S T p) : ∀ q ∈ (putW ⟨y.l, s, y.x⟩ p).l, Good S T q := fun q hq => by
  unfold putW at hq
  simp only at hq
  split at hq
  · rcases List.mem_append.1 hq with h' | h'
    · exact h q (List.mem_of_mem_eraseIdx h')
    · obtain rfl := List.mem_singleton.1 h'; exact hp
  · rcases List.mem_append.1 hq with h' | h'
    · exact h q h'
    · obtain rfl := List.mem_singleton.1 h'; exact hp
theorem doY_good {S : List (List UInt8)} {T : List Ac} {y : Way} {c : Ac} {k : Int} (hk : c.w = k) (h : ∀ q ∈ y.l, Good S T q) : ∀ q ∈ (doY y c).1.l, Good (sent S c k) (trns T c) q := by
  have h' : ∀ q ∈ y.l, Good (sent S c k) (trns T c) q := fun q hq => (h q hq).more (sent_more S c k) (trns_more T c)
  unfold doY
  split
  · rename_i h0
    refine put_good h' ⟨fun _ => ?_, fun e => by simp at e⟩
    unfold sent
    rw [if_pos ⟨h0, hk⟩]
    exact List.mem_append_right _ (List.mem_singleton.2 rfl)
  · split
    · rename_i h0 hi
      split
      · exact fun q hq => h' q (List.mem_of_mem_eraseIdx hq)
      · split
        · exact fun q hq => h' q (List.mem_of_mem_eraseIdx hq)
        · split
          · exact put_good (s := y.s) h' (h' _ (List.getElem_mem hi.1))
          · split
            · exact h'
            · rename_i h1 h2 h3 ht
              intro q hq
              rcases List.mem_or_eq_of_mem_set hq with hq | rfl
              · exact h' q hq
              · refine ⟨fun e => by simp at e, fun _ => ⟨_, (h' _ (List.getElem_mem hi.1)).1 (by simpa using ht), c, ?_, rfl⟩⟩
                unfold trns
                rw [if_pos (by omega)]
                exact List.mem_append_right _ (List.mem_singleton.2 rfl)
    · exact h'
theorem doP_good {S0 S1 : List (List UInt8)} {T : List Ac} {a b : Way} (c : Ac) (h0 : ∀ q ∈ a.l, Good S0 T q) (h1 : ∀ q ∈ b.l, Good S1 T q) :
    (∀ q ∈ (doP a b c).1.l, Good (sent S0 c 0) (trns T c) q) ∧ (∀ q ∈ (doP a b c).2.1.l, Good (sent S1 c 1) (trns T c) q) := by
  have h0' : ∀ q ∈ a.l, Good (sent S0 c 0) (trns T c) q := fun q hq => (h0 q hq).more (sent_more _ c _) (trns_more T c)
  have h1' : ∀ q ∈ b.l, Good (sent S1 c 1) (trns T c) q := fun q hq => (h1 q hq).more (sent_more _ c _) (trns_more T c)
  unfold doP
  split
  · rename_i hw; exact ⟨doY_good hw h0, h1'⟩
  · split
    · rename_i hw; exact ⟨h0', doY_good hw h1⟩
    · exact ⟨h0', h1'⟩
/-- What is told of a delivery. -/
theorem told_good {S : List (List UInt8)} {T : List Ac} {y : Way} {c : Ac} (hk : c.k = 1) (h : ∀ q ∈ y.l, Good S T q) (ho : (doY y c).2.2 = true) : (doY y c).2.1 ∈ S ∨ ∃ s ∈ S, ∃ t ∈ T, (doY y c).2.1 = Crc.turned s t.t t.m := by
  unfold doY at ho ⊢
  rw [if_neg (by omega)] at ho ⊢
  by_cases hi : c.i.toNat < y.l.length ∧ 0 ≤ c.i
  · rw [dif_pos hi, if_pos hk]
    have := h _ (List.getElem_mem hi.1)
    cases e : (y.l[c.i.toNat]'hi.1).2 with
    | false => exact .inl (this.1 e)
    | true => exact .inr (this.2 e)
  · rw [dif_neg hi] at ho
    cases ho
/-- Is a text found, of the first K that were sent? -/
def fnd (S : List (List UInt8)) (T : List Ac) (s : List UInt8) : Bool := S.any fun x => x == s || T.any fun t => Crc.turned x t.t t.m == s
theorem fnd_of {S : List (List UInt8)} {T : List Ac} {s : List UInt8} (h : s ∈ S ∨ ∃ x ∈ S, ∃ t ∈ T, s = Crc.turned x t.t t.m) : fnd S T s = true := by
  unfold fnd
  rw [List.any_eq_true]
  rcases h with h | ⟨x, hx, t, ht, e⟩
  · exact ⟨s, h, by simp⟩
  · refine ⟨x, hx, ?_⟩
    rw [Bool.or_eq_true]
    exact .inr (List.any_eq_true.2 ⟨t, ht, by simp [e]⟩)
/-- All blocks but those of one type lie as they lay. -/
structure Off (t : TypeId) (w w' : World) : Prop where
  os : w'.os = w.os
  tape : w'.tape = w.tape
  output : w'.output = w.output
  size : w.heap.size ≤ w'.heap.size
  block : ∀ (k : Nat) (cs : Array Value) (ty : TypeId) (fr : Nat × Nat), w.heap[k]? = some (Obj.cells cs ty fr) → ty ≠ t → w'.heap[k]? = some (Obj.cells cs ty fr)
theorem Off.of_grown {t : TypeId} {w w' : World} {r : Option Nat} (h : w.grownBy w' r) (hr : ∀ n, r = some n → ∃ cs fr, w.heap[n]? = some (Obj.cells cs t fr)) : Off t w w' :=
  ⟨World.grownBy.os h, World.grownBy.tape h, World.grownBy.output h, World.grownBy.size h, fun k cs ty fr hk hne => (World.grownBy.block h k (lt_of_heap hk) (fun e => by
    obtain ⟨ds, fr', hd⟩ := hr k e.symm
    have := hk.symm.trans hd
    injection this with this
    injection this with _ this _
    exact hne this)).trans hk⟩
theorem Off.trans {t : TypeId} {a b c : World} (h : Off t a b) (k : Off t b c) : Off t a c :=
  ⟨k.os.trans h.os, k.tape.trans h.tape, k.output.trans h.output, Nat.le_trans h.size k.size, fun i cs ty fr hi hne => k.block i cs ty fr (h.block i cs ty fr hi hne) hne⟩
theorem Off.of_gr {t : TypeId} {a b : World} (h : Gr a b) : Off t a b := ⟨h.os, h.tape, h.output, h.size, fun k cs ty fr hk _ => (h.block k (lt_of_heap hk)).trans hk⟩
theorem Off.of_kb {t : TypeId} {a b : World} {n : Nat} {cs : Array Value} (h : Kb n a b) (hb : Blk a n t cs) : Off t a b := Off.of_grown h (fun m e => by cases e; exact ⟨_, _, hb⟩)
theorem Off.blk {t u : TypeId} {a b : World} {n : Nat} {cs : Array Value} (h : Off t a b) (hb : Blk a n u cs) (hne : u ≠ t) : Blk b n u cs := h.block n cs u (0, 0) hb hne
theorem Off.or_ {t E : TypeId} {a b : World} {size base n : Nat} {v : Value} {xs : List Value} (h : Off t a b) (ho : OR E size a base v n xs) (hne : E ≠ t) : OR E size b base v n xs := by
  refine ⟨ho.1, ?_⟩
  rcases ho.2 with h' | ⟨g, cap, cur, hv, hg, hh, r⟩
  · exact .inl h'
  · exact .inr ⟨g, cap, cur, hv, hg, h.block g cur E (0, 0) hh hne, r⟩
theorem KT.or_ {E : TypeId} {a b : World} {size base n : Nat} {v : Value} {xs : List Value} (h : KT a b) (ho : OR E size a base v n xs) (h1 : E ≠ 54) (h2 : E ≠ 63) : OR E size b base v n xs := by
  refine ⟨ho.1, ?_⟩
  rcases ho.2 with h' | ⟨g, cap, cur, hv, hg, hh, r⟩
  · exact .inl h'
  · exact .inr ⟨g, cap, cur, hv, hg, h.blk (i := g) (t := E) (cs := cur) hh h1 h2, r⟩
theorem Off.lk {t : TypeId} {w w' : World} {g : Nat} {a b : Way} (k : Off t w w') (h : Lk w g a b) (h1 : 54 ≠ t) (h2 : 63 ≠ t) (h3 : 5 ≠ t) : Lk w' g a b := by
  have ku : KU w w' := ⟨k.size, fun i ds fr hi => k.block i ds _ fr hi h3⟩
  obtain ⟨ls, v0, r0, v1, r1, hl, y0, y1, hd⟩ := h
  exact ⟨ls, v0, r0, v1, r1, k.blk hl h1, ⟨y0.c0, y0.c1, y0.c2, y0.sh, k.or_ y0.os h2, y0.pr.ku ku⟩, ⟨y1.c0, y1.c1, y1.c2, y1.sh, k.or_ y1.os h2, y1.pr.ku ku⟩, hd⟩
def strs (S : List (List UInt8)) : List Value := S.map str
theorem strs_len (S : List (List UInt8)) : (strs S).length = S.length := by simp [strs]
theorem strs_one (S : List (List UInt8)) : ∀ u ∈ strs S, u.oneCell' = true := fun u hu => by
  obtain ⟨s, _, rfl⟩ := List.mem_map.1 hu
  rfl
theorem acs_one (T : List Ac) : ∀ u ∈ acs T, u.oneCell' = true := fun u hu => by
  obtain ⟨t, _, ht⟩ := List.mem_flatMap.1 hu
  simp [acL] at ht
  rcases ht with rfl | rfl | rfl | rfl | rfl | rfl <;> rfl
/-- A slice of texts of one's own. -/
abbrev SO (w : World) (base : Nat) (v : Value) (S : List (List UInt8)) : Prop := OR 9 1 w base v S.length (strs S)
abbrev TO (w : World) (base : Nat) (v : Value) (T : List Ac) : Prop := OR 31 6 w base v T.length (acs T)
structure Br (w : World) (base g gs j : Nat) (a b : Way) (S0 S1 : List (List UInt8)) (T : List Ac) (tv : Value) : Prop where
  lk : Lk w g a b
  oa : Okj j a
  ob : Okj j b
  sn : ∃ v0 v1, Blk w gs 28 #[v0, v1] ∧ SO w base v0 S0 ∧ SO w base v1 S1 ∧ ∀ n, v0.ownBlock = some n → v1.ownBlock ≠ some n
  tn : TO w base tv T
  ln : S0.length ≤ j ∧ S1.length ≤ j ∧ T.length ≤ j
  g0 : ∀ q ∈ a.l, Good S0 T q
  g1 : ∀ q ∈ b.l, Good S1 T q
  s0 : ∀ s ∈ S0, s.length ≤ 100
  s1 : ∀ s ∈ S1, s.length ≤ 100
  tb : ∀ t ∈ T, -9223372036854775808 ≤ t.t ∧ t.t ≤ 9223372036854775807
theorem Br.gr {w w' : World} {base g gs j : Nat} {a b : Way} {S0 S1 : List (List UInt8)} {T : List Ac} {tv : Value} (h : Br w base g gs j a b S0 S1 T tv) (k : Gr w w') : Br w' base g gs j a b S0 S1 T tv := by
  obtain ⟨v0, v1, h1, h2, h3, h4⟩ := h.sn
  exact ⟨h.lk.gr k, h.oa, h.ob, ⟨v0, v1, blk_more h1 k, OR.below h2 k, OR.below h3 k, h4⟩, OR.below h.tn k, h.ln, h.g0, h.g1, h.s0, h.s1, h.tb⟩
end Ln
end Go.Proofs.Ytpkbdodclkgjpaa

