/- Memory in a walk: a slice that reads as a list; byte slices that a call owns; append, and the conversions between bytes and strings, as single steps of a walk. No condition. -/
import Derived.Test.YtpkbdodclkgjpaaWords
import Derived.Maps.AppendAt
import Derived.Deep.AppendLies
import Derived.Deep.Draws
import Derived.RegionTactic
import Derived.OwnWalk
import Derived.Lib.Hide
import Derived.Lib.SlBytesConst
import Derived.ChangeKeysEq
set_option linter.unusedVariables false
set_option linter.unusedSimpArgs false
namespace Go.Proofs.Ytpkbdodclkgjpaa
open Go Go.RowKit W

/-! ### bytes as values -/
def bv (b : UInt8) : Value := .int .u8 (n8 b)
attribute [go_sem] bv
attribute [go_sem] ByteArray.mk_append_mk ByteArray.extract_mk
def bvs (l : List UInt8) : List Value := l.map bv
theorem bvs_length (l : List UInt8) : (bvs l).length = l.length := by simp [bvs]
theorem bvs_append (a b : List UInt8) : bvs (a ++ b) = bvs a ++ bvs b := by simp [bvs]
theorem bvs_nil : bvs [] = [] := rfl
theorem bvs_cons (a : UInt8) (l : List UInt8) : bvs (a :: l) = bv a :: bvs l := rfl
theorem bvs_one (l : List UInt8) : ∀ u ∈ bvs l, u.oneCell' = true := by
  intro u hu
  obtain ⟨b, _, rfl⟩ := List.mem_map.1 hu
  rfl
theorem bvs_get? (l : List UInt8) (k : Nat) : (bvs l)[k]? = l[k]?.map bv := by simp [bvs]
theorem bvs_drop (l : List UInt8) (k : Nat) : (bvs l).drop k = bvs (l.drop k) := by simp [bvs]
theorem bvs_take (l : List UInt8) (k : Nat) : (bvs l).take k = bvs (l.take k) := by simp [bvs]

/-! ### a slice that reads as a list, nil let in -/
theorem block_of_add (a : Addr) (n : Nat) : (a.add n).block = a.block := by unfold Addr.add; split <;> rfl
theorem add_of_add (a : Addr) (i j : Nat) : (a.add i).add j = a.add (i + j) := by
  unfold Addr.add
  by_cases hi : i = 0 <;> by_cases hj : j = 0 <;> simp [hi, hj, Nat.add_assoc]

def Reads (w : World) (B size : Nat) (A : Option Addr) (n : Nat) (xs : List Value) : Prop :=
  xs.length = n * size ∧ (0 < n → ∃ ad, A = some ad ∧ ad.block < B ∧ ∀ j u, xs[j]? = some u → w.cell? (ad.add j) = some u)

section
variable {w w' : World} {B B' size n : Nat} {A : Option Addr} {xs : List Value}
theorem Reads.none_ : Reads w B size A 0 [] := ⟨by simp, fun h => absurd h (by omega)⟩
theorem Reads.at_ {k : Nat} (h : Reads w B 1 A n xs) (hk : k < n) : ∃ ad u, A = some ad ∧ ad.block < B ∧ xs[k]? = some u ∧ w.cell? (ad.add k) = some u := by
  obtain ⟨ad, e, hb, hc⟩ := h.2 (by omega)
  have hl : k < xs.length := by have := h.1; omega
  exact ⟨ad, xs[k], e, hb, List.getElem?_eq_getElem hl, hc k _ (List.getElem?_eq_getElem hl)⟩
theorem Reads.keep (h : Reads w B size A n xs) (hk : ∀ p : Addr, p.block < B → w'.cell? p = w.cell? p) : Reads w' B size A n xs :=
  ⟨h.1, fun hn => by
    obtain ⟨ad, e, hb, hc⟩ := h.2 hn
    exact ⟨ad, e, hb, fun j u hu => (hk _ (by rw [block_of_add]; exact hb)).trans (hc j u hu)⟩⟩
theorem Reads.more (h : Reads w B size A n xs) (hB : B ≤ B') : Reads w B' size A n xs :=
  ⟨h.1, fun hn => by
    obtain ⟨ad, e, hb, hc⟩ := h.2 hn
    exact ⟨ad, e, by omega, hc⟩⟩
theorem Reads.below (h : Reads w B size A n xs) (hb : Below B w w') : Reads w' B size A n xs := h.keep fun _ hp => hb.cell hp
theorem Reads.drew (h : Reads w B size A n xs) : Reads w.drew B size A n xs := h
theorem Reads.drewN (h : Reads w B size A n xs) (k : Nat) : Reads (w.drewN k) B size A n xs := h
theorem Reads.alloc (h : Reads w B size A n xs) (hB : B ≤ w.heap.size) (o : Obj) : Reads (w.alloc o) B size A n xs := h.keep fun p hp => World.cell?_alloc_lt w o p (by omega)
theorem Reads.setCell (h : Reads w B size A n xs) {p : Addr} (hB : B ≤ p.block) (u : Value) : Reads (w.setCell p u) B size A n xs :=
  h.keep fun q hq => World.cell?_setCell_other w p q u (fun e => by subst e; omega)
theorem Reads.cut (h : Reads w B size A n xs) {k cap : Nat} (hk : k ≤ n) (hc : n ≤ cap) :
    Reads w B size (if cap = k then A else A.map (·.add (k * size))) (n - k) (xs.drop (k * size)) := by
  refine ⟨by rw [List.length_drop, h.1, Nat.sub_mul], fun hn => ?_⟩
  obtain ⟨ad, rfl, hb, hcell⟩ := h.2 (by omega)
  rw [if_neg (by omega)]
  refine ⟨ad.add (k * size), rfl, by rw [block_of_add]; exact hb, fun j u hu => ?_⟩
  rw [add_of_add]
  exact hcell _ u (by rw [← hu, List.getElem?_drop])
theorem Reads.take (h : Reads w B size A n xs) {k : Nat} (hk : k ≤ n) : Reads w B size A k (xs.take (k * size)) := by
  refine ⟨by rw [List.length_take, h.1]; exact Nat.min_eq_left (Nat.mul_le_mul_right _ hk), fun hn => ?_⟩
  obtain ⟨ad, rfl, hb, hcell⟩ := h.2 (by omega)
  refine ⟨ad, rfl, hb, fun j u hu => hcell j u ?_⟩
  rw [List.getElem?_take] at hu
  split at hu
  · exact hu
  · cases hu
theorem Reads.of_own {base : Nat} {e : TypeId} {c : Nat} (h : w.ownsRow base e size (.slice A n c) n xs) : Reads w w.heap.size size A n xs := by
  refine ⟨h.1, fun hn => ?_⟩
  obtain ⟨g, cap, hv, _, hlt⟩ := h.form hn
  have hA : A = some ⟨g, 0, none⟩ := by injection hv
  subst hA
  exact ⟨_, rfl, hlt, h.cells (g := g) rfl⟩
end

/-! ### byte slices -/
/-- The slice value '.slice A l.length c' reads as the bytes l, below block B. -/
def RB (w : World) (B : Nat) (A : Option Addr) (l : List UInt8) : Prop := Reads w B 1 A l.length (bvs l)
section
variable {w w' : World} {B B' : Nat} {A : Option Addr} {l : List UInt8}
theorem RB.nil_ : RB w B A [] := Reads.none_
theorem RB.at_ {k : Nat} (h : RB w B A l) (hk : k < l.length) : ∃ ad, A = some ad ∧ ad.block < B ∧ w.cell? (ad.add k) = some (.int .u8 (n8 l[k])) := by
  obtain ⟨ad, u, e, hb, hx, hc⟩ := Reads.at_ h hk
  refine ⟨ad, e, hb, ?_⟩
  rw [hc, ← hx, bvs_get?, List.getElem?_eq_getElem hk]
  rfl
theorem RB.more (h : RB w B A l) (hB : B ≤ B') : RB w B' A l := Reads.more h hB
theorem RB.below (h : RB w B A l) (hb : Below B w w') : RB w' B A l := Reads.below h hb
theorem RB.drew (h : RB w B A l) : RB w.drew B A l := h
theorem RB.drewN (h : RB w B A l) (k : Nat) : RB (w.drewN k) B A l := h
theorem RB.alloc (h : RB w B A l) (hB : B ≤ w.heap.size) (o : Obj) : RB (w.alloc o) B A l := Reads.alloc h hB o
theorem RB.setCell (h : RB w B A l) {p : Addr} (hB : B ≤ p.block) (u : Value) : RB (w.setCell p u) B A l := Reads.setCell h hB u
theorem RB.take (h : RB w B A l) {k : Nat} (hk : k ≤ l.length) : RB w B A (l.take k) := by
  have := Reads.take h hk
  rw [Nat.mul_one, bvs_take] at this
  unfold RB
  rw [List.length_take, Nat.min_eq_left hk]
  exact this
theorem RB.drop (h : RB w B A l) {k cap : Nat} (hk : k ≤ l.length) (hc : l.length ≤ cap) : RB w B (if cap = k then A else A.map (·.add k)) (l.drop k) := by
  have := Reads.cut (cap := cap) h hk hc
  simp only [Nat.mul_one, bvs_drop] at this
  unfold RB
  rw [List.length_drop]
  exact this
end

/-- The call owns the slice value v, whose elements are the bytes l (E: the type byte; base: its first own block). -/
def OB (E : TypeId) (w : World) (base : Nat) (v : Value) (l : List UInt8) : Prop := w.ownsRow base E 1 v l.length (bvs l)
section
variable {E : TypeId} {w w' : World} {base B : Nat} {v : Value} {l : List UInt8} {A : Option Addr} {c : Nat}
theorem OB.nil_ : OB E w base (.slice none 0 0) [] := World.ownsRow_nil _ _ _ _
theorem OB.rb (h : OB E w base (.slice A l.length c) l) : RB w w.heap.size A l := Reads.of_own h
theorem OB.shape (h : OB E w base v l) : ∃ A c, v = .slice A l.length c ∧ l.length ≤ c ∧ c ≤ maxLen := by
  rcases h.2 with ⟨rfl, hn⟩ | ⟨g, cap, cur, rfl, _, _, h1, h2, _⟩
  · exact ⟨none, 0, by rw [hn], by omega, by unfold maxLen; omega⟩
  · exact ⟨_, _, rfl, h1, h2⟩
theorem OB.block {g o n : Nat} {s : Option Nat} (h : OB E w base (.slice (some ⟨g, o, s⟩) n c) l) : base ≤ g ∧ g < w.heap.size ∧ o = 0 ∧ s = none := by
  have := World.ownsRow.lt h g rfl
  rcases h.2 with ⟨hv, _⟩ | ⟨g', cap, cur, hv, _⟩
  · cases hv
  · injection hv with h1
    injection h1 with h1
    injection h1 with h1 h2 h3
    exact ⟨this.1, this.2, h2, h3⟩
theorem OB.form {n : Nat} (h : OB E w base (.slice A n c) l) (hl : 0 < l.length) : ∃ g, A = some ⟨g, 0, none⟩ ∧ base ≤ g ∧ g < w.heap.size := by
  have hlt := World.ownsRow.lt h
  rcases h.2 with ⟨hv, hn⟩ | ⟨g, cap, cur, hv, hg, _⟩
  · omega
  · injection hv with h1
    subst h1
    exact ⟨g, rfl, hg, (hlt g rfl).2⟩
theorem OB.cell {g n : Nat} (h : OB E w base (.slice (some ⟨g, 0, none⟩) n c) l) (j : Nat) (hj : j < l.length) : w.cell? ⟨g, j, none⟩ = some (.int .u8 (n8 l[j])) := by
  have hn : n = l.length := by
    rcases h.2 with ⟨hv, _⟩ | ⟨g', cap, cur, hv, _⟩
    · cases hv
    · injection hv
  subst hn
  have := World.ownsRow.cellAt h j (by omega)
  rw [this, bvs_get?, List.getElem?_eq_getElem hj]
  rfl
theorem OB.frozen {g n : Nat} (h : OB E w base (.slice (some ⟨g, 0, none⟩) n c) l) (j : Nat) : w.frozen? ⟨g, j, none⟩ = false := by
  have hn : n = l.length := by
    rcases h.2 with ⟨hv, _⟩ | ⟨g', cap, cur, hv, _⟩
    · cases hv
    · injection hv
  subst hn
  exact World.ownsRow.frozenAt h j
theorem OB.stored {g n : Nat} (h : OB E w base (.slice (some ⟨g, 0, none⟩) n c) l) (j : Nat) (b : UInt8) : OB E (w.setCell ⟨g, j, none⟩ (.int .u8 (n8 b))) base (.slice (some ⟨g, 0, none⟩) n c) (l.set j b) := by
  have hn : n = l.length := by
    rcases h.2 with ⟨hv, _⟩ | ⟨g', cap, cur, hv, _⟩
    · cases hv
    · injection hv
  subst hn
  have := (World.ownsRow.stored h j (.int .u8 (n8 b))).1
  unfold OB
  rw [List.length_set]
  have e : bvs (l.set j b) = (bvs l).set j (.int .u8 (n8 b)) := by simp [bvs, List.map_set, bv]
  rw [e]
  exact this
theorem OB.setFar {n : Nat} (h : OB E w base (.slice A n c) l) {p : Addr} (hp : ∀ ad, A = some ad → ad.block ≠ p.block) (u : Value) : OB E (w.setCell p u) base (.slice A n c) l := by
  refine ⟨h.1, ?_⟩
  rcases h.2 with h | ⟨g, cap, cur, hv, hg, hh, r⟩
  · exact .inl h
  · refine .inr ⟨g, cap, cur, hv, hg, ?_, r⟩
    injection hv with h1
    rw [Below.heap_setCell _ _ _ _ (hp _ h1)]
    exact hh
theorem OB.base_le (h : OB E w B v l) (hb : base ≤ B) : OB E w base v l := by
  refine ⟨h.1, ?_⟩
  rcases h.2 with h | ⟨g, cap, cur, hv, hg, r⟩
  · exact .inl h
  · exact .inr ⟨g, cap, cur, hv, by omega, r⟩
theorem OB.drew (h : OB E w base v l) : OB E w.drew base v l := h
theorem OB.drewN (h : OB E w base v l) (k : Nat) : OB E (w.drewN k) base v l := h
theorem OB.alloc (h : OB E w base v l) (o : Obj) : OB E (w.alloc o) base v l := World.ownsRow.alloc h o
theorem OB.below (h : OB E w base v l) (hb : Below w.heap.size w w') : OB E w' base v l := by
  refine ⟨h.1, ?_⟩
  rcases h.2 with h | ⟨g, cap, cur, hv, hg, hh, r⟩
  · exact .inl h
  · have hlt : g < w.heap.size := by
      rcases Nat.lt_or_ge g w.heap.size with hlt | hge
      · exact hlt
      · rw [Array.getElem?_eq_none hge] at hh; cases hh
    exact .inr ⟨g, cap, cur, hv, hg, (hb.block g hlt).trans hh, r⟩
theorem OB.keep (h : OB E w base v l) (hlt : ∀ g, v.ownBlock = some g → g < B) (hb : Below B w w') : OB E w' base v l := by
  refine ⟨h.1, ?_⟩
  rcases h.2 with h | ⟨g, cap, cur, hv, hg, hh, r⟩
  · exact .inl h
  · exact .inr ⟨g, cap, cur, hv, hg, (hb.block g (hlt g (by rw [hv]; rfl))).trans hh, r⟩
theorem OB.lit (w : World) (l : List UInt8) (hb : base ≤ w.heap.size) (hm : l.length ≤ maxLen) :
    OB E (w.alloc (.cells (bvs l).toArray E)) base (.slice (some ⟨w.heap.size, 0, none⟩) l.length l.length) l := by
  have := World.ownsRow_lit (e := E) (size := 1) w (bvs l).toArray l.length hb hm (by simp [bvs_length])
  unfold OB
  simpa using this
theorem OB.made (w : World) (hb : base ≤ w.heap.size) : OB E (w.alloc (.cells #[] E)) base (.slice (some ⟨w.heap.size, 0, none⟩) 0 0) [] := OB.lit w [] hb (by unfold maxLen; simp)
end

/-! ### a block that is known whole -/
def Blk (w : World) (g : Nat) (t : TypeId) (cs : Array Value) : Prop := w.heap[g]? = some (.cells cs t (0, 0))
section
variable {w w' : World} {g : Nat} {t : TypeId} {cs : Array Value}
theorem Blk.lt (h : Blk w g t cs) : g < w.heap.size := by
  rcases Nat.lt_or_ge g w.heap.size with hlt | hge
  · exact hlt
  · unfold Blk at h; rw [Array.getElem?_eq_none hge] at h; cases h
theorem Blk.cell (h : Blk w g t cs) (i : Nat) : w.cell? ⟨g, i, none⟩ = cs[i]? := cell_of_row w g i cs t (0, 0) h
theorem Blk.frozen (h : Blk w g t cs) (i : Nat) : w.frozen? ⟨g, i, none⟩ = false := by
  unfold Blk at h
  simp [World.frozen?, h]
theorem Blk.new (w : World) (t : TypeId) (cs : Array Value) : Blk (w.alloc (.cells cs t)) w.heap.size t cs := heap_alloc_new w _
theorem Blk.drew (h : Blk w g t cs) : Blk w.drew g t cs := h
theorem Blk.drewN (h : Blk w g t cs) (n : Nat) : Blk (w.drewN n) g t cs := h
theorem Blk.alloc (h : Blk w g t cs) (o : Obj) : Blk (w.alloc o) g t cs := (Below.heap_alloc w o g h.lt).trans h
theorem Blk.set_ (h : Blk w g t cs) (i : Nat) (u : Value) : Blk (w.setCell ⟨g, i, none⟩ u) g t (cs.setIfInBounds i u) := by
  unfold Blk at h ⊢
  simp [World.setCell, Array.getElem?_modify, h]
theorem Blk.far (h : Blk w g t cs) {p : Addr} (hp : g ≠ p.block) (u : Value) : Blk (w.setCell p u) g t cs := (Below.heap_setCell w p u g hp).trans h
theorem Blk.below {B : Nat} (h : Blk w g t cs) (hb : Below B w w') (hg : g < B) : Blk w' g t cs := (hb.block g hg).trans h
theorem Blk.grown {row : Option Nat} (h : Blk w g t cs) (hb : w.grownBy w' row) (hg : some g ≠ row) : Blk w' g t cs := (hb.block g h.lt hg).trans h
end

theorem RB.of_blk {w : World} {g B : Nat} {t : TypeId} {l : List UInt8} (h : Blk w g t (bvs l).toArray) (hg : g < B) : RB w B (some ⟨g, 0, none⟩) l := by
  refine ⟨by simp [bvs_length], fun _ => ⟨_, rfl, hg, fun j u hu => ?_⟩⟩
  have ha : (⟨g, 0, none⟩ : Addr).add j = ⟨g, j, none⟩ := by unfold Addr.add; split <;> simp_all
  rw [ha, h.cell]
  simpa using hu

/-- A new block whose cells are the bytes l, whatever mark it bears. -/
theorem RB.of_new (w : World) (t : TypeId) (l : List UInt8) (fr : Nat × Nat) : RB (w.alloc (.cells (bvs l).toArray t fr)) (w.heap.size + 1) (some ⟨w.heap.size, 0, none⟩) l := by
  refine ⟨by simp [bvs_length], fun _ => ⟨_, rfl, by simp, fun j u hu => ?_⟩⟩
  have ha : (⟨w.heap.size, 0, none⟩ : Addr).add j = ⟨w.heap.size, j, none⟩ := by unfold Addr.add; split <;> simp_all
  have hh : (w.alloc (.cells (bvs l).toArray t fr)).heap[w.heap.size]? = some (.cells (bvs l).toArray t fr) := by show (w.heap.push _)[w.heap.size]? = _; simp
  rw [ha]
  simp only [World.cell?, hh]
  simpa using hu

/-! ### draws beneath 'Below' -/
theorem below_drewN {B : Nat} {a w : World} (h : Below B a w) (n : Nat) : Below B a (w.drewN n) := ⟨h.os, h.tape, h.output, h.size, h.block⟩
theorem below_of_grown {base : Nat} {w w' : World} {v : Value} (hg : w.grownBy w' v.ownBlock) (hb : base ≤ w.heap.size) (hv : ∀ g, v.ownBlock = some g → base ≤ g) : Below base w w' :=
  (Below.refl _ _).grown hg hb hv

/-! ### a byte slice as a string -/
theorem foldl_push_u8 (l : List UInt8) : ∀ r : ByteArray, (l.map fun b => n8 b).foldl (fun r n => r.push (UInt8.ofNat n.toNat)) r = ⟨r.data ++ l.toArray⟩ := by
  induction l with
  | nil => intro r; simp
  | cons b l ih =>
    intro r
    rw [List.map_cons, List.foldl_cons, ih]
    have e : UInt8.ofNat (n8 b).toNat = b := by rw [n8_toNat]; simp
    rw [e]
    simp [ByteArray.push]
theorem run_bytes_string {P : Program} (w : World) (src dst E : TypeId) (hs : P.underlying src = some (.slice E)) (he : P.underlying E = some (.int .u8)) (hd : P.underlying dst = some .string)
    (B : Nat) (A : Option Addr) (c n : Nat) (l : List UInt8) (hn : n = l.length) (hr : RB w B A l) : (convert src dst (.slice A n c)).run P w = .ok (.string ⟨l.toArray⟩) w := by
  subst hn
  rw [run_convert_bytes_string w src dst E _ l.length c hs he hd]
  rcases A with _ | ad
  · have hl : l = [] := by
      rcases Nat.eq_zero_or_pos l.length with h0 | h0
      · exact List.eq_nil_of_length_eq_zero h0
      · obtain ⟨ad, h, _⟩ := hr.2 h0; cases h
    subst hl
    simp [Conv.bytesToString]
    rfl
  · have hl : (loadCells ad l.length).run P w = .ok ((l.map fun b => n8 b).map (Value.int .u8)).toArray w := by
      have h := run_loadCells_list (P := P) w ad (bvs l) (fun j u hu => by
        have hj : j < l.length := by
          have := (List.getElem?_eq_some_iff.1 hu).1
          rwa [bvs_length] at this
        obtain ⟨ad', h, _, hc⟩ := hr.2 (by omega)
        injection h with h
        subst h
        exact hc j u hu)
      rw [bvs_length] at h
      rw [h]
      simp [bvs, bv, Function.comp_def]
    rw [run_bytesToString w _ l.length c _ hl, foldl_push_u8]
    simp only [ByteArray.empty, ByteArray.emptyWithCapacity]
    have e : (#[] : Array UInt8) ++ l.toArray = l.toArray := by simp
    exact congrArg (fun x => Result.ok (Value.string ⟨x⟩) w) e
theorem wpList_wanted {P : Program} {ops : Array Oper} {rest : List Oper} {o : Oper} {a : Act} {w : World} {Q : Exit → Act → World → Prop} (hw : Region.wanted o (yielded ops a.tmps) = true)
    (h : ∀ K : Act → World → Prop, (∀ a w, wpList P ops Q rest a w → K a w) → o.wp P a w K Q) : wpList P ops Q (o :: rest) a w := by
  unfold wpList
  rw [if_pos hw]
  exact .inl (h _ (fun _ _ h => h))
theorem wpList_bytes_string {P : Program} {ops : Array Oper} {rest : List Oper} {o : Oper} {a : Act} {w : World} {Q : Exit → Act → World → Prop} (hgd : Region.wanted o (yielded ops a.tmps) = true) (x : Operand) (src dst E : TypeId)
    (ho : o.op = .convert src dst x) (hs : P.underlying src = some (.slice E)) (he : P.underlying E = some (.int .u8)) (hd : P.underlying dst = some .string)
    (B : Nat) (A : Option Addr) (c n : Nat) (l : List UInt8) (hx : a.eval x = .slice A n c) (hn : n = l.length) (hr : RB w B A l)
    (h : wpList P ops Q rest (a.put o.dst (.string ⟨l.toArray⟩)) w) : wpList P ops Q (o :: rest) a w :=
  wpList_wanted hgd fun _ hK => by
    have hrun := run_bytes_string w src dst E hs he hd B A c n l hn hr
    unfold Oper.wp execOp
    simp only [ho, hx, Sem.run_bind, hrun]
    exact hK _ _ h

/-! ### a string as a byte slice of the call's own -/
/-- Block g, from base on, begins with the bytes l, and these may be written. -/
def WB (w : World) (base g : Nat) (l : List UInt8) : Prop := base ≤ g ∧ g < w.heap.size ∧ ∀ j (h : j < l.length), w.cell? ⟨g, j, none⟩ = some (.int .u8 (n8 l[j])) ∧ w.frozen? ⟨g, j, none⟩ = false
section
variable {w w' : World} {base B g : Nat} {l : List UInt8}
theorem WB.drew (h : WB w base g l) : WB w.drew base g l := h
theorem WB.alloc (h : WB w base g l) (o : Obj) : WB (w.alloc o) base g l :=
  ⟨h.1, by have := h.2.1; simp; omega, fun j hj => ⟨(World.cell?_alloc_lt w o _ h.2.1).trans (h.2.2 j hj).1, (World.frozen?_alloc_old w o _ (Nat.ne_of_lt h.2.1)).trans (h.2.2 j hj).2⟩⟩
theorem WB.below (h : WB w base g l) (hb : Below B w w') (hg : g < B) : WB w' base g l :=
  ⟨h.1, Nat.lt_of_lt_of_le h.2.1 hb.size, fun j hj => ⟨(hb.cell (p := ⟨g, j, none⟩) hg).trans (h.2.2 j hj).1, (hb.frozen (p := ⟨g, j, none⟩) hg).trans (h.2.2 j hj).2⟩⟩
theorem WB.stored (h : WB w base g l) (j : Nat) (hj : j < l.length) (b : UInt8) : WB (w.setCell ⟨g, j, none⟩ (.int .u8 (n8 b))) base g (l.set j b) := by
  refine ⟨h.1, by simpa using h.2.1, fun i hi => ⟨?_, ?_⟩⟩
  · rw [List.length_set] at hi
    rw [List.getElem_set]
    by_cases e : j = i
    · subst e
      rw [if_pos rfl]
      exact World.cell?_setCell_same w _ _ (h.2.2 j hj).1
    · rw [if_neg e, World.cell?_setCell_other w _ _ _ (by intro he; injection he; omega)]
      exact (h.2.2 i hi).1
  · rw [List.length_set] at hi
    rw [World.frozen?_setCell]
    exact (h.2.2 i hi).2
theorem WB.rb (h : WB w base g l) : RB w w.heap.size (some ⟨g, 0, none⟩) l := by
  refine ⟨by simp [bvs_length], fun _ => ⟨_, rfl, h.2.1, fun j u hu => ?_⟩⟩
  have hj : j < l.length := by
    have := (List.getElem?_eq_some_iff.1 hu).1
    rwa [bvs_length] at this
  have ha : (⟨g, 0, none⟩ : Addr).add j = ⟨g, j, none⟩ := by unfold Addr.add; split <;> simp_all
  rw [ha, (h.2.2 j hj).1, ← hu, bvs_get?, List.getElem?_eq_getElem hj]
  rfl
end
theorem run_string_bytes {P : Program} (w : World) (src dst E : TypeId) (hs : P.underlying src = some .string) (hd : P.underlying dst = some (.slice E)) (he : P.underlying E = some (.int .u8)) (l : List UInt8) (hl : l.length ≤ maxLen) :
    ∃ c w', (convert src dst (.string ⟨l.toArray⟩)).run P w = .ok (.slice (some ⟨w.heap.size, 0, none⟩) l.length c) w' ∧ WB w' w.heap.size w.heap.size l ∧ l.length ≤ c ∧ c ≤ maxLen ∧ Below w.heap.size w w' := by
  have hrun := run_bytes_of_string (P := P) w src dst E ⟨l.toArray⟩ hs hd he
  have hsz : (⟨l.toArray⟩ : ByteArray).size = l.length := by simp [ByteArray.size]
  rw [hsz] at hrun
  have hh : ∀ o, (w.drew.alloc o).heap[w.heap.size]? = some o := fun o => by show (w.heap.push o)[w.heap.size]? = _; simp
  refine ⟨_, _, hrun, ⟨Nat.le_refl _, by simp, fun j hj => ⟨?_, ?_⟩⟩, grownCap_ge _ _ _ _, grownCap_le_maxLen _ _ _ _ hl, (Below.refl _ _).drew.alloc (by simp) _⟩
  · simp only [World.cell?, hh, bytesRow]
    rw [Array.getElem?_append_left (by simpa using hj)]
    simp [hj]
    rfl
  · simp only [World.frozen?, hh]
    simp [bytesRow]
    omega
theorem wpList_string_bytes {P : Program} {ops : Array Oper} {rest : List Oper} {o : Oper} {a : Act} {w : World} {Q : Exit → Act → World → Prop} (hgd : Region.wanted o (yielded ops a.tmps) = true) (x : Operand) (src dst E : TypeId)
    (ho : o.op = .convert src dst x) (hs : P.underlying src = some .string) (hd : P.underlying dst = some (.slice E)) (he : P.underlying E = some (.int .u8))
    (l : List UInt8) (hx : a.eval x = .string ⟨l.toArray⟩) (hl : l.length ≤ maxLen)
    (h : ∀ c w', WB w' w.heap.size w.heap.size l → l.length ≤ c → c ≤ maxLen → Below w.heap.size w w' → wpList P ops Q rest (a.put o.dst (.slice (some ⟨w.heap.size, 0, none⟩) l.length c)) w') : wpList P ops Q (o :: rest) a w :=
  wpList_wanted hgd fun _ hK => by
    obtain ⟨c, w', hrun, h1, h2, h3, h4⟩ := run_string_bytes w src dst E hs hd he l hl
    unfold Oper.wp execOp
    simp only [ho, hx, Sem.run_bind, hrun]
    exact hK _ _ (h c w' h1 h2 h3 h4)

/-! ### append onto a byte slice of the call's own -/
/-- What the program's table says of the type byte. -/
def ByteType (P : Program) (E : TypeId) : Prop := P.underlying E = some (.int .u8) ∧ (P.info? E).map (fun i => (i.zero, i.size, i.bytes)) = some (some (.int .u8 0), 1, 1)
section
variable {P : Program} (w : World)
theorem run_append_nil_own (base : Nat) (t ty e : TypeId) (i : TypeInfo) (size : Nat) (ht : P.underlying t = some (.slice e)) (hi : P.info? e = some i)
    (v : Value) (n : Nat) (xs : List Value) (hown : w.ownsRow base e size v n xs) (c : Nat) : (Builtin.append_ #[t, t] ty #[v, .slice none 0 c]).run P w = .ok v w := by
  rcases hown.2 with ⟨rfl, rfl⟩ | ⟨g, cap, cur, rfl, _, _, hnc, _⟩
  · simp [Builtin.append_, run_underlying ht, sizeOf, typeInfo, hi, Builtin.lenOf, Builtin.firstCells]
  · simp [Builtin.append_, run_underlying ht, sizeOf, typeInfo, hi, Builtin.lenOf, Builtin.firstCells, hnc, storeCells]

theorem run_append_any (base : Nat) (t ty e : TypeId) (i : TypeInfo) (z : Value) (size bytes : Nat) (ht : P.underlying t = some (.slice e)) (hi : P.info? e = some i) (hz : i.zero = some z)
    (hsize : i.size = size) (hby : i.bytes = bytes) (hzs : z.cells.size = size) (hsz : 0 < size)
    (v : Value) (n : Nat) (xs : List Value) (hown : w.ownsRow base e size v n xs)
    (B : Nat) (A : Option Addr) (m c : Nat) (news : List Value) (hr : Reads w B size A m news) (h1 : ∀ u ∈ news, u.oneCell' = true)
    (h63 : n + m ≤ maxLen) (hbytes : (n + m) * bytes ≤ 140737488355328) (hbase : base ≤ w.heap.size) :
    ∃ v' w', (Builtin.append_ #[t, t] ty #[v, .slice A m c]).run P w = .ok v' w' ∧ w'.ownsRow base e size v' (n + m) (xs ++ news) ∧ w.grownBy w' v.ownBlock ∧
      (v'.ownBlock = v.ownBlock ∨ v'.ownBlock = some w.heap.size) := by
  rcases A with _ | ad
  · have hm : m = 0 := by
      rcases Nat.eq_zero_or_pos m with h0 | h0
      · exact h0
      · obtain ⟨ad, h, _⟩ := hr.2 h0
        cases h
    subst hm
    have hn : news = [] := List.eq_nil_of_length_eq_zero (by simpa using hr.1)
    subst hn
    exact ⟨v, w, run_append_nil_own w base t ty e i size ht hi v n xs hown c, by simpa using hown, World.grownBy.refl w _, .inl rfl⟩
  · have hcells : ∀ j u, news[j]? = some u → w.cell? (ad.add j) = some u := by
      intro j u hu
      rcases Nat.eq_zero_or_pos m with h0 | h0
      · subst h0
        have hn : news = [] := List.eq_nil_of_length_eq_zero (by simpa using hr.1)
        subst hn
        simp at hu
      · obtain ⟨ad', h, _, hc⟩ := hr.2 h0
        injection h with h
        subst h
        exact hc j u hu
    obtain ⟨v', w', hrun, h2, h3, _, h5⟩ := run_append_own_at (P := P) w base t ty e i z size bytes ht hi hz hsize hby hzs hsz v n xs hown ad m c news hr.1 hcells h1 h63 hbytes hbase
    exact ⟨v', w', hrun, h2, h3, h5⟩

theorem run_append_bytes (base : Nat) (T ty E : TypeId) (ht : P.underlying T = some (.slice E)) (hE : ByteType P E) (v : Value) (l₁ : List UInt8) (hown : OB E w base v l₁)
    (B : Nat) (A : Option Addr) (c n : Nat) (l₂ : List UInt8) (hn : n = l₂.length) (hr : RB w B A l₂) (hlen : l₁.length + l₂.length ≤ 140737488355328) (hbase : base ≤ w.heap.size) :
    ∃ A' c' w', (Builtin.append_ #[T, T] ty #[v, .slice A n c]).run P w = .ok (.slice A' (l₁ ++ l₂).length c') w' ∧ OB E w' base (.slice A' (l₁ ++ l₂).length c') (l₁ ++ l₂) ∧ Below base w w' ∧ w.grownBy w' v.ownBlock ∧
      ((Value.slice A' (l₁ ++ l₂).length c').ownBlock = v.ownBlock ∨ (Value.slice A' (l₁ ++ l₂).length c').ownBlock = some w.heap.size) := by
  subst hn
  obtain ⟨i0, hi0, hz0, hz1, hz2⟩ := info_parts hE.2
  obtain ⟨v', w', hrun, h2, h3, h4⟩ := run_append_any (P := P) w base T ty E i0 _ 1 1 ht hi0 hz0 hz1 hz2 rfl (by omega) v l₁.length (bvs l₁) hown B A l₂.length c (bvs l₂) hr (bvs_one _) (by unfold maxLen; omega) (by omega) hbase
  have h2' : OB E w' base v' (l₁ ++ l₂) := by
    unfold OB
    rw [bvs_append, List.length_append]
    exact h2
  obtain ⟨A', c', rfl, _, _⟩ := h2'.shape
  exact ⟨A', c', w', hrun, h2', below_of_grown h3 hbase (fun g hg => (World.ownsRow.lt hown g hg).1), h3, h4⟩

theorem wpList_append_bytes {ops : Array Oper} {rest : List Oper} {o : Oper} {a : Act} {Q : Exit → Act → World → Prop} (hgd : Region.wanted o (yielded ops a.tmps) = true) (s x : Operand) (T : TypeId)
    (ho : o.op = .call { callee := .builtin .append, args := #[s, x], argTypes := #[T, T] })
    (base : Nat) (E : TypeId) (ht : P.underlying T = some (.slice E)) (hE : ByteType P E) (v : Value) (l₁ : List UInt8) (hs : a.eval s = v) (hown : OB E w base v l₁)
    (B : Nat) (A : Option Addr) (c n : Nat) (l₂ : List UInt8) (hx : a.eval x = .slice A n c) (hn : n = l₂.length) (hr : RB w B A l₂) (hlen : l₁.length + l₂.length ≤ 140737488355328) (hbase : base ≤ w.heap.size)
    (L : List UInt8) (hL : L = l₁ ++ l₂) (m : Nat) (hm : m = L.length) (h : ∀ A' c' w', OB E w' base (.slice A' m c') L → Below base w w' → wpList P ops Q rest (a.put o.dst (.slice A' m c')) w') : wpList P ops Q (o :: rest) a w :=
  wpList_wanted hgd fun _ hK => by
    subst hL
    subst hm
    obtain ⟨A', c', w', hrun, h2, h3, _, _⟩ := run_append_bytes (P := P) w base T o.type E ht hE v l₁ hown B A c n l₂ hn hr hlen hbase
    unfold Oper.wp execOp
    simp only [ho, resolve, invoke, builtin, Sem.run_bind, Sem.run_pure, Result.andThen_ok, List.map_toArray, List.map_cons, List.map_nil, hs, hx, hrun]
    exact hK _ _ (h A' c' w' h2 h3)

theorem step_append_bytes {ops : Array Oper} {o : Oper} {a : Act} {K : Act → World → Prop} {Q : Exit → Act → World → Prop} {E' : Prop} (hgd : o.guard = none) (s x : Operand) (T : TypeId)
    (ho : o.op = .call { callee := .builtin .append, args := #[s, x], argTypes := #[T, T] })
    (base : Nat) (E : TypeId) (ht : P.underlying T = some (.slice E)) (hE : ByteType P E) (v : Value) (l₁ : List UInt8) (hs : a.eval s = v) (hown : OB E w base v l₁)
    (B : Nat) (A : Option Addr) (c n : Nat) (l₂ : List UInt8) (hx : a.eval x = .slice A n c) (hn : n = l₂.length) (hr : RB w B A l₂) (hlen : l₁.length + l₂.length ≤ 140737488355328) (hbase : base ≤ w.heap.size)
    (L : List UInt8) (hL : L = l₁ ++ l₂) (m : Nat) (hm : m = L.length) (h : ∀ A' c' w', OB E w' base (.slice A' m c') L → Below base w w' → K (a.put o.dst (.slice A' m c')) w') :
    if Region.wanted o (yielded ops a.tmps) = true then Oper.wp P o a w K Q else E' := by
  subst hL
  subst hm
  have hw : Region.wanted o (yielded ops a.tmps) = true := by simp [Region.wanted, hgd]
  rw [if_pos hw]
  obtain ⟨A', c', w', hrun, h2, h3, _, _⟩ := run_append_bytes (P := P) w base T o.type E ht hE v l₁ hown B A c n l₂ hn hr hlen hbase
  unfold Oper.wp execOp
  simp only [ho, resolve, invoke, builtin, Sem.run_bind, Sem.run_pure, Result.andThen_ok, List.map_toArray, List.map_cons, List.map_nil, hs, hx, hrun]
  exact h A' c' w' h2 h3
end

/-! ### arrays of integers, held against each other -/
theorem run_part_int {P : Program} (w : World) {E : TypeId} {k : IntKind} (hE : P.underlying E = some (.int k)) (cs : Array Value) (j : Nat) (v : Value) (h : cs[j]? = some v) : (part E cs j).run P w = .ok v w := by
  simp [part, isAgg, run_underlying hE, h]
theorem run_eqItems_ints {P : Program} (w : World) (d : Nat) {E : TypeId} {k : IntKind} (hE : P.underlying E = some (.int k)) (xs ys : List Int) (hl : xs.length = ys.length) :
    ∀ (m s : Nat), s + m = xs.length → (Op.eqItems (d + 1) E 1 (xs.map (Value.int k)).toArray (ys.map (Value.int k)).toArray (List.range' s m)).run P w = .ok (xs.drop s == ys.drop s) w
  | 0, s, hm => by
    have h1 : xs.drop s = [] := by apply List.drop_eq_nil_of_le; omega
    have h2 : ys.drop s = [] := by apply List.drop_eq_nil_of_le; omega
    simp [Op.eqItems, h1, h2]
  | m + 1, s, hm => by
    have hs1 : s < xs.length := by omega
    have hs2 : s < ys.length := by omega
    have p1 := run_part_int w hE (xs.map (Value.int k)).toArray (s * 1) (.int k xs[s]) (by simp [hs1])
    have p2 := run_part_int w hE (ys.map (Value.int k)).toArray (s * 1) (.int k ys[s]) (by simp [hs2])
    have ih := run_eqItems_ints w d hE xs ys hl m (s + 1) (by omega)
    have e : (xs.drop s == ys.drop s) = ((xs[s] == ys[s]) && (xs.drop (s + 1) == ys.drop (s + 1))) := by
      rw [List.drop_eq_getElem_cons hs1, List.drop_eq_getElem_cons hs2]
      rfl
    rw [e, List.range'_succ]
    simp only [Op.eqItems, Sem.run_bind, p1, p2, Result.andThen_ok, run_equalIn_int w d E k k _ _ hE]
    by_cases he : xs[s] = ys[s]
    · simp [he, ih]
    · simp [he]
theorem run_equal_ints {P : Program} (w : World) (d : Nat) {T E : TypeId} {n : Nat} {k : IntKind} {i : TypeInfo} (hT : P.underlying T = some (.array n E)) (hE : P.underlying E = some (.int k)) (hi : P.info? E = some i) (h1 : P.cellsOf E = 1)
    (xs ys : List Int) (hx : xs.length = n) (hy : ys.length = n) : (Op.equalIn (d + 2) T (.agg (xs.map (Value.int k)).toArray) (.agg (ys.map (Value.int k)).toArray)).run P w = .ok (xs == ys) w := by
  rw [run_equalIn_array w (d + 1) _ _ hT hi, h1, List.range_eq_range', run_eqItems_ints w d hE xs ys (by omega) n 0 (by omega)]
  simp
theorem run_binOp_ints {P : Program} (w : World) {T E : TypeId} {n : Nat} {k : IntKind} {i : TypeInfo} (hT : P.underlying T = some (.array n E)) (hE : P.underlying E = some (.int k)) (hi : P.info? E = some i) (h1 : P.cellsOf E = 1) (hg : P.eqGuardType P.depth T = false)
    (xs ys : List Int) (hx : xs.length = n) (hy : ys.length = n) (x y : Operand) :
    ((do eqGuard .eql T x y (.agg (xs.map (Value.int k)).toArray) (.agg (ys.map (Value.int k)).toArray); binOp .eql T (.agg (xs.map (Value.int k)).toArray) (.agg (ys.map (Value.int k)).toArray) : Sem Value).run P w = .ok (.bool (xs == ys)) w) ∧
    ((do eqGuard .neq T x y (.agg (xs.map (Value.int k)).toArray) (.agg (ys.map (Value.int k)).toArray); binOp .neq T (.agg (xs.map (Value.int k)).toArray) (.agg (ys.map (Value.int k)).toArray) : Sem Value).run P w = .ok (.bool (!(xs == ys))) w) := by
  have h := run_equal_ints (P := P) w 9998 hT hE hi h1 xs ys hx hy
  constructor
  · rw [Sem.run_bind, run_eqGuard_agg w .eql T x y _ _ hg]
    simp only [Result.andThen_ok]
    simp only [binOp]
    simp [Op.equal, Op.maxDepth, h]
  · rw [Sem.run_bind, run_eqGuard_agg w .neq T x y _ _ hg]
    simp only [Result.andThen_ok]
    simp only [binOp]
    simp [Op.equal, Op.maxDepth, h]

end Go.Proofs.Ytpkbdodclkgjpaa

