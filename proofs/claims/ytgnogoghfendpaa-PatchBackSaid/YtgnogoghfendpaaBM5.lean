/- Texts that the law rests on, merged. No condition. -/
import Derived.Test.YtgnogoghfendpaaBM1
import Derived.Test.YtgnogoghfendpaaBM2
import Derived.Test.YtgnogoghfendpaaBM3
import Derived.Test.YtgnogoghfendpaaBM4
import Derived.BigQuiet
set_option linter.unusedVariables false
set_option linter.unusedSimpArgs false
namespace Go.Proofs.Ytgnogoghfendpaa
open Go Go.RowKit Go.Shelf W Sg Tk
namespace Pb
/-- A window that is not the block has its strong sum. -/
def Hit (b B : List UInt8) (j : Nat) : Prop := (b.drop j).take B.length ≠ B ∧ Mix.of ((b.drop j).take B.length) = Mix.of B
set_option maxRecDepth 100000 in
set_option maxHeartbeats 8000000 in
theorem clash_any (l b : List UInt8) (size : Int) (w : World) (hl : l.length ≤ 120) (hb : b.length ≤ 120) (hcl : Clash l b (Bl.hold size)) :
    Calls Try.prog 19 #[str l, str b, .int .i64 size] w fun e w' => e = .returned (.bool true) ∧ Gr w w' := by
  have hbl := Lib.hid (fun w => Bl.refBlocks_any l size w (by omega))
  have hh := Bl.hold_pos size
  generalize Bl.hold size = h at *
  have hcn := Bl.count_le l.length h (by omega)
  replace hcl := Lib.hid hcl
  go_enter Try.func19, Try.ntmps19
  go_wp2_with fail
  go_at_call 16
  refine (hbl.out _).mono ?_
  rintro e W1 ⟨A2, c2, rfl, o2, g1⟩
  have o2' := Lib.hid o2
  rw [Bl.blocks_len] at o2'
  replace g1 := Lib.hid g1
  rw [Bl.blocks_len]
  clear hbl o2
  go_wp2
  go_loopw [8] (fun v8 wr => ∃ k : Nat, k ≤ Bl.count l.length h ∧ v8 = .int .i64 (k : Int) ∧ Hid (∀ k', k' < k → ∀ j, j + (Bl.at_ l h k').length ≤ b.length → ¬ Hit b (Bl.at_ l h k') j) ∧ Hid (Gr W1 wr)) (fun v8 _ => Bl.count l.length h - (intOf v8).toNat)
  case atStart => exact ⟨0, by omega, rfl, Lib.hid (fun k' h => absurd h (by omega)), Lib.hid (Gr.refl _)⟩
  case round =>
    obtain ⟨k, hk, rfl, hno, hgr⟩ := hrel
    obtain ⟨wo, rfl⟩ : ∃ x, x = wr := ⟨_, rfl⟩
    by_cases hkl : k < Bl.count l.length h
    · obtain ⟨ad, u, hA, hlt0, hu, e0⟩ := Reads.at_ (OR.reads (OR.below o2'.out hgr.out)) hkl
      subst hA
      obtain rfl : u = str (Bl.at_ l h k) := by
        have : (Bl.blocks l h)[k]? = some (Bl.at_ l h k) := by rw [List.getElem?_eq_getElem (by rw [Bl.blocks_len]; exact hkl), Bl.blocks_get]
        rw [List.getElem?_map, this] at hu
        exact (Option.some.inj hu).symm
      have hltb : (ad.add k).block < wo.heap.size := by rw [block_of_add]; exact hlt0
      have ij : (k : Int) < (Bl.count l.length h : Int) := by omega
      have hal := Bl.at_len l h k
      obtain ⟨B, hB⟩ : ∃ B, Bl.at_ l h k = B := ⟨_, rfl⟩
      rw [hB] at e0 hal
      replace hB := Lib.hid hB
      have kw0 : IntKind.i64.wrap ((k : Int) + 1) = (k : Int) + 1 := IntWalk.i64_in _ (by omega)
      have kwb : IntKind.i64.wrap ((b.length : Int) - (B.length : Int)) = (b.length : Int) - (B.length : Int) := IntWalk.i64_in _ (by omega)
      have e0h := Lib.hid e0
      clear hu hlt0
      go_wp2
      clear e0
      go_loopw [9] (fun v9 wr2 => ∃ j : Nat, j ≤ b.length + 1 ∧ v9 = .int .i64 (j : Int) ∧ Hid (∀ j', j' < j → j' + B.length ≤ b.length → ¬ Hit b B j') ∧ Hid (Gr wo wr2)) (fun v9 _ => b.length + 1 - (intOf v9).toNat)
      case atStart => exact ⟨0, by omega, rfl, Lib.hid (fun j' h => absurd h (by omega)), Lib.hid (Gr.refl _)⟩
      case round =>
        obtain ⟨j, hj, rfl, hnj, hg2⟩ := hrel
        have e1 := (Below.cell hg2.out hltb).trans e0h.out
        have hlt1 : (ad.add k).block < wr.heap.size := Nat.lt_of_lt_of_le hltb (Below.size hg2.out)
        by_cases hjl : j + B.length ≤ b.length
        · have i3 : (j : Int) ≤ (b.length : Int) - (B.length : Int) := by omega
          have kw1 : IntKind.i64.wrap ((j : Int) + (B.length : Int)) = (j : Int) + (B.length : Int) := IntWalk.i64_in _ (by omega)
          have kw2 : IntKind.i64.wrap ((j : Int) + 1) = (j : Int) + 1 := IntWalk.i64_in _ (by omega)
          have k3 : ((j : Int) + (B.length : Int)).toNat = j + B.length := by omega
          have k4 : j + B.length - j = B.length := by omega
          have k5 : (j : Int) ≤ (j : Int) + (B.length : Int) := by omega
          have k6 : (j : Int) + (B.length : Int) ≤ (b.length : Int) := by omega
          have k7 : 0 ≤ (j : Int) + (B.length : Int) := by omega
          have hwl : ((b.drop j).take B.length).length ≤ 1099511627776 := by rw [List.length_take]; omega
          by_cases hne : (b.drop j).take B.length = B
          · have hnh : ¬ Hit b B j := fun q => q.1 hne
            have hq : (!((b.drop j).take B.length == B)) = false := by rw [hne]; simp
            replace hne := Lib.hid hne
            go_wp2
            refine region_grow rfl (by kernel_rfl) ?_
            refine GW.mv rfl trivial (.inl rfl) (kn0 (t := 10) (c := str ((b.drop j).take B.length)) (by kernel_rfl) rfl) (eqv_lasts _) ?_
            refine GW.mv rfl trivial (.inl rfl) (kn0 (t := 7) (c := .slice (some ad) (Bl.count l.length h) c2) (by kernel_rfl) rfl) (eqv_lasts _) ?_
            refine GW.mv rfl trivial (.inl rfl) (kn0 (t := 8) (c := .int .i64 (k : Int)) (by kernel_rfl) rfl) (eqv_lasts _) ?_
            refine GW.p2 (.pointer (some (ad.add k))) rfl trivial (kn (t := 43) (j := 1) (by kernel_rfl)) (kn (t := 44) (j := 2) (by kernel_rfl)) (fun ρ w' h1 h2 hg => by show ((Instr.indexAt 46 (ρ (.tmp 43)) (ρ (.tmp 44)) >>= fun v => pure (Next.value v)) : Sem Next).run Try.prog w' = _; rw [h1, h2, Sem.run_bind, run_idxR w' Try.underlying46 (size := 1) (by kernel_rfl) ad _ _ k hkl]; simp) ?_
            refine GW.p1 (str B) rfl trivial (kn (t := 45) (j := 3) (by kernel_rfl)) (fun ρ w' hρ hg => by simp [execOp, hρ, go_sem, (hg.cell (p := (ad.add k)) hlt1).trans e1]) ?_
            refine GW.bin (.bool false) rfl trivial rfl (kn (t := 42) (j := 0) (by kernel_rfl)) (kn (t := 46) (j := 4) (by kernel_rfl)) (fun w' => (hq ▸ run_neq_str' ((b.drop j).take B.length) B _ _ _ w')) ?_
            refine GW.mv rfl trivial (.inl rfl) (kn (t := 47) (j := 5) (by kernel_rfl)) (eqv_lasts _) ?_
            refine GW.skip rfl rfl (d := 48) (by kernel_rfl) (by kernel_rfl) (fun _ _ h => .inl h) ?_
            refine GW.skip rfl rfl (d := 48) (by kernel_rfl) (by kernel_rfl) (fun _ _ h => .inl h) ?_
            refine GW.skip rfl rfl (d := 48) (by kernel_rfl) (by kernel_rfl) (fun _ _ h => .inl h) ?_
            refine GW.skip rfl rfl (d := 48) (by kernel_rfl) (by kernel_rfl) (fun _ _ h => .inl h) ?_
            refine GW.skip rfl rfl (d := 48) (by kernel_rfl) (by kernel_rfl) (fun _ _ h => .inl h) ?_
            refine GW.skip rfl rfl (d := 48) (by kernel_rfl) (by kernel_rfl) (fun _ _ h => .inl h) ?_
            refine GW.skip rfl rfl (d := 48) (by kernel_rfl) (by kernel_rfl) (fun _ _ h => .inl h) ?_
            refine GW.skip rfl rfl (d := 48) (by kernel_rfl) (by kernel_rfl) (fun _ _ h => .inl h) ?_
            refine GW.pick (b := false) rfl trivial rfl (kn (t := 48) (j := 6) (by kernel_rfl)) (knc) (eqv_lasts _) ?_
            refine GW.done (by simp) (by kernel_rfl) (fun w' hg => ?_)
            rintro v0 - v1 - v2 - v3 - v4 - v5 - v6 - v7 - v8 - v9 - v10 - v11 - v12 - v13 - v14 - v15 h15
            obtain rfl : v15 = (Value.bool false) := h15
            simp only [GFin, Act.put, List.setIfInBounds_toArray, List.set_cons_succ, List.set_cons_zero]
            have hg3 := Lib.hid (Gr.trans hg2.out hg)
            have hnj2 := Lib.hid (show ∀ j', j' < j + 1 → j' + B.length ≤ b.length → ¬ Hit b B j' from fun j' h1 h2 => by
              rcases Nat.lt_or_ge j' j with h3 | h3
              · exact hnj.out j' h3 h2
              · obtain rfl : j' = j := by omega
                exact hnh)
            clear hg hnh
            go_wp2
            exact ⟨⟨j + 1, by omega, by go_num, hnj2, hg3⟩, by simp [intOf]; omega⟩
          · have hq : (!((b.drop j).take B.length == B)) = true := by simpa using hne
            by_cases hsm : Mix.of ((b.drop j).take B.length) = Mix.of B
            · have hs : (Mix.of ((b.drop j).take B.length) == Mix.of B) = true := by rw [hsm]; simp
              have hg4 := Lib.hid (Gr.trans g1.out (Gr.trans hgr.out hg2.out))
              replace hsm := Lib.hid hsm
              replace hne := Lib.hid hne
              go_wp2
              refine region_grow rfl (by kernel_rfl) ?_
              refine GW.mv rfl trivial (.inl rfl) (kn0 (t := 10) (c := str ((b.drop j).take B.length)) (by kernel_rfl) rfl) (eqv_lasts _) ?_
              refine GW.mv rfl trivial (.inl rfl) (kn0 (t := 7) (c := .slice (some ad) (Bl.count l.length h) c2) (by kernel_rfl) rfl) (eqv_lasts _) ?_
              refine GW.mv rfl trivial (.inl rfl) (kn0 (t := 8) (c := .int .i64 (k : Int)) (by kernel_rfl) rfl) (eqv_lasts _) ?_
              refine GW.p2 (.pointer (some (ad.add k))) rfl trivial (kn (t := 43) (j := 1) (by kernel_rfl)) (kn (t := 44) (j := 2) (by kernel_rfl)) (fun ρ w' h1 h2 hg => by show ((Instr.indexAt 46 (ρ (.tmp 43)) (ρ (.tmp 44)) >>= fun v => pure (Next.value v)) : Sem Next).run Try.prog w' = _; rw [h1, h2, Sem.run_bind, run_idxR w' Try.underlying46 (size := 1) (by kernel_rfl) ad _ _ k hkl]; simp) ?_
              refine GW.p1 (str B) rfl trivial (kn (t := 45) (j := 3) (by kernel_rfl)) (fun ρ w' hρ hg => by simp [execOp, hρ, go_sem, (hg.cell (p := (ad.add k)) hlt1).trans e1]) ?_
              refine GW.bin (.bool true) rfl trivial rfl (kn (t := 42) (j := 0) (by kernel_rfl)) (kn (t := 46) (j := 4) (by kernel_rfl)) (fun w' => (hq ▸ run_neq_str' ((b.drop j).take B.length) B _ _ _ w')) ?_
              refine GW.mv rfl trivial (.inl rfl) (kn (t := 47) (j := 5) (by kernel_rfl)) (eqv_lasts _) ?_
              refine GW.mv rfl ⟨48, by kernel_rfl, by kernel_rfl, fun _ _ h => h⟩ (.inl rfl) (kn0 (t := 10) (c := str ((b.drop j).take B.length)) (by kernel_rfl) rfl) (eqv_lasts _) ?_
              refine GW.call1 (eqv (Mix.sumV (Mix.of ((b.drop j).take B.length)))) rfl ⟨48, by kernel_rfl, by kernel_rfl, fun _ _ h => h⟩ rfl Try.func14 (by kernel_rfl) (by kernel_rfl) (eqv_lasts _) (kn (t := 49) (j := 7) (by kernel_rfl)) (fun v w' hg hv => ?_) ?_
              · obtain rfl : v = _ := hv
                refine (Mix.refOf_any ((b.drop j).take B.length) w' (by omega)).mono ?_
                rintro e w9 ⟨rfl, hg9⟩
                exact ⟨_, rfl, rfl, hg9⟩
              refine GW.mv rfl ⟨48, by kernel_rfl, by kernel_rfl, fun _ _ h => h⟩ (.inl rfl) (kn0 (t := 7) (c := .slice (some ad) (Bl.count l.length h) c2) (by kernel_rfl) rfl) (eqv_lasts _) ?_
              refine GW.mv rfl ⟨48, by kernel_rfl, by kernel_rfl, fun _ _ h => h⟩ (.inl rfl) (kn0 (t := 8) (c := .int .i64 (k : Int)) (by kernel_rfl) rfl) (eqv_lasts _) ?_
              refine GW.p2 (.pointer (some (ad.add k))) rfl ⟨48, by kernel_rfl, by kernel_rfl, fun _ _ h => h⟩ (kn (t := 51) (j := 9) (by kernel_rfl)) (kn (t := 52) (j := 10) (by kernel_rfl)) (fun ρ w' h1 h2 hg => by show ((Instr.indexAt 46 (ρ (.tmp 51)) (ρ (.tmp 52)) >>= fun v => pure (Next.value v)) : Sem Next).run Try.prog w' = _; rw [h1, h2, Sem.run_bind, run_idxR w' Try.underlying46 (size := 1) (by kernel_rfl) ad _ _ k hkl]; simp) ?_
              refine GW.p1 (str B) rfl ⟨48, by kernel_rfl, by kernel_rfl, fun _ _ h => h⟩ (kn (t := 53) (j := 11) (by kernel_rfl)) (fun ρ w' hρ hg => by simp [execOp, hρ, go_sem, (hg.cell (p := (ad.add k)) hlt1).trans e1]) ?_
              refine GW.call1 (eqv (Mix.sumV (Mix.of B))) rfl ⟨48, by kernel_rfl, by kernel_rfl, fun _ _ h => h⟩ rfl Try.func14 (by kernel_rfl) (by kernel_rfl) (eqv_lasts _) (kn (t := 54) (j := 12) (by kernel_rfl)) (fun v w' hg hv => ?_) ?_
              · obtain rfl : v = _ := hv
                refine (Mix.refOf_any B w' (by omega)).mono ?_
                rintro e w9 ⟨rfl, hg9⟩
                exact ⟨_, rfl, rfl, hg9⟩
              refine GW.bin (.bool true) rfl ⟨48, by kernel_rfl, by kernel_rfl, fun _ _ h => h⟩ rfl (kn (t := 50) (j := 8) (by kernel_rfl)) (kn (t := 55) (j := 13) (by kernel_rfl)) (fun w' => (hs ▸ Mix.eql_sum _ _ _ _ w')) ?_
              refine GW.pick (b := true) rfl trivial rfl (kn (t := 48) (j := 6) (by kernel_rfl)) (kn (t := 56) (j := 14) (by kernel_rfl)) (eqv_lasts _) ?_
              refine GW.done (by simp) (by kernel_rfl) (fun w' hg => ?_)
              rintro v0 - v1 - v2 - v3 - v4 - v5 - v6 - v7 - v8 - v9 - v10 - v11 - v12 - v13 - v14 - v15 h15
              obtain rfl : v15 = (.bool true) := h15
              simp only [GFin, Act.put, List.setIfInBounds_toArray, List.set_cons_succ, List.set_cons_zero]
              have hg5 := Gr.trans hg4.out hg
              clear hg
              go_wp2
              go_ret
              exact ⟨rfl, hg5⟩
            · have hs : (Mix.of ((b.drop j).take B.length) == Mix.of B) = false := by simpa using hsm
              have hnh : ¬ Hit b B j := fun q => hsm q.2
              replace hsm := Lib.hid hsm
              replace hne := Lib.hid hne
              go_wp2
              refine region_grow rfl (by kernel_rfl) ?_
              refine GW.mv rfl trivial (.inl rfl) (kn0 (t := 10) (c := str ((b.drop j).take B.length)) (by kernel_rfl) rfl) (eqv_lasts _) ?_
              refine GW.mv rfl trivial (.inl rfl) (kn0 (t := 7) (c := .slice (some ad) (Bl.count l.length h) c2) (by kernel_rfl) rfl) (eqv_lasts _) ?_
              refine GW.mv rfl trivial (.inl rfl) (kn0 (t := 8) (c := .int .i64 (k : Int)) (by kernel_rfl) rfl) (eqv_lasts _) ?_
              refine GW.p2 (.pointer (some (ad.add k))) rfl trivial (kn (t := 43) (j := 1) (by kernel_rfl)) (kn (t := 44) (j := 2) (by kernel_rfl)) (fun ρ w' h1 h2 hg => by show ((Instr.indexAt 46 (ρ (.tmp 43)) (ρ (.tmp 44)) >>= fun v => pure (Next.value v)) : Sem Next).run Try.prog w' = _; rw [h1, h2, Sem.run_bind, run_idxR w' Try.underlying46 (size := 1) (by kernel_rfl) ad _ _ k hkl]; simp) ?_
              refine GW.p1 (str B) rfl trivial (kn (t := 45) (j := 3) (by kernel_rfl)) (fun ρ w' hρ hg => by simp [execOp, hρ, go_sem, (hg.cell (p := (ad.add k)) hlt1).trans e1]) ?_
              refine GW.bin (.bool true) rfl trivial rfl (kn (t := 42) (j := 0) (by kernel_rfl)) (kn (t := 46) (j := 4) (by kernel_rfl)) (fun w' => (hq ▸ run_neq_str' ((b.drop j).take B.length) B _ _ _ w')) ?_
              refine GW.mv rfl trivial (.inl rfl) (kn (t := 47) (j := 5) (by kernel_rfl)) (eqv_lasts _) ?_
              refine GW.mv rfl ⟨48, by kernel_rfl, by kernel_rfl, fun _ _ h => h⟩ (.inl rfl) (kn0 (t := 10) (c := str ((b.drop j).take B.length)) (by kernel_rfl) rfl) (eqv_lasts _) ?_
              refine GW.call1 (eqv (Mix.sumV (Mix.of ((b.drop j).take B.length)))) rfl ⟨48, by kernel_rfl, by kernel_rfl, fun _ _ h => h⟩ rfl Try.func14 (by kernel_rfl) (by kernel_rfl) (eqv_lasts _) (kn (t := 49) (j := 7) (by kernel_rfl)) (fun v w' hg hv => ?_) ?_
              · obtain rfl : v = _ := hv
                refine (Mix.refOf_any ((b.drop j).take B.length) w' (by omega)).mono ?_
                rintro e w9 ⟨rfl, hg9⟩
                exact ⟨_, rfl, rfl, hg9⟩
              refine GW.mv rfl ⟨48, by kernel_rfl, by kernel_rfl, fun _ _ h => h⟩ (.inl rfl) (kn0 (t := 7) (c := .slice (some ad) (Bl.count l.length h) c2) (by kernel_rfl) rfl) (eqv_lasts _) ?_
              refine GW.mv rfl ⟨48, by kernel_rfl, by kernel_rfl, fun _ _ h => h⟩ (.inl rfl) (kn0 (t := 8) (c := .int .i64 (k : Int)) (by kernel_rfl) rfl) (eqv_lasts _) ?_
              refine GW.p2 (.pointer (some (ad.add k))) rfl ⟨48, by kernel_rfl, by kernel_rfl, fun _ _ h => h⟩ (kn (t := 51) (j := 9) (by kernel_rfl)) (kn (t := 52) (j := 10) (by kernel_rfl)) (fun ρ w' h1 h2 hg => by show ((Instr.indexAt 46 (ρ (.tmp 51)) (ρ (.tmp 52)) >>= fun v => pure (Next.value v)) : Sem Next).run Try.prog w' = _; rw [h1, h2, Sem.run_bind, run_idxR w' Try.underlying46 (size := 1) (by kernel_rfl) ad _ _ k hkl]; simp) ?_
              refine GW.p1 (str B) rfl ⟨48, by kernel_rfl, by kernel_rfl, fun _ _ h => h⟩ (kn (t := 53) (j := 11) (by kernel_rfl)) (fun ρ w' hρ hg => by simp [execOp, hρ, go_sem, (hg.cell (p := (ad.add k)) hlt1).trans e1]) ?_
              refine GW.call1 (eqv (Mix.sumV (Mix.of B))) rfl ⟨48, by kernel_rfl, by kernel_rfl, fun _ _ h => h⟩ rfl Try.func14 (by kernel_rfl) (by kernel_rfl) (eqv_lasts _) (kn (t := 54) (j := 12) (by kernel_rfl)) (fun v w' hg hv => ?_) ?_
              · obtain rfl : v = _ := hv
                refine (Mix.refOf_any B w' (by omega)).mono ?_
                rintro e w9 ⟨rfl, hg9⟩
                exact ⟨_, rfl, rfl, hg9⟩
              refine GW.bin (.bool false) rfl ⟨48, by kernel_rfl, by kernel_rfl, fun _ _ h => h⟩ rfl (kn (t := 50) (j := 8) (by kernel_rfl)) (kn (t := 55) (j := 13) (by kernel_rfl)) (fun w' => (hs ▸ Mix.eql_sum _ _ _ _ w')) ?_
              refine GW.pick (b := true) rfl trivial rfl (kn (t := 48) (j := 6) (by kernel_rfl)) (kn (t := 56) (j := 14) (by kernel_rfl)) (eqv_lasts _) ?_
              refine GW.done (by simp) (by kernel_rfl) (fun w' hg => ?_)
              rintro v0 - v1 - v2 - v3 - v4 - v5 - v6 - v7 - v8 - v9 - v10 - v11 - v12 - v13 - v14 - v15 h15
              obtain rfl : v15 = (.bool false) := h15
              simp only [GFin, Act.put, List.setIfInBounds_toArray, List.set_cons_succ, List.set_cons_zero]
              have hg3 := Lib.hid (Gr.trans hg2.out hg)
              have hnj2 := Lib.hid (show ∀ j', j' < j + 1 → j' + B.length ≤ b.length → ¬ Hit b B j' from fun j' h1 h2 => by
                rcases Nat.lt_or_ge j' j with h3 | h3
                · exact hnj.out j' h3 h2
                · obtain rfl : j' = j := by omega
                  exact hnh)
              clear hg hnh
              go_wp2
              exact ⟨⟨j + 1, by omega, by go_num, hnj2, hg3⟩, by simp [intOf]; omega⟩
        · have i3 : ¬ (j : Int) ≤ (b.length : Int) - (B.length : Int) := by omega
          have hno2 := Lib.hid (show ∀ k', k' < k + 1 → ∀ j, j + (Bl.at_ l h k').length ≤ b.length → ¬ Hit b (Bl.at_ l h k') j from fun k' h1 j' h2 => by
            rcases Nat.lt_or_ge k' k with h3 | h3
            · exact hno.out k' h3 j' h2
            · obtain rfl : k' = k := by omega
              rw [hB.out] at h2 ⊢
              exact hnj.out j' (by omega) h2)
          have hg3 := Lib.hid (Gr.trans hgr.out hg2.out)
          clear hno hnj hgr hg2
          go_wp2
          exact ⟨⟨k + 1, by omega, by go_num, hno2, hg3⟩, by simp [intOf]; omega⟩
    · exfalso
      obtain ⟨k', j, q1, q2, q3, q4⟩ := hcl.out
      exact hno.out k' (by omega) j q2 ⟨q3, q4⟩
set_option maxRecDepth 100000 in
set_option maxHeartbeats 8000000 in
theorem back_walk (A Ab : Option Addr) (c cb : Nat) (l b : List UInt8) (size : Int) (w : World) (hc : l.length ≤ c) (hcm : c ≤ maxLen) (hr : RB w w.heap.size A l) (hcb : b.length ≤ cb) (hcmb : cb ≤ maxLen) (hrb : RB w w.heap.size Ab b) :
    Calls Try.prog 5 #[.slice A l.length c, .slice Ab b.length cb, .int .i64 size] w (Ret (eqv (.bool true)) w) := by
  have haw := Lib.hid (fun w => Pt.awake_any w)
  by_cases h1 : l.length ≤ 120
  · by_cases h2 : b.length ≤ 120
    · have hde := Lib.hid (Se.delta_any A Ab c cb l b size w (by omega) hc hcm hr hrb hcb hcmb (by omega))
      have hlen := Se.huntP_len (sigOf l size) b
      have hfit := Se.huntP_fits (sigOf l size) b (by omega)
      obtain ⟨r, q1, q2, q3, q4⟩ := back_law l b size (by omega) (by omega)
      rw [← Se.huntP_eq (sigOf l size) b (by omega)] at q1 q3
      obtain ⟨L, hL⟩ : ∃ L, Se.huntP (sigOf l size) b = L := ⟨_, rfl⟩
      rw [hL] at hde hlen hfit q1 q3
      clear hL
      have hap := Lib.hid (show ∀ (B : Option Addr) (cB : Nat) (w : World), RB w w.heap.size A l → TR w w.heap.size B L → Calls Try.prog 9 #[.slice A l.length c, .int .i64 size, .slice B L.length cB] w (fun e w' => ∃ A8 c8, e = .returned (.tuple #[.slice A8 r.length c8, .int .i64 0]) ∧ (r.length ≤ c8 ∧ c8 ≤ maxLen ∧ RB w' w'.heap.size A8 r) ∧ Gr w w') from fun B cB w hr hT => by
        have := Pt.apply_any A B c cB l size L w (by omega) hc hr hT hfit (by omega)
        rw [q1] at this
        refine this.mono ?_
        rintro e w' ⟨v, rfl, ⟨A8, c8, rfl, x1, x2, x3⟩, g⟩
        exact ⟨A8, c8, rfl, ⟨x1, x2, x3⟩, g⟩)
      have hne := Lib.hid (show ∀ (B : Option Addr) (cB : Nat) (w : World), TR w w.heap.size B L → Calls Try.prog 13 #[.int .i64 (l.length : Int), .int .i64 size, .slice B L.length cB] w (fun e w' => e = .returned (.bool true) ∧ Gr w w') from fun B cB w hT => by
        have := Pt.needs_any B l.length cB size L w (by omega) hT hfit (by omega)
        rw [q3] at this
        exact this)
      have i1 : (l.length : Int) ≤ 120 := by omega
      have i2 : (b.length : Int) ≤ 120 := by omega
      replace hr := Lib.hid hr
      replace hrb := Lib.hid hrb
      have q5 : ((r.length : Int) == (b.length : Int)) = true := by rw [q2]; simp
      have q6 : (r.length : Int) = (b.length : Int) := by rw [q2]
      replace q2 := Lib.hid q2
      replace q6 := Lib.hid q6
      clear q1 q3 hfit hlen
      go_enter Try.func5, Try.ntmps5
      go_wp2_with fail
      go_at_call 18
      refine hde.out.mono ?_
      rintro e W1 ⟨A1, c1, rfl, o1, g1⟩
      have t1 := Lib.hid (OT.tr o1)
      replace hr := Lib.hid ((hr.out.below g1).more (Below.size g1))
      replace hrb := Lib.hid ((hrb.out.below g1).more (Below.size g1))
      replace g1 := Lib.hid g1
      clear hde o1
      go_wp2_with fail
      go_at_call 9
      refine (hap.out A1 c1 W1 hr.out t1.out).mono ?_
      rintro e W2 ⟨A8, c8, rfl, ⟨hc8, hm8, r8⟩, g2⟩
      replace hr := Lib.hid ((hr.out.below g2).more (Below.size g2))
      replace hrb := Lib.hid ((hrb.out.below g2).more (Below.size g2))
      replace t1 := Lib.hid ((t1.out.below g2).more (Below.size g2))
      replace g1 := Lib.hid (Gr.trans g1.out g2)
      replace r8 := Lib.hid r8
      clear hap g2
      go_wp2_with fail
      go_at_call 13
      refine (hne.out A1 c1 W2 t1.out).mono ?_
      rintro e W3 ⟨rfl, g3⟩
      replace hr := Lib.hid ((hr.out.below g3).more (Below.size g3))
      replace hrb := Lib.hid ((hrb.out.below g3).more (Below.size g3))
      replace r8 := Lib.hid ((r8.out.below g3).more (Below.size g3))
      replace g1 := Lib.hid (Gr.trans g1.out g3)
      clear hne g3 t1
      by_cases hrb2 : r = b
      · have hq : (r == b) = true := by rw [hrb2]; simp
        replace hrb2 := Lib.hid hrb2
        clear q4
        go_wp2_with fail
        go_at_call 7
        refine (haw.out _).mono ?_
        rintro e W4 ⟨rfl, g4⟩
        have ra9 := Lib.hid ((hr.out.below g4).more (Below.size g4))
        have rb9 := Lib.hid ((hrb.out.below g4).more (Below.size g4))
        have r9 := Lib.hid ((r8.out.below g4).more (Below.size g4))
        replace g1 := Lib.hid (Gr.trans g1.out g4)
        clear g4 hr hrb r8
        go_wp2_with (first
          | (refine wpList_bytes_string rfl (.tmp 49) 22 9 5 rfl Try.underlying22 Bl.byteType.1 Try.underlying9 _ _ _ _ r rfl rfl r9.out ?_)
          | (refine wpList_bytes_string rfl (.tmp 51) 22 9 5 rfl Try.underlying22 Bl.byteType.1 Try.underlying9 _ _ _ _ b rfl rfl rb9.out ?_))
        go_ret
        exact ⟨_, rfl, rfl, g1.out⟩
      · have hq : (r == b) = false := by simpa using hrb2
        have hcl := Lib.hid (q4.resolve_left hrb2)
        replace hrb2 := Lib.hid hrb2
        clear q4
        go_wp2_with fail
        go_at_call 7
        refine (haw.out _).mono ?_
        rintro e W4 ⟨rfl, g4⟩
        have ra9 := Lib.hid ((hr.out.below g4).more (Below.size g4))
        have rb9 := Lib.hid ((hrb.out.below g4).more (Below.size g4))
        have r9 := Lib.hid ((r8.out.below g4).more (Below.size g4))
        replace g1 := Lib.hid (Gr.trans g1.out g4)
        clear g4 hr hrb r8
        go_wp2_with (first
          | (refine wpList_bytes_string rfl (.tmp 49) 22 9 5 rfl Try.underlying22 Bl.byteType.1 Try.underlying9 _ _ _ _ r rfl rfl r9.out ?_)
          | (refine wpList_bytes_string rfl (.tmp 51) 22 9 5 rfl Try.underlying22 Bl.byteType.1 Try.underlying9 _ _ _ _ b rfl rfl rb9.out ?_)
          | (refine wpList_bytes_string rfl (.tmp 55) 22 9 5 rfl Try.underlying22 Bl.byteType.1 Try.underlying9 _ _ _ _ l rfl rfl ra9.out ?_)
          | (refine wpList_bytes_string rfl (.tmp 57) 22 9 5 rfl Try.underlying22 Bl.byteType.1 Try.underlying9 _ _ _ _ b rfl rfl rb9.out ?_))
        go_at_call 19
        refine (clash_any l b size _ h1 h2 hcl.out).mono ?_
        rintro e W5 ⟨rfl, g5⟩
        replace g1 := Lib.hid (Gr.trans g1.out g5)
        clear g5
        go_wp2
        go_ret
        exact ⟨_, rfl, rfl, g1.out⟩
    · have i1 : (l.length : Int) ≤ 120 := by omega
      have i2 : ¬ (b.length : Int) ≤ 120 := by omega
      clear hr hrb
      go_enter Try.func5, Try.ntmps5
      go_wp2_with fail
      go_at_call 7
      refine (haw.out _).mono ?_
      rintro e W1 ⟨rfl, g1⟩
      go_wp2
      go_ret
      exact ⟨_, rfl, rfl, g1⟩
  · have i1 : ¬ (l.length : Int) ≤ 120 := by omega
    clear hr hrb
    go_enter Try.func5, Try.ntmps5
    go_wp2_with fail
    go_at_call 7
    refine (haw.out _).mono ?_
    rintro e W1 ⟨rfl, g1⟩
    go_wp2
    go_ret
    exact ⟨_, rfl, rfl, g1⟩
end Pb
end Go.Proofs.Ytgnogoghfendpaa
