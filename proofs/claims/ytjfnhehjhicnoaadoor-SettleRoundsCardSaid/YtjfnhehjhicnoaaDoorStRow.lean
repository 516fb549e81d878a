/-
  SettleRounds: the row, and its tied card.
-/
import Derived.Test.YtjfnhehjhicnoaaDoorStM
import Derived.Test.YtjfnhehjhicnoaaDoorCards
import Derived.Test.YtjfnhehjhicnoaaDoorTie
import Derived.Lay
import Derived.SevenTiedAt
import Derived.LaidSub
namespace Go.Proofs.YtjfnhehjhicnoaaDoor
open Go.RowKit

theorem cells_tab {cs : Array Value} {zs : List Int} {n : Nat} (h : ∀ r, r < n → ∃ z, cs.toList[r]? = some (.int .u64 z) ∧ zs[r]? = some z) (hl : cs.toList.length = n) (hz : zs.length = n) : cs = (zs.map fun z => Value.int .u64 z).toArray := by
  apply Array.toList_inj.1
  refine List.ext_getElem? fun r => ?_
  by_cases hr : r < n
  · obtain ⟨z, h1, h2⟩ := h r hr
    rw [h1, List.toList_toArray, List.getElem?_map, h2]
    rfl
  · rw [List.getElem?_eq_none (by omega), List.getElem?_eq_none (by simp; omega)]
theorem pw_laid {W : World} (h : laidMetH Tryd.prog Rows.settleRoundsRow.laid W) : ∃ ty fr, W.heap[pwG]? = some (.cells pwC ty fr) := by
  have h := laidMetH.filter (fun x => x.1 == "internal/strconv.uint64pow10") h
  have hl : (Rows.settleRoundsRow.laid.filter fun x => x.1 == "internal/strconv.uint64pow10") = [("internal/strconv.uint64pow10", Rows.laid_internal_strconv_uint64pow10)] := by rfl
  rw [hl, MakeChecks.laidMetH_plain _ _ _ (by kernel_rfl)] at h
  obtain ⟨ps, ⟨g, t, cs, fuel, p, q, hg, ht, hv, hd, _, _⟩, _, _⟩ := h
  refine tab_at sfIto.m17 ?_
  obtain rfl := Option.some.inj (sfIto.m17.symm.trans hg)
  obtain rfl := Option.some.inj ((show (Tryd.prog.globals[sfIto_ren.g 17]?).map (·.type) = some 159 by kernel_rfl).symm.trans ht)
  obtain ⟨xs, m, _, ex, hcl, hl20, hel⟩ := DataW.trod_array Tryd.underlying159 hd
  have c5 : Tryd.prog.cellsOf 25 = 1 := by kernel_rfl
  have c6 : Tryd.prog.cellsOf 159 = 20 := by kernel_rfl
  have hlen : Lib.pow10Tab.length = 20 := by kernel_rfl
  have e3 : (xs.map (·.1)) = Lib.pow10Tab.map fun n => (.lit (.int .u64 n) : DataW Unit) := (DataW.agg.inj (Prod.mk.inj ex).1).symm
  unfold Lib.TabIs
  rw [hv]
  refine congrArg some (cells_tab (n := 20) (fun r hr => ?_) (by rw [hcl, c6]) hlen)
  have hE := hel r hr
  rw [c5, Nat.mul_one, List.getElem?_eq_getElem (by omega)] at hE
  obtain ⟨z, e1, e2, _⟩ := DataW.trod_int Tryd.underlying25 hE
  have e4 : (xs.map (·.1))[r]? = (Lib.pow10Tab.map fun n => (DataW.lit (.int .u64 n) : DataW Unit))[r]? := by rw [e3]
  rw [List.getElem?_map, List.getElem?_map, List.getElem?_eq_getElem (by omega : r < xs.length), List.getElem?_eq_getElem (by omega : r < Lib.pow10Tab.length), e2] at e4
  simp only [Option.map_some, Option.some.injEq, DataW.lit.injEq, Lit.int.injEq, true_and] at e4
  have h0 : ((cs.toList.drop r).take 1)[0]? = some (.int .u64 z) := by rw [e1]; rfl
  have h1 : cs.toList[r]? = some (.int .u64 z) := by simpa using h0
  exact ⟨z, h1, by rw [List.getElem?_eq_getElem (by omega : r < Lib.pow10Tab.length), e4]⟩
theorem settleRounds_own : ownKnob Tryd.prog.godebug = none := by kernel_rfl
theorem settleRounds_laid : laidOutB Tryd.prog = true := by kernel_rfl

set_option maxRecDepth 100000 in
theorem settleRounds_lifted (os : Os) (started : os.Started) (H : Type) (enc : TypeId × Value → H) :
    ReturnsInHanded {} Tryd.checked os 7 .any (fun w args => (Rows.settleRoundsSpec.pre enc Tryd.prog Tryd.f7 [] false w args ∧ laidMetH Tryd.prog Rows.settleRoundsRow.laid w) ∧ sizedMet enc Tryd.prog Tryd.f7 (OpenSpec.ofChange Rows.settleRoundsSpec) false w args)
      (Rows.settleRoundsSpec.post enc Tryd.prog Tryd.f7 false true false false) := by
  refine returnsInHanded_of_change_and (C := Tryd.checked) (X := fun w _ => laidMetH Tryd.prog Rows.settleRoundsRow.laid w) (fun _ _ _ hh h => h.of_heap hh) settleRounds_own started (by kernel_rfl) Tryd.func7
    (ChangeSpec.witness_shaped (enc := enc) (C := Tryd.checked) (os := os) (X := fun w _ => laidMetH Tryd.prog Rows.settleRoundsRow.laid w) false (World.laidAll Tryd.prog os Rows.settleRoundsRow.laid) #[.slice none 0 0, .int .i64 0] 8 (World.laidAll_os _ _ _)
      (World.shaped_of_ZipB (by kernel_rfl) (by kernel_rfl)) (by kernel_rfl) (by kernel_rfl) (by kernel_rfl)
      (by rw [MakeChecks.laidMetH_plain _ _ _ (by kernel_rfl)]; exact laidMet_laidAll _ (by kernel_rfl) (by kernel_rfl))) ?_
  intro W base args ds gs before hval0 hW _ _ hL _
  have hval : ∀ (j : Nat) t v, Tryd.f7.params[j]? = some t → args[j]? = some v → Value.okWide Tryd.prog W .any base t v := hval0
  have hW' : DataW.Whole enc Tryd.prog Tryd.f7.params.toList Rows.settleRoundsSpec.vars false W args.toList ds gs before := hW
  exact law_postT (P := Tryd.prog) [.sl (.i .i64), .i .i64] (by kernel_rfl) settleRounds_laid (by kernel_rfl) rfl (tb := 4) rfl (by kernel_rfl) (fun ds h => by
    match ds, h with
    | [d1, d2], _ => rfl) (fun x hx => stLaw x.1.1 (fun k => x.1.2 k) x.2.1 hx.1.1) W args ds gs before hval hW' (pw_laid hL)

theorem settleRounds_holds : Rows.SettleRoundsSaid :=
  OpenClaim.holds_of_wide 7 Tryd.f7 rfl rfl rfl rfl rfl rfl rfl ⟨rfl, rfl, rfl, rfl, rfl⟩ rfl rfl rfl rfl rfl (by kernel_rfl) Tryd.func7 (by kernel_rfl)
    (of_decide_eq_true (by kernel_rfl)) (by unfold Func.isWrapper; rw [if_neg (by decide +kernel)]; exact ⟨rfl, rfl⟩)
    (fun os started H enc _ => settleRounds_lifted os started H enc)
theorem settleRounds_card : Rows.SettleRoundsCardSaid :=
  Claim7.holds_tied_plain_at .later [] [.data, .data, .data, .sentinel, .sentinel] true (true, "46460d69bbc9461be5624d5826bf6773be0b75d4ed69e423ed679516c7ef2c32") true settleRounds_holds (fun _ h => by cases h) (by kernel_rfl) (fun _ h => by cases h) settleRounds_row_tie rfl ⟨rfl, rfl⟩ (by kernel_rfl) rfl
    (fun f fn hf hfn => by
      obtain rfl : f = 7 := Option.some.inj ((show Tryd.prog.funcNamed "gridhall/gridhalllaw3.SettleRounds" = some 7 by kernel_rfl).symm.trans hf) |>.symm
      obtain rfl : fn = Tryd.f7 := (Option.some.inj (Tryd.func7.symm.trans hfn)).symm
      exact ⟨by kernel_rfl, fun j t ht => by
        have hm := Array.mem_of_getElem? ht
        have hall : (Tryd.f7.params.toList.all fun u => !Tryd.prog.wantsStandIn u) = true := by kernel_rfl
        have h9 : (!Tryd.prog.wantsStandIn t) = true := List.all_eq_true.1 hall t (by simpa using hm)
        exact (show Tryd.prog.wantsStandIn t = false by simpa using h9)⟩)
    (by kernel_rfl)
end Go.Proofs.YtjfnhehjhicnoaaDoor
