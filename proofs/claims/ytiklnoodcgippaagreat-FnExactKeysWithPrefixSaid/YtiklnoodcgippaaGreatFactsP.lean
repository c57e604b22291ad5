/- The closed facts of a row, one by one; no condition. The closed facts of a row, joined; no condition. -/
import Derived.Test.YtiklnoodcgippaaGreatRows
import Derived.JoinedOf
set_option linter.unusedSimpArgs false
set_option linter.unusedVariables false
set_option linter.unusedSectionVars false
namespace Go.Proofs.YtiklnoodcgippaaGreat.fnExactKeysWithPrefix
theorem k1 : (Rows.fnExactKeysWithPrefixRow.wf (OpenSpec.ofChange Rows.fnExactKeysWithPrefixSpec)) = true := by kernel_rfl
theorem k2 : (laidOutB Tryz.prog) = true := by kernel_rfl
theorem k3 : (mapsRowed Tryz.prog) = true := by kernel_rfl
theorem k4 : (Tryz.f12.params.all (Tryz.prog.readableRec ·)) = true := by kernel_rfl
theorem k5 : (namedTie Tryz.prog Rows.fnExactKeysWithPrefixRow.named Rows.fnExactKeysWithPrefixSpec.vars) = true := by kernel_rfl
theorem k6 : ((Rows.fnExactKeysWithPrefixRow.stops == [])) = true := by kernel_rfl
theorem k7 : ((Tryz.prog.stops == [])) = true := by kernel_rfl
theorem k8 : ((Rows.fnExactKeysWithPrefixRow.knobs == [])) = true := by kernel_rfl
theorem k9 : ((Tryz.prog.stopKnobs == [])) = true := by kernel_rfl
theorem k10 : ((Rows.fnExactKeysWithPrefixRow.inPlace == Tryz.prog.inPlace 12)) = true := by kernel_rfl
theorem k11 : ((Rows.fnExactKeysWithPrefixRow.unfollowed == Tryz.prog.unfollowed 12)) = true := by kernel_rfl
theorem k12 : ((Rows.fnExactKeysWithPrefixRow.recurses == Tryz.prog.recurses 12)) = true := by kernel_rfl
theorem k13 : ((Rows.fnExactKeysWithPrefixRow.named == Tryz.prog.varsNamed 12)) = true := by kernel_rfl
theorem k14 : ((Rows.fnExactKeysWithPrefixRow.maps == (Tryz.f12.params.toList ++ Rows.fnExactKeysWithPrefixSpec.plain.varTypes Tryz.prog).any (Tryz.prog.mapsRec ·))) = true := by kernel_rfl
theorem k15 : ((Rows.fnExactKeysWithPrefixRow.ifaces == (Tryz.f12.params.toList ++ Rows.fnExactKeysWithPrefixSpec.plain.varTypes Tryz.prog).any (Tryz.prog.ifacesRec ·))) = true := by kernel_rfl
theorem k16 : ((Rows.fnExactKeysWithPrefixRow.mapsOut == Tryz.prog.mapsAmong Tryz.f12.resultTypes.toList)) = true := by kernel_rfl
theorem k17 : ((Rows.fnExactKeysWithPrefixRow.loops == (Tryz.f12.params.toList ++ Rows.fnExactKeysWithPrefixSpec.plain.varTypes Tryz.prog).any (Tryz.prog.loopsFrom ·))) = true := by kernel_rfl
theorem k18 : ((Rows.fnExactKeysWithPrefixRow.wideKeys == (Tryz.f12.params.toList ++ Rows.fnExactKeysWithPrefixSpec.plain.varTypes Tryz.prog ++ Tryz.f12.resultTypes.toList).any (Tryz.prog.wideKeysFrom ·))) = true := by kernel_rfl
theorem k19 : (Rows.fnExactKeysWithPrefixSpec.vars.all (Tryz.prog.varReadable ·)) = true := by kernel_rfl
theorem k20 : (Tryz.f12.resultTypes.all (fun t => Tryz.prog.readableRec t && decide (t < Tryz.prog.types.size))) = true := by kernel_rfl
theorem k21 : ((Rows.fnExactKeysWithPrefixRow.ifacesOut == Tryz.f12.resultTypes.toList.any (Tryz.prog.ifacesRec ·))) = true := by kernel_rfl
theorem k22 : ((Rows.fnExactKeysWithPrefixRow.loopsOut == Tryz.f12.resultTypes.toList.any (Tryz.prog.loopsFrom ·))) = true := by kernel_rfl
theorem k23 : ((Rows.fnExactKeysWithPrefixRow.plainKeys == Tryz.prog.plainKeys)) = true := by kernel_rfl
theorem k24 : (Rows.fnExactKeysWithPrefixRow.shortTexts.isNone) = true := by kernel_rfl
theorem k25 : (Tryz.prog.stopsHeard) = true := by kernel_rfl
theorem k26 : (Tryz.prog.mayEnter) = true := by kernel_rfl
theorem k27 : ((Rows.fnExactKeysWithPrefixRow.lifted == Tryz.prog.liftsFinal)) = true := by kernel_rfl
theorem k28 : ((Tryz.prog.make == some Rows.fnExactKeysWithPrefixRow.make)) = true := by kernel_rfl
theorem k29 : ((Rows.fnExactKeysWithPrefixRow.kinds == (if Rows.fnExactKeysWithPrefixRow.domain.isEmpty then [] else Tryz.f12.params.toList.map fun t => match Tryz.prog.underlying t with | some (.int k) => some k | _ => none))) = true := by kernel_rfl
theorem k30 : ((Rows.fnExactKeysWithPrefixRow.pinned == Rows.fnExactKeysWithPrefixRow.pinnedBy)) = true := by kernel_rfl
theorem k31 : ((Rows.fnExactKeysWithPrefixRow.veiled == (Tryz.f12.params.toList ++ Rows.fnExactKeysWithPrefixSpec.plain.varTypes Tryz.prog ++ Tryz.f12.resultTypes.toList).any (Tryz.prog.veiledRec ·))) = true := by kernel_rfl
theorem k32 : (Rows.fnExactKeysWithPrefixRow.veiledFits Tryz.prog Tryz.f12.params.toList (Tryz.f12.params.toList ++ Rows.fnExactKeysWithPrefixSpec.plain.varTypes Tryz.prog ++ Tryz.f12.resultTypes.toList)) = true := by kernel_rfl
end Go.Proofs.YtiklnoodcgippaaGreat.fnExactKeysWithPrefix
namespace Go.Proofs.YtiklnoodcgippaaGreat.fnExactKeysWithPrefix
theorem and2 {a b : Bool} (h1 : a = true) (h2 : b = true) : (a && b) = true := by rw [h1, h2]; rfl
set_option maxRecDepth 100000 in
theorem closed : joinedFacts Tryz.prog 12 Tryz.f12 Rows.fnExactKeysWithPrefixSpec Rows.fnExactKeysWithPrefixRow = true := by
  unfold joinedFacts
  exact and2 (and2 (and2 (and2 (and2 (and2 (and2 (and2 (and2 (and2 (and2 (and2 (and2 (and2 (and2 (and2 (and2 (and2 (and2 (and2 (and2 (and2 (and2 (and2 (and2 (and2 (and2 (and2 (and2 (and2 (and2 k1 k2) k3) k4) k5) k6) k7) k8) k9) k10) k11) k12) k13) k14) k15) k16) k17) k18) k19) k20) k21) k22) k23) k24) k25) k26) k27) k28) k29) k30) k31) k32
end Go.Proofs.YtiklnoodcgippaaGreat.fnExactKeysWithPrefix
