/- The closed facts that the row of ClientNone asks of the program, each by itself. No condition. -/
import Derived.Test.YthlkmfeelhbhjaaGreatDoorFactsQ
import Derived.Test.YthlkmfeelhbhjaaGreatDoorRows
import Derived.JoinedOf
import Derived.KernelRfl
set_option linter.unusedVariables false
set_option linter.unusedSimpArgs false
noncomputable section
namespace Go.Proofs.YthlkmfeelhbhjaaGreatDoor
open Go Go.Hg
set_option maxRecDepth 1000000
theorem inPlace_is' : Tryz.pinned.checked.prog.inPlace 3 = ["internal/bytealg.IndexByteString", "internal/bytealg.IndexString", "internal/bytealg.CountString", "slices.overlaps[hedgerow/api.Named]", "slices.overlaps[hedgerow/api.Put]"] := inPlace_is
theorem unfollowed_is' : Tryz.pinned.checked.prog.unfollowed 3 = true := unfollowed_is
theorem recurses_is' : Tryz.pinned.checked.prog.recurses 3 = true := recurses_is
theorem vars_is' : Tryz.pinned.checked.prog.varsNamed 3 = ["internal/bytealg.MaxLen", "unicode/utf8.first", "unicode/utf8.acceptRanges", "math/bits.deBruijn64tab"] := vars_is
theorem goes_is : Rows.clientNoneRow.goesBy Tryz.pinned.checked.prog = false := goesBy_of Tryz.prog noGo rfl
theorem andT {a b : Bool} (h : a = true) (k : b = true) : (a && b) = true := by rw [h, k]; rfl
theorem fact0 : Rows.clientNoneRow.wf (OpenSpec.ofChange Rows.clientNoneSpec) = true := by kernel_rfl
theorem fact1 : laidOutB Tryz.pinned.checked.prog = true := laid_is
theorem fact2 : mapsRowed Tryz.pinned.checked.prog = true := by kernel_rfl
theorem fact3 : Tryz.f3.params.all (Tryz.pinned.checked.prog.readableRec ·) = true := by kernel_rfl
theorem fact4 : namedTie Tryz.pinned.checked.prog Rows.clientNoneRow.named Rows.clientNoneSpec.vars = true := by kernel_rfl
theorem fact5 : (Rows.clientNoneRow.stops == []) = true := by kernel_rfl
theorem fact6 : (Tryz.pinned.checked.prog.stops == []) = true := by kernel_rfl
theorem fact7 : (Rows.clientNoneRow.knobs == []) = true := by kernel_rfl
theorem fact8 : (Tryz.pinned.checked.prog.stopKnobs == []) = true := by kernel_rfl
theorem fact9 : (Rows.clientNoneRow.inPlace == Tryz.pinned.checked.prog.inPlace 3) = true := by rw [inPlace_is']; kernel_rfl
theorem fact10 : (Rows.clientNoneRow.unfollowed == Tryz.pinned.checked.prog.unfollowed 3) = true := by rw [unfollowed_is']; kernel_rfl
theorem fact11 : (Rows.clientNoneRow.recurses == Tryz.pinned.checked.prog.recurses 3) = true := by rw [recurses_is']; kernel_rfl
theorem fact12 : (Rows.clientNoneRow.named == Tryz.pinned.checked.prog.varsNamed 3) = true := by rw [vars_is']; kernel_rfl
theorem fact13 : (Rows.clientNoneRow.maps == (Tryz.f3.params.toList ++ Rows.clientNoneSpec.plain.varTypes Tryz.pinned.checked.prog).any (Tryz.pinned.checked.prog.mapsRec ·)) = true := by kernel_rfl
theorem fact14 : (Rows.clientNoneRow.ifaces == (Tryz.f3.params.toList ++ Rows.clientNoneSpec.plain.varTypes Tryz.pinned.checked.prog).any (Tryz.pinned.checked.prog.ifacesRec ·)) = true := by kernel_rfl
theorem fact15 : (Rows.clientNoneRow.mapsOut == Tryz.pinned.checked.prog.mapsAmong Tryz.f3.resultTypes.toList) = true := by kernel_rfl
theorem fact16 : (Rows.clientNoneRow.loops == (Tryz.f3.params.toList ++ Rows.clientNoneSpec.plain.varTypes Tryz.pinned.checked.prog).any (Tryz.pinned.checked.prog.loopsFrom ·)) = true := by kernel_rfl
theorem fact17 : (Rows.clientNoneRow.wideKeys == (Tryz.f3.params.toList ++ Rows.clientNoneSpec.plain.varTypes Tryz.pinned.checked.prog ++ Tryz.f3.resultTypes.toList).any (Tryz.pinned.checked.prog.wideKeysFrom ·)) = true := by kernel_rfl
theorem fact18 : Rows.clientNoneSpec.vars.all (Tryz.pinned.checked.prog.varReadable ·) = true := by kernel_rfl
theorem fact19 : Tryz.f3.resultTypes.all (fun t => Tryz.pinned.checked.prog.readableRec t && decide (t < Tryz.pinned.checked.prog.types.size)) = true := by kernel_rfl
theorem fact20 : (Rows.clientNoneRow.ifacesOut == Tryz.f3.resultTypes.toList.any (Tryz.pinned.checked.prog.ifacesRec ·)) = true := by kernel_rfl
theorem fact21 : (Rows.clientNoneRow.loopsOut == Tryz.f3.resultTypes.toList.any (Tryz.pinned.checked.prog.loopsFrom ·)) = true := by kernel_rfl
theorem fact22 : (Rows.clientNoneRow.plainKeys == Tryz.pinned.checked.prog.plainKeys) = true := by kernel_rfl
theorem fact23 : Rows.clientNoneRow.shortTexts.isNone = true := by kernel_rfl
theorem fact24 : Tryz.pinned.checked.prog.stopsHeard = true := by kernel_rfl
theorem fact25 : Tryz.pinned.checked.prog.mayEnter = true := by kernel_rfl
theorem fact26 : (Rows.clientNoneRow.lifted == Tryz.pinned.checked.prog.liftsFinal) = true := by kernel_rfl
theorem fact27 : (Tryz.pinned.checked.prog.make == some Rows.clientNoneRow.make) = true := by kernel_rfl
theorem fact28 : (Rows.clientNoneRow.kinds == (if Rows.clientNoneRow.domain.isEmpty then [] else Tryz.f3.params.toList.map fun t => match Tryz.pinned.checked.prog.underlying t with | some (.int k) => some k | _ => none)) = true := by kernel_rfl
theorem fact29 : (Rows.clientNoneRow.pinned == Rows.clientNoneRow.pinnedBy) = true := by kernel_rfl
theorem fact30 : (Rows.clientNoneRow.veiled == (Tryz.f3.params.toList ++ Rows.clientNoneSpec.plain.varTypes Tryz.pinned.checked.prog ++ Tryz.f3.resultTypes.toList).any (Tryz.pinned.checked.prog.veiledRec ·)) = true := by kernel_rfl
theorem fact31 : Rows.clientNoneRow.veiledFits Tryz.pinned.checked.prog Tryz.f3.params.toList (Tryz.f3.params.toList ++ Rows.clientNoneSpec.plain.varTypes Tryz.pinned.checked.prog ++ Tryz.f3.resultTypes.toList) = true := by kernel_rfl
theorem facts : joinedFacts Tryz.pinned.checked.prog 3 Tryz.f3 Rows.clientNoneSpec Rows.clientNoneRow = true := (andT (andT (andT (andT (andT (andT (andT (andT (andT (andT (andT (andT (andT (andT (andT (andT (andT (andT (andT (andT (andT (andT (andT (andT (andT (andT (andT (andT (andT (andT (andT fact0 fact1) fact2) fact3) fact4) fact5) fact6) fact7) fact8) fact9) fact10) fact11) fact12) fact13) fact14) fact15) fact16) fact17) fact18) fact19) fact20) fact21) fact22) fact23) fact24) fact25) fact26) fact27) fact28) fact29) fact30) fact31)
end Go.Proofs.YthlkmfeelhbhjaaGreatDoor
