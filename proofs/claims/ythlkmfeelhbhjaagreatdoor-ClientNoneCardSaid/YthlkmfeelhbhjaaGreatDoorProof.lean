/-
  ClientNone (hedgerowlaw26) returns true, whatever number it is given: the row, and its card, whose three tables of Go's library (unicode/utf8.first, unicode/utf8.acceptRanges, math/bits.deBruijn64tab) are tied to the program's text.
-/
import Derived.Test.YthlkmfeelhbhjaaGreatDoorRunsA
import Derived.Test.YthlkmfeelhbhjaaGreatDoorRunsB
import Derived.Test.YthlkmfeelhbhjaaGreatDoorFacts
import Derived.Test.YthlkmfeelhbhjaaGreatDoorCards
import Derived.Test.YthlkmfeelhbhjaaGreatDoorTieQ
import Derived.ProofKit
import Derived.OpenShut
import Derived.LaidMore
import Derived.Lay
import Derived.SevenTiedAt
import Derived.Stop.Joined
set_option linter.unusedVariables false
set_option linter.unusedSimpArgs false
namespace Go.Proofs.YthlkmfeelhbhjaaGreatDoor
open Go.ChangeShapes Go.WideShapes Go.ChangeAt Go.RowKit
open Go.Hg (FnS fnS_of_run oracleS_none oneTrue oneTrue_sound oneTrue_other OracleS engQ retB empty)

theorem own : ownKnob Tryz.prog.godebug = none := by kernel_rfl

/-- Nothing of what was there turns: a law of plain arguments that read no memory holds behind a call that has laid blocks of its own. -/
theorem post_of_new {H : Type} {enc : TypeId × Value → H} {P : Program} {f : Func} {s : ChangeSpec} {apart fresh handsOn again : Bool} {W W' : World} {args : Array Value} {v : Value} {ds gs : List (DataW H)}
    (hW : DataW.Whole enc P f.params.toList s.vars apart W args.toList ds gs [])
    (hres : ∀ (b : Nat) (sp : Nat → Bool) (hd : Bool), DataW.TrodAll enc P W' b sp hd f.resultTypes.toList (v.resultList f.resultTypes.size) (s.fn H (ds ++ gs)).results [])
    (hargs : ∀ sp : Nat → Bool, DataW.TrodAll enc P W' 0 sp true f.params.toList args.toList (s.fn H (ds ++ gs)).args [])
    (hvars : ∀ sp : Nat → Bool, DataW.TrodVars enc P W' sp s.vars (s.fn H (ds ++ gs)).vars [])
    (hk : W.keptBut W' (· ∈ ([] : List MemPlace)))
    (hok : ∀ (j : Nat) (t : TypeId) (r : Value), f.resultTypes[j]? = some t → (v.resultList f.resultTypes.size)[j]? = some r → Value.okWide P W' .any 0 t r) :
    s.post enc P f apart fresh handsOn again W args v W' := by
  refine ⟨ds, gs, [], [], [], [], hW, hres _ _ _, hargs _, hvars _, World.keptBut_mono (fun p hp => by cases hp) hk, fun _ => ?_⟩
  exact ⟨hok, _, _, ([] ++ []) ++ [], ⟨[] ++ [], [], trodAll_append (hargs _) (hres _ _ _), hvars _, rfl, fun b off hp => (by cases hp), fun _ => List.nodup_nil⟩, fun p hp _ => by cases hp⟩

theorem works_fn : ∃ s0, FnS Tryz.prog 17 [] empty (.ret (.bool true)) s0 :=
  let ⟨_, hc⟩ := bodyWorks
  fnS_of_run named mixed oracleS_none Tryz.func17 hc (fun _ => rfl) works_run
theorem oracle_ok : OracleS Tryz.prog (oneTrue 17) :=
  let ⟨_, hc⟩ := bodyWorks
  let ⟨_, h⟩ := works_fn
  oneTrue_sound Tryz.func17 hc h

/-- Whatever the number. -/
theorem law_fn (n : Int) : ∃ s0, FnS Tryz.prog 3 [.int .i64 n] empty (.ret (.bool true)) s0 := by
  obtain ⟨c, hc⟩ := bodyLaw
  have gen : ∀ m : Int, retB ((engQ Tryz.prog (oneTrue 17) 100000).call (.fn 3 [.int .i64 m]) .nil 0) = true → ∃ s0, FnS Tryz.prog 3 [.int .i64 m] empty (.ret (.bool true)) s0 :=
    fun m h => fnS_of_run named mixed oracle_ok Tryz.func3 hc (fun s => oneTrue_other rfl _ s) h
  cases n with
  | negSucc k => exact gen _ (run_neg k)
  | ofNat k =>
    match k with
    | 0 => exact gen _ run_0
    | 1 => exact gen _ run_1
    | 2 => exact gen _ run_2
    | 3 => exact gen _ run_3
    | 4 => exact gen _ run_4
    | 5 => exact gen _ run_5
    | 6 => exact gen _ run_6
    | 7 => exact gen _ run_7
    | k + 8 => exact gen _ (run_big k)

/-- The call, in whatever world. -/
theorem law_any (n : Int) (W : World) : Calls Tryz.prog 3 #[.int .i64 n] W fun e w' => e = .returned (.bool true) ∧ W.heap.size ≤ w'.heap.size ∧ (∀ b, b < W.heap.size → w'.heap[b]? = W.heap[b]?) ∧ w'.os = W.os ∧ w'.output = W.output ∧ w'.tape = W.tape :=
  let ⟨_, h⟩ := law_fn n
  h.contract rfl rfl W

theorem kept {W W' : World} (hos : W'.os = W.os) (hout : W'.output = W.output) (hk : ∀ b, b < W.heap.size → W'.heap[b]? = W.heap[b]?) (may : MemPlace → Prop) : W.keptBut W' may := by
  refine ⟨hos, hout, fun i hi => ?_⟩
  rw [hk i hi]
  cases W.heap[i]? with
  | none => rfl
  | some o => cases o <;> first | exact ⟨rfl, rfl, rfl, fun _ _ => rfl⟩ | exact .inr ⟨rfl, rfl⟩ | rfl

set_option maxRecDepth 100000 in
theorem lifted (os : Os) (started : os.Started) (H : Type) (enc : TypeId × Value → H) :
    ReturnsInHanded {} Tryz.checked os 3 .any (fun w args => (Rows.clientNoneSpec.pre enc Tryz.prog Tryz.f3 Rows.clientNoneRow.domain false w args ∧ laidMetH Tryz.prog Rows.clientNoneRow.laid w) ∧ sizedMet enc Tryz.prog Tryz.f3 (OpenSpec.ofChange Rows.clientNoneSpec) false w args)
      (Rows.clientNoneSpec.post enc Tryz.prog Tryz.f3 false true false false) := by
  refine returnsInHanded_of_change_and (C := Tryz.checked) (X := fun w _ => laidMetH Tryz.prog Rows.clientNoneRow.laid w) (fun _ _ _ hh h => h.of_heap hh) own started (by kernel_rfl) Tryz.func3
    (ChangeSpec.witness_shaped (enc := enc) (C := Tryz.checked) (os := os) (X := fun w _ => laidMetH Tryz.prog Rows.clientNoneRow.laid w) false (World.laidAll Tryz.prog os Rows.clientNoneRow.laid) #[.int .i64 0] 8 (World.laidAll_os _ _ _)
      (World.shaped_of_ZipB (by kernel_rfl) (by kernel_rfl)) (by kernel_rfl) (by kernel_rfl) (by kernel_rfl)
      (by rw [MakeChecks.laidMetH_plain _ _ _ (by kernel_rfl)]; exact laidMet_laidAll _ (by kernel_rfl) (by kernel_rfl))) ?_
  intro W base args ds gs before hval0 hW hc _ hL _
  have hval : ∀ (j : Nat) t v, Tryz.f3.params[j]? = some t → args[j]? = some v → Value.okWide Tryz.prog W .any base t v := hval0
  have hW' := hW
  obtain ⟨p, q, hA0, hV, rfl, _, _⟩ := hW
  have hA : DataW.TrodAll enc Tryz.prog W 0 (fun _ => true) true Tryz.f3.params.toList args.toList ds p := hA0
  rw [Tryz.params3] at hA hval
  obtain ⟨v0, d0, rfl, rfl, h0⟩ := trodAll_one hA
  obtain ⟨rfl, rfl⟩ := trodVars_none hV
  obtain ⟨x, rfl, rfl, rfl, wx⟩ := open_int Tryz.underlying3 (hval 0 3 v0 rfl rfl) h0
  simp only [List.append_nil] at hW'
  refine (law_any x W).mono fun e W' ⟨he, _, hkeep, hos, hout, _⟩ => ?_
  subst he
  exact ⟨_, rfl, post_of_new hW' (fun _ _ _ => trodAll_mk1 (shut_bool Tryz.underlying4 _)) (fun sp => trodAll_mk1 (shut_int Tryz.underlying3 wx)) (fun _ => rfl) (kept hos hout hkeep _) (ok_one (by kernel_rfl) rfl (okWide_bool_mk Tryz.underlying4 _))⟩

theorem func_is : Tryz.prog.funcNamed "hedgerow/hedgerowlaw26.ClientNone" = some 3 := by kernel_rfl
theorem clientNone_holds : Rows.ClientNoneSaid :=
  OpenClaim.holds_of_wide 3 Tryz.f3 rfl rfl rfl rfl rfl rfl rfl ⟨rfl, rfl, rfl, rfl, rfl⟩ rfl rfl rfl rfl rfl func_is Tryz.func3 facts
    (of_decide_eq_true (by kernel_rfl)) (by unfold Func.isWrapper; first | (rw [if_pos (by decide +kernel)]; kernel_rfl) | (rw [if_neg (by decide +kernel)]; exact ⟨rfl, rfl⟩))
    (fun os started H enc _ => lifted os started H enc)

theorem main_is : Tryz.prog.mainIs = some (true, "22346a3276a3ecd641d3a52cab9e7462c354df1275329c6b6c51911c35dc53f4".toList) := by kernel_rfl
theorem text_wf : Rows.clientNoneRow.wfByText (OpenSpec.ofChange Rows.clientNoneSpec) = true := by kernel_rfl
theorem clientNone_card : Rows.ClientNoneCardSaid :=
  Claim7.holds_tied_plain_at .later [] [.pinned, .data, .data] true (true, "22346a3276a3ecd641d3a52cab9e7462c354df1275329c6b6c51911c35dc53f4") true clientNone_holds (fun _ h => by cases h) text_wf (fun _ h => by cases h) row_tie rfl ⟨rfl, rfl⟩ main_is rfl
    (fun f fn hf hfn => by
      obtain rfl : f = 3 := Option.some.inj (func_is.symm.trans hf) |>.symm
      obtain rfl : fn = Tryz.f3 := (Option.some.inj (Tryz.func3.symm.trans hfn)).symm
      exact ⟨looks_is.symm, fun j t ht => by
        rw [Tryz.params3] at ht
        have hm : t ∈ [3] := by simpa using Array.mem_of_getElem? ht
        have hall : ([3].all fun u => !Tryz.prog.wantsStandIn u) = true := by kernel_rfl
        exact (show Tryz.prog.wantsStandIn t = false by simpa using List.all_eq_true.1 hall t hm)⟩)
    goes_is.symm
#print axioms clientNone_card
end Go.Proofs.YthlkmfeelhbhjaaGreatDoor
