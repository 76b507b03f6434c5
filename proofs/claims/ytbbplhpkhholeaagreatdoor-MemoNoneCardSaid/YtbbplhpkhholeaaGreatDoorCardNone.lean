/- MemoNone: for every input the law answers true, on the tied card: the three listed tables hold what the text lays. -/
import Derived.Test.YtbbplhpkhholeaaGreatDoorCards
import Derived.Test.YtbbplhpkhholeaaGreatDoorTie
import Derived.Test.YtbbplhpkhholeaaGreatDoorLawNone
import Derived.ProofKit
import Derived.OpenShut
import Derived.Deep.DeepHandedRow
import Derived.Lib.LaidTab
import Derived.LaidMore
import Derived.Stop.Joined
set_option linter.unusedVariables false
set_option maxRecDepth 100000
namespace Go.Proofs.YtbbplhpkhholeaaGreatDoor.MemoNone
open Go.ChangeShapes Go.WideShapes Go.ChangeAt Go.RowKit

theorem own : ownKnob Tryz.prog.godebug = none := by kernel_rfl
theorem contract (H : Type) (enc : TypeId × Value → H) (W : World) (base : Nat) (args : Array Value) (ds gs : List (DataW H)) (before : List MemPlace)
    (hval : ∀ (j : Nat) t v, Tryz.f6.params[j]? = some t → args[j]? = some v → Value.okWide Tryz.prog W .any base t v)
    (hW : DataW.Whole enc Tryz.prog Tryz.f6.params.toList Rows.memoNoneSpec.vars false W args.toList ds gs before) :
    Calls Tryz.prog 6 args W fun e W' => ∃ v, e = .returned v ∧ Rows.memoNoneSpec.post enc Tryz.prog Tryz.f6 false true false false W args v W' := by
  have hW' := hW
  obtain ⟨p, q, hA0, hV, rfl, hfz, hnd⟩ := hW
  have hA : DataW.TrodAll enc Tryz.prog W 0 (fun _ => true) true Tryz.f6.params.toList args.toList ds p := hA0
  rw [Tryz.params6] at hA hval
  obtain ⟨v0, vs0, d0, ds0, p0, q0, hargs, rfl, rfl, h0, r0⟩ := trodAll_cons hA
  obtain ⟨v1, vs1, d1, ds1, p1, q1, rfl, rfl, rfl, h1, r1⟩ := trodAll_cons r0
  obtain ⟨rfl, rfl, rfl⟩ := trodAll_nil r1
  obtain rfl : args = #[v0, v1] := by cases args; simp_all
  obtain ⟨rfl, rfl⟩ := trodVars_none hV
  have ok0 := hval 0 35 v0 rfl rfl
  have ok1 := hval 1 68 v1 rfl rfl
  obtain ⟨key, rfl, rfl, rfl, wkey⟩ := open_int Tryz.underlying35 ok0 h0
  obtain ⟨cs, rfl, hcs⟩ := okWide_struct Tryz.underlying68 ok1
  have c68 : Tryz.prog.cellsOf 68 = 2 := by kernel_rfl
  have c35 : Tryz.prog.cellsOf 35 = 1 := by kernel_rfl
  rw [c68] at hcs
  obtain ⟨l⟩ := cs
  match l, hcs with
  | [x, y], _ =>
    obtain ⟨fuel, hf⟩ := h1
    obtain ⟨y0, y1, n, e, hl, t0, t1⟩ := trod_struct2 Tryz.underlying68 hf
    simp only [c35, Value.cells, List.drop, List.take] at t0 t1
    obtain ⟨a, ha, rfl, wa⟩ := DataW.trod_int Tryz.underlying35 t0
    obtain ⟨b, hb, rfl, wb⟩ := DataW.trod_int Tryz.underlying35 t1
    simp only [List.cons.injEq, and_true] at ha hb
    subst ha hb
    simp only [Prod.mk.injEq, List.append_nil] at e
    obtain ⟨rfl, rfl⟩ := e
    refine (law_none W key a b).mono fun e W' ⟨he, hB⟩ => ?_
    subst he
    refine ⟨_, rfl, ?_⟩
    have hpair : ∀ (sp : Nat → Bool), DataW.Trod enc Tryz.prog W' 0 sp true 68 (.agg #[.int .u64 a, .int .u64 b]) (.agg [.lit (.int .u64 a), .lit (.int .u64 b)]) [] := fun sp =>
      ⟨2, trod_struct2_mk (y0 := (.lit (.int .u64 a), [])) (y1 := (.lit (.int .u64 b), [])) Tryz.underlying68 (by rw [c68]; rfl) (by simpa [c35, Value.cells] using trod_int_mk 0 Tryz.underlying35 wa) (by simpa [c35, Value.cells] using trod_int_mk 0 Tryz.underlying35 wb)⟩
    have hargs : ∀ (sp : Nat → Bool), DataW.TrodAll enc Tryz.prog W' 0 sp true [35, 68] [.int .u64 key, .agg #[.int .u64 a, .int .u64 b]] [.lit (.int .u64 key), .agg [.lit (.int .u64 a), .lit (.int .u64 b)]] [] := fun sp =>
      trodAll_cons_mk (shut_int Tryz.underlying35 wkey) (trodAll_cons_mk (hpair sp) trodAll_mk0)
    have hres : ∀ (bb : Nat) (sp : Nat → Bool) (hd : Bool), DataW.TrodAll enc Tryz.prog W' bb sp hd [4] [.bool true] [.lit (.bool true)] [] := fun bb sp hd =>
      trodAll_cons_mk (shut_bool Tryz.underlying4 _) trodAll_mk0
    refine ⟨_, _, _, [], [], [], hW', hres _ _ _, hargs _, rfl, hB.frame _, fun _ => ⟨ok_one (by kernel_rfl) rfl (okWide_bool_mk Tryz.underlying4 _), _, [], [], ⟨[], [], trodAll_append (hargs _) (hres _ _ _), rfl, rfl, fun bq off hp => by simp at hp, fun h => by cases h⟩, fun p hp => by simp at hp⟩⟩

noncomputable def laidWorld (os : Os) : World := World.doorLaid Tryz.prog 4000 os
def wit : Array Value := #[.int .u64 0, .agg #[.int .u64 0, .int .u64 0]]
theorem laid_met (os : Os) : laidMet Tryz.prog Rows.memoNoneRow.laid ((laidWorld os).forCall (fun _ _ => 0) ⟨#[], wit, []⟩).memory :=
  laidMet_of_run' 8 (by kernel_rfl) (by kernel_rfl)
theorem reads (os : Os) {H : Type} (enc : TypeId × Value → H) : ∃ places, DataW.whole enc Tryz.prog ((laidWorld os).forCall (fun _ _ => 0) ⟨#[], wit, []⟩).memory Tryz.f6.params.toList Rows.memoNoneSpec.vars false wit.toList 8 = some ([.lit (.int .u64 0), .agg [.lit (.int .u64 0), .lit (.int .u64 0)]], [], places) :=
  ⟨[], by kernel_rfl⟩
theorem lifted (os : Os) (started : os.Started) (H : Type) (enc : TypeId × Value → H) (F : Stop.Interp) :
    ReturnsInHanded {} Tryz.checked os 6 .any ((OpenSpec.ofChange Rows.memoNoneSpec).preRow enc Tryz.prog Tryz.f6 Rows.memoNoneRow.domain false Rows.memoNoneRow.laid) (((OpenSpec.ofChange Rows.memoNoneSpec).at F).post enc Tryz.prog Tryz.f6 false true false false) := by
  obtain ⟨places, hx⟩ := reads os enc
  refine returnsInHanded_of_row (C := Tryz.checked) (s := OpenSpec.ofChange Rows.memoNoneSpec) own started (by kernel_rfl) Tryz.func6
    (witness_row_at (enc := enc) (C := Tryz.checked) false (laidWorld os) wit rfl (by kernel_rfl) (by kernel_rfl) (by kernel_rfl)
      (OpenSpec.preRow_of_cond 8 hx (by kernel_rfl) (fun k hk => by cases hk) (by kernel_rfl) (laid_met os))) ?_
  intro W base args ds gs before hval hW _ _ _ _ _ _
  exact contract H enc W base args ds gs before hval hW
theorem said : Rows.MemoNoneSaid :=
  OpenClaim.holds_of_cond 6 Tryz.f6 rfl rfl rfl rfl rfl rfl rfl ⟨rfl, rfl, rfl, rfl, rfl⟩ rfl rfl rfl rfl rfl (by kernel_rfl) Tryz.func6 (by kernel_rfl)
    (of_decide_eq_true (by kernel_rfl)) (by unfold Func.isWrapper; first | (rw [if_pos (by decide +kernel)]; kernel_rfl) | (rw [if_neg (by decide +kernel)]; exact ⟨rfl, rfl⟩))
    (fun os started H enc _ F => by rw [OpenClaim.pre_eq_preRow]; exact lifted os started H enc F)
theorem plain (f : FuncId) (fn : Func) (hf : Tryz.pinned.checked.prog.funcNamed "espalier/espalierlaw18.MemoNone" = some f) (hfn : Tryz.pinned.checked.prog.funcs[f]? = some fn) :
    false = Tryz.pinned.checked.prog.looks [] ∧ ∀ (j : Nat) t, fn.params[j]? = some t → Tryz.pinned.checked.prog.wantsStandIn t = false := by
  obtain rfl : f = 6 := Option.some.inj ((show Tryz.prog.funcNamed "espalier/espalierlaw18.MemoNone" = some 6 by kernel_rfl).symm.trans hf) |>.symm
  obtain rfl : fn = Tryz.f6 := (Option.some.inj (Tryz.func6.symm.trans hfn)).symm
  refine ⟨by kernel_rfl, fun j t ht => ?_⟩
  rw [Tryz.params6] at ht
  have hm : t ∈ [35, 68] := by simpa using Array.mem_of_getElem? ht
  have hall : ([35, 68].all fun u => !Tryz.prog.wantsStandIn u) = true := by kernel_rfl
  exact (show Tryz.prog.wantsStandIn t = false by simpa using List.all_eq_true.1 hall t hm)
/-- MemoNone's card. -/
theorem card : Rows.MemoNoneCardSaid :=
  Claim7.holds_tied_plain_at .later [] _ _ _ _ said (fun _ h => by cases h) (by kernel_rfl) (fun _ h => by cases h) memoNone_row_tie rfl ⟨rfl, rfl⟩ (by kernel_rfl) rfl plain (by kernel_rfl)
end Go.Proofs.YtbbplhpkhholeaaGreatDoor.MemoNone
