/- QuotaRemovingExcessSuffices: the row's statement (UptoSaid). No condition beyond the statement's own bulk. -/
import Derived.Test.YtbempckmbfbjgaaBk
import Derived.Test.YtbempckmbfbjgaaL2
set_option linter.unusedVariables false
set_option linter.unusedSimpArgs false
set_option linter.constructorNameAsVariable false
set_option linter.unnecessarySimpa false
namespace Go.Proofs.Ytbempckmbfbjgaa.quotaRemovingExcessSuffices
open Go.ChangeShapes Go.WideShapes Go.ChangeAt Go.RowKit Go.Ev
set_option maxRecDepth 100000

theorem own : ownKnob Try.prog.godebug = none := by kernel_rfl
theorem laid : laidOutB Try.prog = true := by kernel_rfl
theorem reads : ∀ t, t ∈ Try.f4.params.toList → Try.prog.readableRec t = true ∧ t < Try.prog.types.size := by
  rw [Try.params4]
  intro t ht
  simp only [List.mem_cons, List.not_mem_nil, or_false] at ht
  rcases ht with rfl | rfl <;> exact ⟨by kernel_rfl, of_decide_eq_true (by kernel_rfl)⟩

theorem contract (H : Type) (enc : TypeId × Value → H) (W : World) (base : Nat) (args : Array Value) (ds gs : List (DataW H)) (before : List MemPlace)
    (hval : ∀ (j : Nat) t v, Try.f4.params[j]? = some t → args[j]? = some v → Value.okWide Try.prog W .any base t v)
    (hW : DataW.Whole enc Try.prog Try.f4.params.toList Rows.quotaRemovingExcessSufficesSpec.vars false W args.toList ds gs before)
    (hk : Rows.uptoSmall H (ds ++ gs) = true) :
    Calls Try.prog 4 args W fun e W' => ∃ v, e = .returned v ∧ Rows.quotaRemovingExcessSufficesSpec.post enc Try.prog Try.f4 false true false false W args v W' := by
  have hW' := hW
  obtain ⟨p, q, hA, hV, rfl, hfz, hnd⟩ := hW
  rw [Try.params4] at hA hval
  obtain ⟨rfl, rfl⟩ := trodVars_none hV
  obtain ⟨v0, vs0, d0, ds0, p0, q0, hargs, rfl, rfl, h0, r0⟩ := trodAll_cons hA
  obtain ⟨v1, vs1, d1, ds1, p1, q1, rfl, rfl, rfl, h1, r1⟩ := trodAll_cons r0
  obtain ⟨rfl, rfl, rfl⟩ := trodAll_nil r1
  obtain rfl : args = #[v0, v1] := by cases args; simp_all
  obtain ⟨ts0, o0, R0, z0⟩ := arg_struct Try.underlying25 (hval 0 25 v0 rfl rfl) h0 (by kernel_rfl)
  obtain ⟨ts1, o1, R1, z1⟩ := arg_struct Try.underlying27 (hval 1 27 v1 rfl rfl) h1 (by kernel_rfl)
  obtain ⟨m, rfl⟩ := t25 o0
  obtain ⟨l, rfl⟩ := t27 o1
  have hb := of_decide_eq_true hk
  simp only [List.append_nil, Rows.uptoBulkAll] at hb
  have hm : m.small := Box.size z0 (by omega)
  have hrun := (cz_sound 1000000000000 (30 + 2) 4 [m.sv, l.sv] [] _ (law4 m l hm (Nat.le_refl 30) (Nat.le_refl _))).2
  have hall : All2 (RepSV W (fun b => b < W.heap.size) (fun _ => none)) [m.sv, l.sv] (#[v0, v1] : Array Value).toList := ⟨R0 _, R1 _, trivial⟩
  refine (run_true hrun hall).mono ?_
  rintro e W' ⟨rfl, hB⟩
  exact ⟨_, rfl, post_true laid reads rfl (by kernel_rfl) Try.underlying4 hW' rfl hB⟩

theorem lifted (os : Os) (started : os.Started) (H : Type) (enc : TypeId × Value → H) (F : Stop.Interp) :
    ReturnsInHanded {} Try.checked os 4 .any ((Rows.OpenSpec.upto Rows.quotaRemovingExcessSufficesSpec).pre6 enc Try.prog Try.f4 Rows.quotaRemovingExcessSufficesUptoRow.domain false) (((Rows.OpenSpec.upto Rows.quotaRemovingExcessSufficesSpec).at F).post enc Try.prog Try.f4 false true false false) := by
  refine returnsInHanded_of_cond (C := Try.checked) (s := Rows.OpenSpec.upto Rows.quotaRemovingExcessSufficesSpec) (k := Rows.uptoSmall) rfl own started (by kernel_rfl) Try.func4
    (OpenSpec.witness (enc := enc) (C := Try.checked) (s := Rows.OpenSpec.upto Rows.quotaRemovingExcessSufficesSpec) (k := Rows.uptoSmall) rfl false ⟨#[], #[.agg #[.int .i64 0, .int .i64 0, .int .i64 0, .slice none 0 0, .slice none 0 0], .agg #[.int .i64 0, .int .i64 0]], []⟩ 8 (by kernel_rfl) (by kernel_rfl) (by kernel_rfl)
      (x := ([.agg [.lit (.int .i64 0), .lit (.int .i64 0), .lit (.int .i64 0), .nil, .nil], .agg [.lit (.int .i64 0), .lit (.int .i64 0)]], [], [])) (by kernel_rfl) rfl (by kernel_rfl)) ?_
  intro W base args ds gs before hval hW _ hk _
  exact contract H enc W base args ds gs before hval hW hk

theorem over : Rows.quotaRemovingExcessSufficesUptoRow.holds Try.pinned (Rows.OpenSpec.upto Rows.quotaRemovingExcessSufficesSpec) :=
  OpenClaim.holds_of_cond 4 Try.f4 rfl rfl rfl rfl rfl rfl rfl ⟨rfl, rfl, rfl, rfl, rfl⟩ rfl rfl rfl rfl rfl (by kernel_rfl) Try.func4 (by kernel_rfl)
    (of_decide_eq_true (by kernel_rfl)) (by unfold Func.isWrapper; first | (rw [if_pos (by decide +kernel)]; kernel_rfl) | (rw [if_neg (by decide +kernel)]; exact ⟨rfl, rfl⟩))
    (fun os started H enc _ F => lifted os started H enc F)

theorem proved : Rows.QuotaRemovingExcessSufficesUptoSaid :=
  over
end Go.Proofs.Ytbempckmbfbjgaa.quotaRemovingExcessSuffices
