/- The summaries of slices.Clone and strings.ContainsAny hold. No condition. -/
import Derived.Test.YtbempckmbfbjgaaBg
import Derived.Laws.Cover3
import Derived.Shelf.Strings.IndexAnyAll
import Derived.Shelf.Small.Utf8
import Derived.WalkMore
import Derived.BigQuiet
set_option linter.unusedVariables false
set_option linter.unusedSimpArgs false
set_option linter.constructorNameAsVariable false
set_option linter.unnecessarySimpa false
namespace Go.Ev
open Go.Proofs.Ytbempckmbfbjgaa.Code
set_option maxRecDepth 100000
theorem wcla (n : Nat) (es : List (List T)) (Q : Out → Prop) : (wpC (fun _ => none) noCall ⟨[],[],[],[(7, [true])]⟩ n (.seq (.region [p (.bsl 5 2 0 [(.int .i64 0), (.int .i64 0)] []), p (.mv 6 (.t 0)), p (.app 7 2 16 (.t 5) (.t 6)), p (.mv 2 (.t 7))] none) .ret) 0 [((.s 4), (.sv (svB false))), ((.s 3), (.sv (svL 2 es))), ((.s 2), (.sv (.c (.one (.nilsl 2))))), ((.s 0), (.sv (svL 2 es)))] Q) = 
 ((0 ≤ 0) ∧
 ((true = true) ∧
 (((((List.length es) * 16) ≤ 140737488355328) ∧
 ((List.length es) ≤ 9223372036854775807)) ∧
 (Q (.ret [((.s 2), (.sv (.c (.one (.own 700 2 0 (List.length es) (List.length es)))))), ((.s 7), (.sv (.c (.one (.own 700 2 0 (List.length es) (List.length es)))))), ((.a 700), (.arr 2 es)), ((.s 6), (.sv (svL 2 es))), ((.s 5), (.sv (.c (.one (.own 500 2 0 0 0))))), ((.s 4), (.sv (svB false))), ((.s 3), (.sv (svL 2 es))), ((.s 0), (.sv (svL 2 es)))]))))) := by kernel_rfl
theorem wclb (n : Nat) (es : List (List T)) (Q : Out → Prop) : (wpC (fun _ => none) noCall ⟨[],[],[],[(7, [true])]⟩ n (.seq (.region [p (.bsl 5 6 0 [(.int .i64 0), (.int .i64 0), (.int .i64 0), (.int .i64 0), (.sl 2 []), (.sl 1 [])] []), p (.mv 6 (.t 0)), p (.app 7 6 80 (.t 5) (.t 6)), p (.mv 2 (.t 7))] none) .ret) 0 [((.s 4), (.sv (svB false))), ((.s 3), (.sv (svL 6 es))), ((.s 2), (.sv (.c (.one (.nilsl 6))))), ((.s 0), (.sv (svL 6 es)))] Q) = 
 ((0 ≤ 0) ∧
 ((true = true) ∧
 (((((List.length es) * 80) ≤ 140737488355328) ∧
 ((List.length es) ≤ 9223372036854775807)) ∧
 (Q (.ret [((.s 2), (.sv (.c (.one (.own 700 6 0 (List.length es) (List.length es)))))), ((.s 7), (.sv (.c (.one (.own 700 6 0 (List.length es) (List.length es)))))), ((.a 700), (.arr 6 es)), ((.s 6), (.sv (svL 6 es))), ((.s 5), (.sv (.c (.one (.own 500 6 0 0 0))))), ((.s 4), (.sv (svB false))), ((.s 3), (.sv (svL 6 es))), ((.s 0), (.sv (svL 6 es)))]))))) := by kernel_rfl
theorem wclc (n : Nat) (es : List (List T)) (Q : Out → Prop) : (wpC (fun _ => none) noCall ⟨[],[],[],[(7, [true])]⟩ n (.seq (.region [p (.bsl 5 2 0 [(.str []), (.str [])] []), p (.mv 6 (.t 0)), p (.app 7 2 32 (.t 5) (.t 6)), p (.mv 2 (.t 7))] none) .ret) 0 [((.s 4), (.sv (svB false))), ((.s 3), (.sv (svL 2 es))), ((.s 2), (.sv (.c (.one (.nilsl 2))))), ((.s 0), (.sv (svL 2 es)))] Q) = 
 ((0 ≤ 0) ∧
 ((true = true) ∧
 (((((List.length es) * 32) ≤ 140737488355328) ∧
 ((List.length es) ≤ 9223372036854775807)) ∧
 (Q (.ret [((.s 2), (.sv (.c (.one (.own 700 2 0 (List.length es) (List.length es)))))), ((.s 7), (.sv (.c (.one (.own 700 2 0 (List.length es) (List.length es)))))), ((.a 700), (.arr 2 es)), ((.s 6), (.sv (svL 2 es))), ((.s 5), (.sv (.c (.one (.own 500 2 0 0 0))))), ((.s 4), (.sv (svB false))), ((.s 3), (.sv (svL 2 es))), ((.s 0), (.sv (svL 2 es)))]))))) := by kernel_rfl
theorem wcld (n : Nat) (es : List (List T)) (Q : Out → Prop) : (wpC (fun _ => none) noCall ⟨[],[],[],[(7, [true])]⟩ n (.seq (.region [p (.bsl 5 1 0 [(.int .u8 0)] []), p (.mv 6 (.t 0)), p (.app 7 1 1 (.t 5) (.t 6)), p (.mv 2 (.t 7))] none) .ret) 0 [((.s 4), (.sv (svB false))), ((.s 3), (.sv (svL 1 es))), ((.s 2), (.sv (.c (.one (.nilsl 1))))), ((.s 0), (.sv (svL 1 es)))] Q) = 
 ((0 ≤ 0) ∧
 ((true = true) ∧
 (((((List.length es) * 1) ≤ 140737488355328) ∧
 ((List.length es) ≤ 9223372036854775807)) ∧
 (Q (.ret [((.s 2), (.sv (.c (.one (.own 700 1 0 (List.length es) (List.length es)))))), ((.s 7), (.sv (.c (.one (.own 700 1 0 (List.length es) (List.length es)))))), ((.a 700), (.arr 1 es)), ((.s 6), (.sv (svL 1 es))), ((.s 5), (.sv (.c (.one (.own 500 1 0 0 0))))), ((.s 4), (.sv (svB false))), ((.s 3), (.sv (svL 1 es))), ((.s 0), (.sv (svL 1 es)))]))))) := by kernel_rfl

end Go.Ev

namespace Go.Ev
set_option maxRecDepth 100000
abbrev S00 : Sum := fun _ => none
theorem noCall_sound (P : Program) : CallSound P noCall := fun _ _ _ _ h => by cases h
theorem S00_sound (P : Program) : SumSound P S00 := fun _ _ _ _ _ h => by cases h
section
variable {P : Program}
theorem nil_test {w : World} {a : Act} {o : Oper} {t e : TypeId} {x : Operand} {z} {ad : Option Addr} {len cap : Nat} (hop : o.op = .binOp .eql t x (.const (.slice none 0 0)) z) (ht : P.underlying t = some (.slice e)) (hx : a.eval x = .slice ad len cap) :
    (execOp a.eval o).run P w = .ok (.value (.bool ad.isNone)) w := by
  refine exec_bin hop ?_ ?_
  · rw [hx]
    exact eqGuard_scalar (by intro _ _ h; cases h) (by intro h; cases h)
  · rw [hx]
    have he : a.eval (.const (.slice none 0 0)) = .slice none 0 0 := rfl
    rw [he]
    have h := run_equalIn_slice_nil (P := P) w 9999 t e ad len cap ht
    have hb : binOp .eql t (.slice ad len cap) (.slice none 0 0) = (do pure (.bool (← Op.equal t (.slice ad len cap) (.slice none 0 0)))) := rfl
    rw [hb, Sem.run_bind]
    show Result.andThen ((Op.equalIn (9999 + 1) t (.slice ad len cap) (.slice none 0 0)).run P w) _ = _
    rw [h]
    rfl
/-- what a function leaves, from a state that its run ends in -/
theorem leave_at {fn : Func} {fc : FnC} {vs : List SV} {args : List Value} {w : World} {I : Nat → Prop} {β : Beta} {r : CRes} (hp : Pre w I β vs [] args) (e3 : rvsOf P fn.results.toList = some fc.res)
    (L : St) (a' : Act) (w' : World) (hmk : Mk (slotsOf 0 vs ++ memsOf 0 []) L) (hr : R ⟨fn.ntmps, w, handed [] β, I, β⟩ L.get a' w') (hl : leaveFn fc [] L = some r) :
    a'.defers = [] ∧ ∃ v, (results fn a'.tmps).run P w' = .ok v w' ∧ ∃ v' β' I', Ending.returned v = .returned v' ∧ Left w I β [] r v' w' β' I' := by
  obtain ⟨β1, I1, hr⟩ := hr
  refine ⟨hr.defers, ?_⟩
  unfold leaveFn at hl
  split at hl
  · rename_i cvs back h1 h2
    split at hl
    · rename_i l h3
      obtain ⟨v, h4, h5⟩ := results_ok hr e3 h1
      obtain ⟨β', h6⟩ := leave_ok hp (by simp) (by simp) hmk hr h4 h2 h3 hl
      exact ⟨v, h5, v, β', I1, rfl, h6⟩
    · cases hl
  · cases hl
def isNilT (o : Oper) (t : TypeId) : Bool := match o.op, o.dst, o.guard with
  | .binOp .eql t' (.tmp 3) (.const (.slice none 0 0)) _, some 4, none => t' == t
  | _, _, _ => false
theorem isNilT_ok {o : Oper} {t : TypeId} (h : isNilT o t = true) : (∃ z, o.op = .binOp .eql t (.tmp 3) (.const (.slice none 0 0)) z) ∧ o.dst = some 4 ∧ o.guard = none := by
  unfold isNilT at h
  split at h
  · rename_i t' z h1 h2 h3
    rw [beq_iff_eq] at h
    subst h
    exact ⟨⟨z, h1⟩, h2, h3⟩
  · cases h
theorem clone_snd (hm : P.follows .mixedOrders = true) {f : FuncId} {fn : Func} {c0 cA cB : Code} {rid : Nat} {o1 o2 : Oper} {t e : TypeId} {sz bytes : Nat} {zs : List T}
    (hfn : P.funcs[f]? = some fn) (hbody : fn.body = some (.seq c0 (.seq (.seq (.region rid #[o1, o2] false) (.cond (.tmp 4) cA .skip)) cB)))
    (hN : fn.ntmps = 8) (hres : rvsOf P fn.results.toList = some [.tmp 2])
    (h0 : compC P 8 c0 = some (.region [p (.mv 2 (.nil sz))] none)) (h1 : compG P 8 #[o1, o2] o1 = some (p (.mv 3 (.t 0))))
    (h2 : isNilT o2 t = true) (ht : P.underlying t = some (.slice e))
    (hA : compC P 8 cA = some (.seq (.region [p (.mv 2 (.nil sz))] none) .ret))
    (hB : compC P 8 cB = some (.seq (.region [p (.bsl 5 sz 0 zs []), p (.mv 6 (.t 0)), p (.app 7 sz bytes (.t 5) (.t 6)), p (.mv 2 (.t 7))] none) .ret))
    (hEA : ∃ L, evalC S00 noCall 1 (.seq (.region [p (.mv 2 (.nil sz))] none) (.own 2 sz 290 .ret)) [((.s 4), (.sv (svB true))), ((.s 3), (.sv (svL sz []))), ((.s 2), (.sv (.c (.one (.nilsl sz))))), ((.s 0), (.sv (svL sz [])))] = some (.ret L) ∧ leaveFn ⟨1, 8, [.tmp 2], .ret⟩ [] L = some (.c (.one (.own (knew 0) sz 0 0 0)), [], [.arr sz []]))
    (es : List (List T))
    (hEB : ∃ L, evalC S00 noCall 1 (.seq (.region [p (.bsl 5 sz 0 zs []), p (.mv 6 (.t 0)), p (.app 7 sz bytes (.t 5) (.t 6)), p (.mv 2 (.t 7))] none) .ret) [((.s 4), (.sv (svB false))), ((.s 3), (.sv (svL sz es))), ((.s 2), (.sv (.c (.one (.nilsl sz))))), ((.s 0), (.sv (svL sz es)))] = some (.ret L) ∧ leaveFn ⟨1, 8, [.tmp 2], .ret⟩ [] L = some (.c (.one (.own (knew 0) sz 0 es.length es.length)), [], [.arr sz es])) :
    Snd P f [svL sz es] [] (.c (.one (.own (knew 0) sz 0 es.length es.length)), [], [.arr sz es]) := by
  intro w I β args hp
  have hargs : args.length ≤ fn.ntmps := by rw [← hp.args.len, hN]; simp
  refine calls_of_wp hfn hbody ?_
  have hstart : R ⟨fn.ntmps, w, handed [] β, I, β⟩ (St.get (slotsOf 0 [svL sz es] ++ memsOf 0 [])) { tmps := args.toArray ++ Array.replicate (fn.ntmps - args.toArray.size) undef, defers := [] } w := ⟨β, I, start_R1 hp hargs⟩
  rw [hN] at hstart ⊢
  have hcs := noCall_sound P
  have hS := S00_sound P
  have hmk : ∀ u, Mk (slotsOf 0 [svL sz es] ++ memsOf 0 []) [((.s 4), (.sv u)), ((.s 3), (.sv (svL sz es))), ((.s 2), (.sv (.c (.one (.nilsl sz))))), ((.s 0), (.sv (svL sz es)))] := fun u => by
    refine ⟨fun n hn _ => ?_, fun l n v hmo _ hv => ?_⟩
    · cases hg : St.get (slotsOf 0 [svL sz es] ++ memsOf 0 []) (.s n) with
      | none => rfl
      | some v =>
        have := get_mem hg
        simp [slotsOf, memsOf] at this
        omega
    · have := get_mem hv
      simp at this
      rcases this with ⟨rfl, _⟩ | ⟨rfl, _⟩ | ⟨rfl, _⟩ | ⟨rfl, _⟩ <;> cases hmo
  -- r2 := nil
  refine wp_seq (wp_mono (region_ok (S := S00) (cl := noCall) (G := ⟨8, w, handed [] β, I, β⟩) hm (by simp only; omega) hcs hS h0 hstart (L' := [((.s 2), (.sv (.c (.one (.nilsl sz))))), ((.s 0), (.sv (svL sz es)))]) rfl) fun e1 a1 w1 q1 => ?_)
  cases e1 <;> first | exact q1.elim | skip
  -- s == nil
  refine wp_seq (wp_seq (wp_region ?_))
  show wpOps P #[o1, o2] _ [0, 1] a1 w1
  rw [wpOps_cons]
  refine gi_ok (S := S00) (cl := noCall) (G := ⟨8, w, handed [] β, I, β⟩) (o := o1) (i := 0) rfl h1 (by simp only; omega) hcs hS q1 (ws := [((.s 3), some (.sv (svL sz es)))]) (ns := []) (fun k hk => by cases hk) rfl fun a2 w2 q2 => ?_
  rw [wpOps_cons]
  obtain ⟨⟨z, hop⟩, hdst, hgd⟩ := isNilT_ok h2
  obtain ⟨β2, I2, q2'⟩ := q2
  have hs3 : Rd w2 I2 (a2.tmps.getD 3 undef) (.sl sz es) := q2'.facts (.s 3) (.sv (svL sz es)) rfl
  obtain ⟨ad, ln, cap, hv3, hnil⟩ : ∃ ad ln cap, a2.tmps.getD 3 undef = .slice ad ln cap ∧ (ad = none → es = []) := by
    generalize a2.tmps.getD 3 undef = v3 at hs3
    cases hs3 with
    | sl ad n cap es' sz' b o vs hn hc hmx h0' ha hI hss hv hr =>
      refine ⟨ad, n, cap, rfl, fun had => ?_⟩
      have : n = 0 := by
        have := h0' had
        omega
      exact List.eq_nil_of_length_eq_zero (by rw [hn, this])
  have hrun : (execOp a2.eval o2).run P w2 = .ok (.value (.bool ad.isNone)) w2 := nil_test hop ht (by rw [← hv3]; rfl)
  have hwant : Region.wanted o2 (yielded #[o1, o2] a2.tmps) = true := by simp [Region.wanted, hgd]
  have hget : ∀ Q K, o2.wp P a2 w2 K Q → wpOp P #[o1, o2] Q 1 K a2 w2 := fun Q K h => by
    unfold wpOp
    show (if Region.wanted o2 (yielded #[o1, o2] a2.tmps) then o2.wp P a2 w2 K Q ∨ (o2.asks P a2 w2 ∧ LetsOut Q) else K (a2.put o2.dst undef) w2)
    rw [if_pos hwant]
    exact .inl h
  refine hget _ _ (wp_value (g' := upd (St.get [((.s 3), (.sv (svL sz es))), ((.s 2), (.sv (.c (.one (.nilsl sz))))), ((.s 0), (.sv (svL sz es)))]) (.s 4) (some (.sv (svB ad.isNone)))) (G := ⟨8, w, handed [] β, I, β⟩) hrun ?_ fun a3 w3 q3 => ?_)
  · rw [hdst]
    have hee : applyW ([((.s 3), some (.sv (svL sz es)))] ++ marksW [((.s 3), some (.sv (svL sz es)))]) (St.get [((.s 2), (.sv (.c (.one (.nilsl sz))))), ((.s 0), (.sv (svL sz es)))]) = St.get [((.s 3), (.sv (svL sz es))), ((.s 2), (.sv (.c (.one (.nilsl sz))))), ((.s 0), (.sv (svL sz es)))] := (get_app _ _).symm
    rw [hee] at q2'
    exact ⟨β2, I2, q2'.put (d := 4) (by simp only; omega) (x := svB ad.isNone) (.bool _)⟩
  have q3 : R ⟨8, w, handed [] β, I, β⟩ (St.get [((.s 4), (.sv (svB ad.isNone))), ((.s 3), (.sv (svL sz es))), ((.s 2), (.sv (.c (.one (.nilsl sz))))), ((.s 0), (.sv (svL sz es)))]) a3 w3 := by
    rw [← get_set] at q3
    exact q3
  have h4 : a3.eval (.tmp 4) = .bool ad.isNone := by
    obtain ⟨β3, I3, q3⟩ := q3
    have h := q3.facts (.s 4) (.sv (svB ad.isNone)) rfl
    exact rep_bool (β := β3) h
  have hend : ∀ {L : St} {a' w'}, Mk (slotsOf 0 [svL sz es] ++ memsOf 0 []) L → R ⟨8, w, handed [] β, I, β⟩ L.get a' w' → leaveFn ⟨1, 8, [.tmp 2], .ret⟩ [] L = some (.c (.one (.own (knew 0) sz 0 es.length es.length)), [], [.arr sz es]) → a'.defers = [] ∧ ∃ v, (results fn a'.tmps).run P w' = .ok v w' ∧ ∃ v' β' I', Ending.returned v = .returned v' ∧ Left w I β [] (.c (.one (.own (knew 0) sz 0 es.length es.length)), [], [.arr sz es]) v' w' β' I' := by
    intro L a' w' hmk hr hl
    exact leave_at (fc := ⟨1, 8, [.tmp 2], .ret⟩) hp hres L a' w' hmk (by rw [hN]; exact hr) hl
  cases ad with
  | none =>
    obtain rfl := hnil rfl
    obtain ⟨L, hL, hlv⟩ := hEA
    refine wp_cond_true h4 (wp_mono (evalC_ok (S := S00) (cl := noCall) (G := ⟨8, w, handed [] β, I, β⟩) hm (by simp only; omega) hcs hS 1 (.seq (.region [p (.mv 2 (.nil sz))] none) (.own 2 sz 290 .ret)) cA _ _ a3 w3 hA q3 hL) fun e1 a4 w4 q4 => ?_)
    cases e1 <;> first | exact q4.elim | skip
    exact hend ((hmk _).trans (Mk.code 1 _ _ _ hL)) q4 hlv
  | some ad =>
    obtain ⟨L, hL, hlv⟩ := hEB
    refine wp_cond_false h4 (wp_skip ?_)
    refine wp_mono (evalC_ok (S := S00) (cl := noCall) (G := ⟨8, w, handed [] β, I, β⟩) hm (by simp only; omega) hcs hS 1 (.seq (.region [p (.bsl 5 sz 0 zs []), p (.mv 6 (.t 0)), p (.app 7 sz bytes (.t 5) (.t 6)), p (.mv 2 (.t 7))] none) .ret) cB _ _ a3 w3 hB q3 hL) fun e1 a4 w4 q4 => ?_
    cases e1 <;> first | exact q4.elim | skip
    exact hend ((hmk _).trans (Mk.code 1 _ _ _ hL)) q4 hlv
end
end Go.Ev

namespace Go.Ev
open Go.Proofs
set_option maxRecDepth 100000
noncomputable def gF (f : FuncId) : Func := (Try.prog.funcs[f]?).getD default
noncomputable def g0 (f : FuncId) : Code := match (gF f).body with | some (.seq c _) => c | _ => .skip
noncomputable def gA (f : FuncId) : Code := match (gF f).body with | some (.seq _ (.seq (.seq _ (.cond _ c _)) _)) => c | _ => .skip
noncomputable def gB (f : FuncId) : Code := match (gF f).body with | some (.seq _ (.seq _ c)) => c | _ => .skip
noncomputable def gR (f : FuncId) : Nat := match (gF f).body with | some (.seq _ (.seq (.seq (.region n _ _) _) _)) => n | _ => 0
noncomputable def gO (f : FuncId) (i : Nat) : Oper := match (gF f).body with | some (.seq _ (.seq (.seq (.region _ a _) _) _)) => a.getD i default | _ => default
noncomputable def gE (t : TypeId) : TypeId := match Try.prog.underlying t with | some (.slice e) => e | _ => 0
theorem cloneS_snd {f sz : Nat} (h : ∀ es : List (List T), es.length ≤ 1000000000 → Snd Try.prog f [svL sz es] [] (.c (.one (.own (knew 0) sz 0 es.length es.length)), [], [.arr sz es])) {vs : List SV} {r : SV × List Mem} (hr : cloneS sz vs = some r) : Snd Try.prog f vs [] (r.1, [], r.2) := by
  unfold cloneS at hr
  split at hr
  · split at hr
    · rename_i hs
      obtain ⟨rfl, hs⟩ := hs
      injection hr with hr
      subst hr
      exact h _ hs
    · cases hr
  · cases hr
theorem cl59 (es : List (List T)) (hes : es.length ≤ 1000000000) : Snd Try.prog 59 [svL 2 es] [] (.c (.one (.own (knew 0) 2 0 es.length es.length)), [], [.arr 2 es]) := by
  refine clone_snd (fn := gF 59) (c0 := g0 59) (cA := gA 59) (cB := gB 59) (rid := gR 59) (o1 := gO 59 0) (o2 := gO 59 1) (t := 52) (e := gE 52) (bytes := 16) (zs := [(.int .i64 0), (.int .i64 0)]) (by kernel_rfl) (by kernel_rfl) (by kernel_rfl) (by kernel_rfl) (by kernel_rfl) (by kernel_rfl) (by kernel_rfl) (by kernel_rfl) (by kernel_rfl) (by kernel_rfl) (by kernel_rfl) ⟨_, rfl, rfl⟩ es ?_
  obtain ⟨o, h1, L, rfl, h2⟩ := wpC_ok (S := S00) (cl := noCall) (H := ⟨[],[],[],[(7, [true])]⟩) (n := 1) (c := .seq (.region [p (.bsl 5 2 0 [(.int .i64 0), (.int .i64 0)] []), p (.mv 6 (.t 0)), p (.app 7 2 16 (.t 5) (.t 6)), p (.mv 2 (.t 7))] none) .ret) (i := 0) (L := [((.s 4), (.sv (svB false))), ((.s 3), (.sv (svL 2 es))), ((.s 2), (.sv (.c (.one (.nilsl 2))))), ((.s 0), (.sv (svL 2 es)))]) (K := fun o => ∃ L, o = .ret L ∧ leaveFn ⟨1, 8, [.tmp 2], .ret⟩ [] L = some (.c (.one (.own (knew 0) 2 0 es.length es.length)), [], [.arr 2 es])) (by
    show wpC (fun _ => none) _ _ _ _ _ _ _
    rw [wcla 1 es]
    exact ⟨Nat.le_refl 0, rfl, ⟨by omega, by omega⟩, _, rfl, rfl⟩)
  exact ⟨L, h1, h2⟩
theorem cl93 (es : List (List T)) (hes : es.length ≤ 1000000000) : Snd Try.prog 93 [svL 6 es] [] (.c (.one (.own (knew 0) 6 0 es.length es.length)), [], [.arr 6 es]) := by
  refine clone_snd (fn := gF 93) (c0 := g0 93) (cA := gA 93) (cB := gB 93) (rid := gR 93) (o1 := gO 93 0) (o2 := gO 93 1) (t := 22) (e := gE 22) (bytes := 80) (zs := [(.int .i64 0), (.int .i64 0), (.int .i64 0), (.int .i64 0), (.sl 2 []), (.sl 1 [])]) (by kernel_rfl) (by kernel_rfl) (by kernel_rfl) (by kernel_rfl) (by kernel_rfl) (by kernel_rfl) (by kernel_rfl) (by kernel_rfl) (by kernel_rfl) (by kernel_rfl) (by kernel_rfl) ⟨_, rfl, rfl⟩ es ?_
  obtain ⟨o, h1, L, rfl, h2⟩ := wpC_ok (S := S00) (cl := noCall) (H := ⟨[],[],[],[(7, [true])]⟩) (n := 1) (c := .seq (.region [p (.bsl 5 6 0 [(.int .i64 0), (.int .i64 0), (.int .i64 0), (.int .i64 0), (.sl 2 []), (.sl 1 [])] []), p (.mv 6 (.t 0)), p (.app 7 6 80 (.t 5) (.t 6)), p (.mv 2 (.t 7))] none) .ret) (i := 0) (L := [((.s 4), (.sv (svB false))), ((.s 3), (.sv (svL 6 es))), ((.s 2), (.sv (.c (.one (.nilsl 6))))), ((.s 0), (.sv (svL 6 es)))]) (K := fun o => ∃ L, o = .ret L ∧ leaveFn ⟨1, 8, [.tmp 2], .ret⟩ [] L = some (.c (.one (.own (knew 0) 6 0 es.length es.length)), [], [.arr 6 es])) (by
    show wpC (fun _ => none) _ _ _ _ _ _ _
    rw [wclb 1 es]
    exact ⟨Nat.le_refl 0, rfl, ⟨by omega, by omega⟩, _, rfl, rfl⟩)
  exact ⟨L, h1, h2⟩
theorem cl94 (es : List (List T)) (hes : es.length ≤ 1000000000) : Snd Try.prog 94 [svL 2 es] [] (.c (.one (.own (knew 0) 2 0 es.length es.length)), [], [.arr 2 es]) := by
  refine clone_snd (fn := gF 94) (c0 := g0 94) (cA := gA 94) (cB := gB 94) (rid := gR 94) (o1 := gO 94 0) (o2 := gO 94 1) (t := 23) (e := gE 23) (bytes := 16) (zs := [(.int .i64 0), (.int .i64 0)]) (by kernel_rfl) (by kernel_rfl) (by kernel_rfl) (by kernel_rfl) (by kernel_rfl) (by kernel_rfl) (by kernel_rfl) (by kernel_rfl) (by kernel_rfl) (by kernel_rfl) (by kernel_rfl) ⟨_, rfl, rfl⟩ es ?_
  obtain ⟨o, h1, L, rfl, h2⟩ := wpC_ok (S := S00) (cl := noCall) (H := ⟨[],[],[],[(7, [true])]⟩) (n := 1) (c := .seq (.region [p (.bsl 5 2 0 [(.int .i64 0), (.int .i64 0)] []), p (.mv 6 (.t 0)), p (.app 7 2 16 (.t 5) (.t 6)), p (.mv 2 (.t 7))] none) .ret) (i := 0) (L := [((.s 4), (.sv (svB false))), ((.s 3), (.sv (svL 2 es))), ((.s 2), (.sv (.c (.one (.nilsl 2))))), ((.s 0), (.sv (svL 2 es)))]) (K := fun o => ∃ L, o = .ret L ∧ leaveFn ⟨1, 8, [.tmp 2], .ret⟩ [] L = some (.c (.one (.own (knew 0) 2 0 es.length es.length)), [], [.arr 2 es])) (by
    show wpC (fun _ => none) _ _ _ _ _ _ _
    rw [wcla 1 es]
    exact ⟨Nat.le_refl 0, rfl, ⟨by omega, by omega⟩, _, rfl, rfl⟩)
  exact ⟨L, h1, h2⟩
theorem cl103 (es : List (List T)) (hes : es.length ≤ 1000000000) : Snd Try.prog 103 [svL 2 es] [] (.c (.one (.own (knew 0) 2 0 es.length es.length)), [], [.arr 2 es]) := by
  refine clone_snd (fn := gF 103) (c0 := g0 103) (cA := gA 103) (cB := gB 103) (rid := gR 103) (o1 := gO 103 0) (o2 := gO 103 1) (t := 28) (e := gE 28) (bytes := 32) (zs := [(.str []), (.str [])]) (by kernel_rfl) (by kernel_rfl) (by kernel_rfl) (by kernel_rfl) (by kernel_rfl) (by kernel_rfl) (by kernel_rfl) (by kernel_rfl) (by kernel_rfl) (by kernel_rfl) (by kernel_rfl) ⟨_, rfl, rfl⟩ es ?_
  obtain ⟨o, h1, L, rfl, h2⟩ := wpC_ok (S := S00) (cl := noCall) (H := ⟨[],[],[],[(7, [true])]⟩) (n := 1) (c := .seq (.region [p (.bsl 5 2 0 [(.str []), (.str [])] []), p (.mv 6 (.t 0)), p (.app 7 2 32 (.t 5) (.t 6)), p (.mv 2 (.t 7))] none) .ret) (i := 0) (L := [((.s 4), (.sv (svB false))), ((.s 3), (.sv (svL 2 es))), ((.s 2), (.sv (.c (.one (.nilsl 2))))), ((.s 0), (.sv (svL 2 es)))]) (K := fun o => ∃ L, o = .ret L ∧ leaveFn ⟨1, 8, [.tmp 2], .ret⟩ [] L = some (.c (.one (.own (knew 0) 2 0 es.length es.length)), [], [.arr 2 es])) (by
    show wpC (fun _ => none) _ _ _ _ _ _ _
    rw [wclc 1 es]
    exact ⟨Nat.le_refl 0, rfl, ⟨by omega, by omega⟩, _, rfl, rfl⟩)
  exact ⟨L, h1, h2⟩
theorem cl104 (es : List (List T)) (hes : es.length ≤ 1000000000) : Snd Try.prog 104 [svL 1 es] [] (.c (.one (.own (knew 0) 1 0 es.length es.length)), [], [.arr 1 es]) := by
  refine clone_snd (fn := gF 104) (c0 := g0 104) (cA := gA 104) (cB := gB 104) (rid := gR 104) (o1 := gO 104 0) (o2 := gO 104 1) (t := 29) (e := gE 29) (bytes := 1) (zs := [(.int .u8 0)]) (by kernel_rfl) (by kernel_rfl) (by kernel_rfl) (by kernel_rfl) (by kernel_rfl) (by kernel_rfl) (by kernel_rfl) (by kernel_rfl) (by kernel_rfl) (by kernel_rfl) (by kernel_rfl) ⟨_, rfl, rfl⟩ es ?_
  obtain ⟨o, h1, L, rfl, h2⟩ := wpC_ok (S := S00) (cl := noCall) (H := ⟨[],[],[],[(7, [true])]⟩) (n := 1) (c := .seq (.region [p (.bsl 5 1 0 [(.int .u8 0)] []), p (.mv 6 (.t 0)), p (.app 7 1 1 (.t 5) (.t 6)), p (.mv 2 (.t 7))] none) .ret) (i := 0) (L := [((.s 4), (.sv (svB false))), ((.s 3), (.sv (svL 1 es))), ((.s 2), (.sv (.c (.one (.nilsl 1))))), ((.s 0), (.sv (svL 1 es)))]) (K := fun o => ∃ L, o = .ret L ∧ leaveFn ⟨1, 8, [.tmp 2], .ret⟩ [] L = some (.c (.one (.own (knew 0) 1 0 es.length es.length)), [], [.arr 1 es])) (by
    show wpC (fun _ => none) _ _ _ _ _ _ _
    rw [wcld 1 es]
    exact ⟨Nat.le_refl 0, rfl, ⟨by omega, by omega⟩, _, rfl, rfl⟩)
  exact ⟨L, h1, h2⟩
end Go.Ev

namespace Go.Proofs
open Go.Shelf
def Try.lays150_ren : Go.Shelf.Ren := ⟨fun | 150 => 123 | 153 => 125 | 152 => 129 | 226 => 130 | 227 => 131 | 228 => 132 | 137 => 134 | 119 => 135 | 224 => 136 | 225 => 137 | 217 => 138 | 266 => 139 | n => n, fun | 9 => 9 | 4 => 4 | 3 => 3 | 5 => 5 | 21 => 21 | 117 => 174 | 116 => 173 | 0 => 0 | 46 => 141 | 124 => 179 | n => n, fun n => n⟩
theorem Try.lays150 : Lays.n150 Try.prog Try.lays150_ren := {
  mixed := (by kernel_rfl),
  f119 := Try.func135.trans (congrArg some (by kernel_rfl)),
  f137 := Try.func134.trans (congrArg some (by kernel_rfl)),
  f150 := Try.func123.trans (congrArg some (by kernel_rfl)),
  f152 := Try.func129.trans (congrArg some (by kernel_rfl)),
  f153 := Try.func125.trans (congrArg some (by kernel_rfl)),
  f217 := Try.func138.trans (congrArg some (by kernel_rfl)),
  f224 := Try.func136.trans (congrArg some (by kernel_rfl)),
  f225 := Try.func137.trans (congrArg some (by kernel_rfl)),
  f226 := Try.func130.trans (congrArg some (by kernel_rfl)),
  f227 := Try.func131.trans (congrArg some (by kernel_rfl)),
  f228 := Try.func132.trans (congrArg some (by kernel_rfl)),
  f266 := Try.func139.trans (congrArg some (by kernel_rfl)),
  t0 := Try.underlying0,
  a0 := Try.isAgg0,
  z0 := Try.sizeOf0,
  v0 := Try.zeroValue0,
  t3 := Try.underlying3,
  a3 := Try.isAgg3,
  z3 := Try.sizeOf3,
  v3 := Try.zeroValue3,
  t4 := Try.underlying4,
  a4 := Try.isAgg4,
  z4 := Try.sizeOf4,
  v4 := Try.zeroValue4,
  t5 := Try.underlying5,
  a5 := Try.isAgg5,
  z5 := Try.sizeOf5,
  v5 := Try.zeroValue5,
  t9 := Try.underlying9,
  a9 := Try.isAgg9,
  z9 := Try.sizeOf9,
  v9 := Try.zeroValue9,
  t21 := Try.underlying21,
  a21 := Try.isAgg21,
  z21 := Try.sizeOf21,
  v21 := Try.zeroValue21,
  t46 := Try.underlying141,
  a46 := Try.isAgg141,
  z46 := Try.sizeOf141,
  v46 := Try.zeroValue141,
  t116 := Try.underlying173,
  a116 := Try.isAgg173,
  z116 := Try.sizeOf173,
  t117 := Try.underlying174,
  a117 := Try.isAgg174,
  z117 := Try.sizeOf174,
  v117 := Try.zeroValue174,
  t124 := Try.underlying179,
  a124 := Try.isAgg179,
  z124 := Try.sizeOf179,
  v124 := Try.zeroValue179 }
theorem Try.set150 : (Try.prog.info? (Try.lays150_ren.t 116)).map (fun i => (i.zero, i.size)) = some (some (.agg (Array.replicate 256 (.bool false))), 256) := by kernel_rfl
end Go.Proofs

namespace Go.Proofs
open Go.Shelf Go.RowKit Go.Lib
variable {P : Program} {ρ : Ren}
theorem indexByte_high : ∀ (l : List UInt8) (c : UInt8), (∀ b, b ∈ l → b.toNat < 128) → 128 ≤ c.toNat → Lib.indexByte l c = -1
  | [], _, _, _ => rfl
  | b :: l, c, h, hc => by
    have ih := indexByte_high l c (fun b hb => h b (List.mem_cons_of_mem _ hb)) hc
    have hb := h b (List.mem_cons_self ..)
    have hne : (b == c) = false := by
      rw [beq_eq_false_iff_ne]
      rintro rfl
      omega
    simp [Lib.indexByte, hne, ih]

set_option maxHeartbeats 8000000 in
set_option maxRecDepth 1000000 in
theorem Any.strings_IndexRune_err (L : Lays.n152 P ρ) (s : ByteArray) (w : World) (hascii : ∀ (j : Nat) b, s.data.toList[j]? = some b → b.toNat < 128) :
    Calls P (ρ.f 152) #[.string s, .int .i32 65533] w fun e w' => e = .returned (.int .i64 (-1)) ∧ Below w.heap.size w w' := by
  have HA : Aside (∀ (j : Nat) b, s.data.toList[j]? = some b → b.toNat < 128) := hascii
  clear hascii
  have t3 := L.t3; have a3 := L.a3; have z3 := L.z3; have v3 := L.v3
  have t4 := L.t4; have a4 := L.a4; have z4 := L.z4; have v4 := L.v4
  have t5 := L.t5; have a5 := L.a5; have z5 := L.z5; have v5 := L.v5
  have t9 := L.t9; have a9 := L.a9; have z9 := L.z9; have v9 := L.v9
  have t21 := L.t21; have a21 := L.a21; have z21 := L.z21; have v21 := L.v21
  go_enter L.f152, Body.n152_ntmps ρ
  go_wp2
  go_loopg [5, 6] s.size (fun g _ _ wx => ∃ i : Nat, i + g = s.size ∧ wx = w.iter s i)
  case atStart => exact ⟨0, by omega, rfl⟩
  case round =>
    obtain ⟨i, hig, rfl⟩ := hrel
    cases gk with
    | zero =>
      obtain rfl : i = s.size := by omega
      have hnx := run_next_end (P := P) w s s.size
      go_wp2
      go_ret
      exact ⟨rfl, (Below.refl _ _).alloc (Nat.le_refl _) _⟩
    | succ g =>
      have hi : i < s.size := by omega
      obtain ⟨x, hx⟩ : ∃ x : UInt8, s[i]'hi = x := ⟨_, rfl⟩
      have hxl : s.data.toList[i]? = some x := by rw [← hx]; exact Lib.data_getElem? s i hi
      have hx128 : x.toNat < 128 := HA.out i x hxl
      have hnx := fun ty => run_next_ascii (P := P) w s i ty hi (by rw [hx]; exact hx128)
      rw [hx] at hnx
      clear hxl hx
      have hne : ((x.toNat : Int) == 65533) = false := beq_eq_false_iff_ne.2 (by omega)
      go_wp2
      go_roundg g
      case measure => omega
      case rel => exact ⟨i + 1, by omega, rfl⟩

theorem below_drewN (w : World) (n : Nat) : Below w.heap.size w (w.drewN n) :=
  ⟨rfl, rfl, rfl, Nat.le_refl _, fun _ _ => rfl⟩

set_option maxHeartbeats 8000000 in
set_option maxRecDepth 1000000 in
theorem Any.strings_IndexRune_big (L : Lays.n152 P ρ) (s : ByteArray) (r : Int) (w : World) (hascii : ∀ b, b ∈ s.data.toList → b.toNat < 128) (hv : Utf8.valid r = true) (h128 : 128 ≤ r) (hne : r ≠ 65533) :
    Calls P (ρ.f 152) #[.string s, .int .i32 r] w fun e w' => e = .returned (.int .i64 (-1)) ∧ Below w.heap.size w w' := by
  obtain ⟨e2, e4, elast⟩ := encode_facts r hv h128
  obtain ⟨rs, hrs⟩ : ∃ rs : ByteArray, Utf8.encode r = rs := ⟨_, rfl⟩
  rw [hrs] at e2 e4 elast
  obtain ⟨m, hm⟩ : ∃ m : Nat, rs.size = m + 1 := ⟨rs.size - 1, by omega⟩
  have hmlt : m < rs.size := by omega
  obtain ⟨c, hc⟩ : ∃ c : UInt8, rs[m]'hmlt = c := ⟨_, rfl⟩
  have hc128 : 128 ≤ c.toNat := by
    have h := elast (by omega)
    have : rs.size - 1 = m := by omega
    simp only [this] at h
    rw [← hc]
    exact h
  have HA : Aside (∀ b, b ∈ s.data.toList → b.toNat < 128) := hascii
  clear hascii elast
  have hvr : Lib.validRune r = true := by
    rw [validRune_eq] at hv
    exact hv
  have h1 : ¬ r < 128 := by omega
  have h2 : (r == 65533) = false := beq_eq_false_iff_ne.2 hne
  have hsub : IntKind.i64.wrap ((rs.size : Int) - 1) = (m : Int) := by rw [wrap_small _ (by omega) (by omega)]; omega
  have hsub2 : ((rs.size : Int) - 1) = (m : Int) := by omega
  have hmz : (m : Int) < (rs.size : Int) := by omega
  have hm4 : (m : Int) ≤ 3 := by omega
  have t3 := L.t3; have a3 := L.a3; have z3 := L.z3; have v3 := L.v3
  have t4 := L.t4; have a4 := L.a4; have z4 := L.z4; have v4 := L.v4
  have t5 := L.t5; have a5 := L.a5; have z5 := L.z5; have v5 := L.v5
  have t9 := L.t9; have a9 := L.a9; have z9 := L.z9; have v9 := L.v9
  have t21 := L.t21; have a21 := L.a21; have z21 := L.z21; have v21 := L.v21
  have e119 : ∀ args w, (callFunc (ρ.f 119) args).run P w = .ok (.enter (ρ.f 119) args) w := enters_of L.f119 (by kernel_rfl) rfl
  have e137 : ∀ args w, (callFunc (ρ.f 137) args).run P w = .ok (.enter (ρ.f 137) args) w := enters_of L.f137 (by kernel_rfl) rfl
  have hcv : ∀ w, (convert (ρ.t 21) (ρ.t 9) (.int .i32 r)).run P w = .ok (.string rs) w := fun w => by
    rw [run_convert_int_string w _ _ _ _ (by rw [t21]; rfl) t9, hrs]
  clear hm e2 e4
  go_enter L.f152, Body.n152_ntmps ρ
  go_wp2_with (go_at_fn (ρ.f 119); refine (Any.utf8_ValidRune { L with } _ _).mono ?_; rintro e w' ⟨rfl, hw⟩; rw [hw, hvr])
  apply wp_scope_straight
  go_wp2
  go_loopg [9, 10] 1 (fun _ s9 s10 wx => s9 = .int .i64 m ∧ s10 = .int .i64 0 ∧ wx = w)
  case atStart => exact ⟨rfl, rfl, rfl⟩
  case round =>
    obtain ⟨rfl, rfl, rfl⟩ := hrel
    by_cases hlt : m < s.size
    · have hltz : (m : Int) < (s.size : Int) := by omega
      obtain ⟨x, hx⟩ : ∃ x : UInt8, s[m]'hlt = x := ⟨_, rfl⟩
      have hx128 : x.toNat < 128 := HA.out x (by rw [← hx]; exact List.mem_of_getElem? (Lib.data_getElem? s m hlt))
      have hnec : ((x.toNat : Int) == (c.toNat : Int)) = false := beq_eq_false_iff_ne.2 (by omega)
      have hsl : (m : Int) + 1 ≤ (s.size : Int) := by omega
      have hs0 : (0 : Int) ≤ (m : Int) + 1 := by omega
      have hIB : ∀ w, Calls P (ρ.f 137) #[.string (s.extract (m + 1) s.size), .int .u8 (c.toNat : Int)] w fun e w' => e = .returned (.int .i64 (-1)) ∧ w' = w := fun w => by
        have hq := Any.strings_IndexByte { L with } (s.extract (m + 1) s.size) (c.toNat : Int) w
        have hback : ((c.toNat : Int)).toNat.toUInt8 = c := by simp
        rw [hback, indexByte_high _ c (fun b hb => HA.out b (mem_extract hb)) hc128] at hq
        exact hq
      have hwr : IntKind.i64.wrap ((m : Int) + 1) = (m : Int) + 1 := wrap_small _ (by omega) (by omega)
      go_wp2
      go_step3
      go_wp2_with (go_at_fn (ρ.f 137); refine (Any.strings_IndexByte { L with } _ _ _).mono ?_; rintro e w' ⟨rfl, hw⟩; rw [hw])
      refine wp_region_quiet_lit L.mixed (by kernel_rfl) ?_
      repeat (quiet_step (fail))
      refine wpQuiet_nil ?_
      intro _ hw'
      obtain ⟨nq, hw''⟩ := hw'
      subst hw''
      have hnb : ((x.toNat : Int) != (c.toNat : Int)) = true := by simp only [bne, hnec, Bool.not_false]
      rw [hnb]
      go_wp2_with (go_at_fn (ρ.f 137); refine (Any.strings_IndexByte { L with } _ _ _).mono ?_; rintro e w' ⟨rfl, hw⟩; rw [hw])
      refine wp_region_quiet_lit L.mixed (by kernel_rfl) ?_
      repeat (quiet_step ((go_at_fn (ρ.f 137); exact (hIB _).mono fun _ _ ⟨he, hm⟩ => ⟨he, _, hm⟩)))
      refine wpQuiet_nil ?_
      intro _ hw'
      obtain ⟨nq2, hw''⟩ := hw'
      subst hw''
      go_wp2
      simp only [Exit.noGoto_ret, Exit.inBlock, Exit.then]
      go_wp2
      go_ret
      exact ⟨rfl, below_drewN _ _⟩
    · have hltz : ¬ (m : Int) < (s.size : Int) := by omega
      go_wp2
      go_ret
      exact ⟨rfl, Below.refl _ _⟩
end Go.Proofs

namespace Go.Proofs
open Go.Shelf Go.RowKit Go.Lib
variable {P : Program} {ρ : Ren}
theorem get_bang (s : ByteArray) (i : Nat) (h : i < s.size) : s.get! i = s[i]'h := by
  simp [ByteArray.get!, getElem!_pos, h]
  rfl
theorem valid_of (c : Nat) (h1 : 128 ≤ c) (h2 : c < 2048) : Utf8.valid (c : Int) = true := by
  rw [validRune_eq]
  simp only [validRune, decide_eq_true_eq]
  omega
/-- what is decoded at a byte of 128 or more -/
theorem decode_hi (s : ByteArray) (i : Nat) (h : i < s.size) (ha : 128 ≤ (s[i]'h).toNat) :
    ∃ r k, Utf8.decode s i = (r, k) ∧ 128 ≤ r ∧ Utf8.valid (r : Int) = true ∧ 1 ≤ k ∧ i + k ≤ s.size ∧ ∀ j (hj : j < s.size), i ≤ j → j < i + k → 128 ≤ (s[j]'hj).toNat := by
  have hx : ¬ (s.get! (i + 0)).toNat < 128 := by
    rw [Nat.add_zero, get_bang s i h]
    omega
  have hone : ∀ j (hj : j < s.size), i ≤ j → j < i + 1 → 128 ≤ (s[j]'hj).toNat := fun j hj h1 h2 => by
    obtain rfl : j = i := by omega
    exact ha
  have herr : ∃ r k, ((65533, 1) : Nat × Nat) = (r, k) ∧ 128 ≤ r ∧ Utf8.valid (r : Int) = true ∧ 1 ≤ k ∧ i + k ≤ s.size ∧ ∀ j (hj : j < s.size), i ≤ j → j < i + k → 128 ≤ (s[j]'hj).toNat :=
    ⟨65533, 1, rfl, by omega, by decide, Nat.le_refl 1, by omega, hone⟩
  have hcont : ∀ k (hk : i + k < s.size), ((s.get! (i + k)).toNat / 64 == 2) = true → 128 ≤ (s[i + k]'hk).toNat := fun k hk hc => by
    rw [get_bang s (i + k) hk, beq_iff_eq] at hc
    omega
  unfold Utf8.decode
  simp only [hx, if_false]
  split
  · rename_i h1
    simp only [Bool.and_eq_true, decide_eq_true_eq] at h1
    split
    · rename_i h2
      refine ⟨_, 2, rfl, h2, valid_of _ h2 (by omega), by omega, by omega, fun j hj h3 h4 => ?_⟩
      by_cases e : j = i
      · subst e; exact ha
      · obtain rfl : j = i + 1 := by omega
        exact hcont 1 hj h1.2.2
    · exact herr
  · split
    · rename_i h1
      simp only [Bool.and_eq_true, decide_eq_true_eq] at h1
      split
      · rename_i h2
        simp only [Bool.and_eq_true, decide_eq_true_eq] at h2
        refine ⟨_, 3, rfl, by omega, h2.2, by omega, by omega, fun j hj h3 h4 => ?_⟩
        by_cases e : j = i
        · subst e; exact ha
        · by_cases e1 : j = i + 1
          · subst e1; exact hcont 1 hj h1.1.2.2
          · obtain rfl : j = i + 2 := by omega
            exact hcont 2 hj h1.2.2
      · exact herr
    · split
      · rename_i h1
        simp only [Bool.and_eq_true, decide_eq_true_eq] at h1
        split
        · rename_i h2
          simp only [Bool.and_eq_true, decide_eq_true_eq] at h2
          refine ⟨_, 4, rfl, by omega, h2.2, by omega, by omega, fun j hj h3 h4 => ?_⟩
          by_cases e : j = i
          · subst e; exact ha
          · by_cases e1 : j = i + 1
            · subst e1; exact hcont 1 hj h1.1.1.2.2
            · by_cases e2 : j = i + 2
              · subst e2; exact hcont 2 hj h1.1.2.2
              · obtain rfl : j = i + 3 := by omega
                exact hcont 3 hj h1.2.2
        · exact herr
      · exact herr
/-- a world in which the iterator at block b stands at p -/
def setIter (w : World) (b : Nat) (s : ByteArray) (p : Nat) : World := { w with heap := w.heap.setIfInBounds b (.stringIter s p) }
theorem run_next_at (w : World) (b : Nat) (s : ByteArray) (pos : Nat) (r k : Nat) (ty : TypeId) (h : pos < s.size) (hb : w.heap[b]? = some (.stringIter s pos)) (hd : Utf8.decode s pos = (r, k)) :
    (Instr.next (.pointer (some ⟨b, 0, none⟩)) true ty).run P w = .ok (.tuple #[.bool true, .int .i64 pos, .int .i32 r]) (setIter w b s (pos + k)) := by
  simp only [Instr.next, getObj, setObj, Sem.run_bind, Sem.run, hb, Result.andThen, h, if_true, hd]
  simp [goInt, setIter]
theorem run_next_off (w : World) (b : Nat) (s : ByteArray) (pos : Nat) (ty : TypeId) (h : ¬ pos < s.size) (hb : w.heap[b]? = some (.stringIter s pos)) :
    (Instr.next (.pointer (some ⟨b, 0, none⟩)) true ty).run P w = .ok (.tuple #[.bool false]) w := by
  simp [Instr.next, getObj, Sem.run, hb, h]
theorem setIter_at (w : World) (b : Nat) (s : ByteArray) (p : Nat) (h : b < w.heap.size) : (setIter w b s p).heap[b]? = some (.stringIter s p) := by
  simp [setIter, h]
theorem setIter_size (w : World) (b : Nat) (s : ByteArray) (p : Nat) : (setIter w b s p).heap.size = w.heap.size := by simp [setIter]
theorem setIter_below {w0 w : World} {b : Nat} (s : ByteArray) (p : Nat) (h : Below b w0 w) : Below b w0 (setIter w b s p) :=
  ⟨h.os, h.tape, h.output, by rw [setIter_size]; exact h.size, fun k hk => by
    rw [← h.block k hk]
    simp only [setIter]
    rw [Array.getElem?_setIfInBounds_ne (by omega)]⟩
end Go.Proofs

namespace Go.Proofs
open Go.Shelf Go.RowKit Go.Lib
variable {P : Program} {ρ : Ren}
theorem Any.strings_IndexRune_high (L : Lays.n152 P ρ) (s : ByteArray) (r : Int) (w : World) (hascii : ∀ b, b ∈ s.data.toList → b.toNat < 128) (hv : Utf8.valid r = true) (h128 : 128 ≤ r) :
    Calls P (ρ.f 152) #[.string s, .int .i32 r] w fun e w' => e = .returned (.int .i64 (-1)) ∧ Below w.heap.size w w' := by
  by_cases h : r = 65533
  · subst h
    exact Any.strings_IndexRune_err L s w fun j b hb => hascii b (List.mem_of_getElem? hb)
  · exact Any.strings_IndexRune_big L s r w hascii hv h128 h

set_option maxHeartbeats 8000000 in
set_option maxRecDepth 1000000 in
theorem Any.strings_IndexAny_little (L : Lays.n153 P ρ) (s chars : ByteArray) (w : World) (h2 : 2 ≤ chars.size) (h8 : s.size ≤ 8) (hcs : chars.size < 4294967281) (hascii : ∀ b, b ∈ chars.data.toList → b.toNat < 128) :
    Calls P (ρ.f 153) #[.string s, .string chars] w fun e w' => e = .returned (.int .i64 (Lib.indexAny s.data.toList chars.data.toList)) ∧ Below w.heap.size w w' := by
  have HA : Aside (∀ b, b ∈ chars.data.toList → b.toNat < 128) := hascii
  clear hascii
  have hemp : chars.toList.isEmpty = false := by
    rw [Lib.toList_data]
    cases h : chars.data.toList with
    | nil => have := Lib.size_eq chars; rw [h, List.length_nil] at this; omega
    | cons _ _ => rfl
  have hn1 : ((chars.size : Int) == 1) = false := beq_eq_false_iff_ne.2 (by omega)
  have h8z : decide ((8 : Int) < (s.size : Int)) = false := decide_eq_false (by omega)
  have t3 := L.t3; have a3 := L.a3; have z3 := L.z3; have v3 := L.v3
  have t4 := L.t4; have a4 := L.a4; have z4 := L.z4; have v4 := L.v4
  have t5 := L.t5; have a5 := L.a5; have z5 := L.z5; have v5 := L.v5
  have t9 := L.t9; have a9 := L.a9; have z9 := L.z9; have v9 := L.v9
  have t21 := L.t21; have a21 := L.a21; have z21 := L.z21; have v21 := L.v21
  have e152 : ∀ args w, (callFunc (ρ.f 152) args).run P w = .ok (.enter (ρ.f 152) args) w := enters_of L.f152 (by kernel_rfl) rfl
  have e226 : ∀ args w, (callFunc (ρ.f 226) args).run P w = .ok (.enter (ρ.f 226) args) w := enters_of L.f226 (by kernel_rfl) rfl
  go_enter L.f153, Body.n153_ntmps ρ
  go_wp2_with (go_at_fn (ρ.f 226); refine (Any.strings_shouldUseASCIISet { L with } _ _).mono ?_; rintro e w' ⟨rfl, hw⟩; rw [hw, h8z])
  go_loopg [9, 10] s.size (fun g _ _ wx => ∃ i : Nat, i ≤ s.size ∧ s.size ≤ i + g ∧ wx.heap[w.heap.size]? = some (.stringIter s i) ∧ Below w.heap.size w wx ∧ Lib.NoAny s.data.toList chars.data.toList i)
  case atStart => exact ⟨0, by omega, by omega, World.iter_heap w s 0, (Below.refl _ _).alloc (Nat.le_refl _) _, Lib.NoAny.zero _ _⟩
  case round =>
    obtain ⟨i, hi1, hi2, hit, hbel, hno⟩ := hrel
    have HN : Aside (Lib.NoAny s.data.toList chars.data.toList i) := hno
    have HB : Aside (Below w.heap.size w wr) := hbel
    have HI : Aside (wr.heap[w.heap.size]? = some (.stringIter s i)) := hit
    clear hno hbel
    by_cases hi : i < s.size
    · obtain ⟨x, hx⟩ : ∃ x : UInt8, s[i]'hi = x := ⟨_, rfl⟩
      have hxl : s.data.toList[i]? = some x := by rw [← hx]; exact Lib.data_getElem? s i hi
      have Hx : Aside (s.data.toList[i]? = some x) := hxl
      obtain ⟨gk, rfl⟩ : ∃ g, gk = g + 1 := ⟨gk - 1, by omega⟩
      have hlt : w.heap.size < wr.heap.size := (Array.getElem?_eq_some_iff.1 hit).1
      by_cases hx128 : x.toNat < 128
      · have hnx := fun ty => run_next_at (P := P) wr w.heap.size s i x.toNat 1 ty hi hit (by have := decode_ascii s i hi (by rw [hx]; exact hx128); rw [hx] at this; exact this)
        have Hw1 : Aside ((setIter wr w.heap.size s (i + 1)).heap[w.heap.size]? = some (.stringIter s (i + 1))) := setIter_at wr w.heap.size s (i + 1) hlt
        have HB1 : Aside (Below w.heap.size w (setIter wr w.heap.size s (i + 1))) := setIter_below s (i + 1) HB.out
        generalize setIter wr w.heap.size s (i + 1) = w1 at hnx Hw1 HB1
        clear hxl hx hit
        have hcon := Lib.contains_iff_indexByte chars.data.toList x
        have hback : ((x.toNat : Int)).toNat.toUInt8 = x := by simp
        cases hin : chars.data.toList.contains x
        · rw [hin] at hcon
          have hlt : ¬ ((0 : Int) ≤ Lib.indexByte chars.data.toList x) := of_decide_eq_false hcon.symm
          clear hcon
          go_wp2_with (go_at_fn (ρ.f 152); refine (Any.strings_IndexRune_ascii { L with } _ _ _ (by omega) (by omega)).mono ?_; rintro e w' ⟨rfl, hw⟩; rw [hw, hback])
          go_roundg gk
          case measure => omega
          case rel => exact ⟨i + 1, by omega, by omega, Hw1.out, HB1.out, HN.out.succ Hx.out hin⟩
        · rw [hin] at hcon
          have hge : (0 : Int) ≤ Lib.indexByte chars.data.toList x := of_decide_eq_true hcon.symm
          clear hcon
          go_wp2_with (go_at_fn (ρ.f 152); refine (Any.strings_IndexRune_ascii { L with } _ _ _ (by omega) (by omega)).mono ?_; rintro e w' ⟨rfl, hw⟩; rw [hw, hback])
          go_ret
          exact ⟨by rw [Lib.indexAny_hit HN.out Hx.out hin]; rfl, HB1.out⟩
      · obtain ⟨r, k, hd, hr128, hrv, hk1, hks, hkb⟩ := decode_hi s i hi (by rw [hx]; omega)
        have hnx := fun ty => run_next_at (P := P) wr w.heap.size s i r k ty hi hit hd
        have hw1 : (setIter wr w.heap.size s (i + k)).heap[w.heap.size]? = some (.stringIter s (i + k)) := setIter_at wr w.heap.size s (i + k) hlt
        have Hw1 : Aside ((setIter wr w.heap.size s (i + k)).heap[w.heap.size]? = some (.stringIter s (i + k))) := hw1
        have HB1 : Aside (Below w.heap.size w (setIter wr w.heap.size s (i + k))) := setIter_below s (i + k) HB.out
        have hlt1 : w.heap.size < (setIter wr w.heap.size s (i + k)).heap.size := by rw [setIter_size]; exact hlt
        generalize setIter wr w.heap.size s (i + k) = w1 at hnx Hw1 HB1 hlt1
        have HN1 : Aside (Lib.NoAny s.data.toList chars.data.toList (i + k)) := fun j b hj hb => by
          by_cases hji : j < i
          · exact HN.out j b hji hb
          · have hjs : j < s.size := by omega
            have h128 := hkb j hjs (by omega) hj
            rw [Lib.data_getElem? s j hjs] at hb
            injection hb with hb
            rw [hb] at h128
            cases hc : chars.data.toList.contains b with
            | false => rfl
            | true =>
              have := HA.out b (List.contains_iff_mem.1 hc)
              omega
        have hrI : (128 : Int) ≤ (r : Int) := by omega
        clear hxl hx hit hw1 hkb hd
        go_wp2_with (go_at_fn (ρ.f 152); refine (Any.strings_IndexRune_high { L with } _ _ _ HA.out hrv hrI).mono ?_; rintro e w2 ⟨rfl, hw⟩)
        go_roundg gk
        case measure => omega
        case rel => exact ⟨i + k, by omega, by omega, (hw.block _ hlt1).trans Hw1.out, HB1.out.trans (hw.mono (Nat.le_of_lt hlt1)), HN1.out⟩
    · obtain rfl : i = s.size := by omega
      have hnx := fun ty => run_next_off (P := P) wr w.heap.size s s.size ty hi hit
      clear hit
      go_wp2
      go_ret
      exact ⟨by rw [Lib.indexAny_none (by rw [← Lib.size_eq]; exact HN.out)]; rfl, HB.out⟩
theorem Any.strings_IndexAny_text (L : Lays.n153 P ρ) (h116 : (P.info? (ρ.t 116)).map (fun i => (i.zero, i.size)) = some (some (.agg (Array.replicate 256 (.bool false))), 256)) (s chars : ByteArray) (w : World) (h2 : 2 ≤ chars.size) (hs : s.size < 4294967281) (hcs : chars.size < 4294967281) (hascii : ∀ b, b ∈ chars.data.toList → b.toNat < 128) :
    Calls P (ρ.f 153) #[.string s, .string chars] w fun e w' => e = .returned (.int .i64 (Lib.indexAny s.data.toList chars.data.toList)) ∧ Below w.heap.size w w' := by
  by_cases h8 : s.size ≤ 8
  · exact Any.strings_IndexAny_little L s chars w h2 h8 hcs hascii
  · refine (Any.strings_IndexAny_long L (zero_of_info h116).1 (zero_of_info h116).2 s chars w h2 (by omega) hs hcs fun j b hb => hascii b (List.mem_of_getElem? hb)).mono fun e w' ⟨h1, h2⟩ => ⟨h1, ?_⟩
    rw [h2]
    exact ((Below.refl _ _).alloc (Nat.le_refl _) _).alloc (by simp) _
end Go.Proofs

namespace Go.Proofs
open Go.Shelf Go.RowKit Go.Lib
variable {P : Program} {ρ : Ren}
set_option maxHeartbeats 1000000 in
theorem Any.strings_ContainsAny_text (L : Lays.n150 P ρ) (h116 : (P.info? (ρ.t 116)).map (fun i => (i.zero, i.size)) = some (some (.agg (Array.replicate 256 (.bool false))), 256)) (s chars : ByteArray) (w : World) (h2 : 2 ≤ chars.size) (hs : s.size < 4294967281) (hcs : chars.size < 4294967281) (hascii : ∀ b, b ∈ chars.data.toList → b.toNat < 128) :
    Calls P (ρ.f 150) #[.string s, .string chars] w fun e w' => e = .returned (.bool (Lib.containsAny s.data.toList chars.data.toList)) ∧ Below w.heap.size w w' := by
  have c := Any.strings_IndexAny_text { L with } h116 s chars w h2 hs hcs hascii
  have t3 := L.t3; have a3 := L.a3; have z3 := L.z3; have v3 := L.v3
  have t4 := L.t4; have a4 := L.a4; have z4 := L.z4; have v4 := L.v4
  have t9 := L.t9; have a9 := L.a9; have z9 := L.z9; have v9 := L.v9
  have e153 : ∀ args w, (callFunc (ρ.f 153) args).run P w = .ok (.enter (ρ.f 153) args) w := enters_of L.f153 (by kernel_rfl) rfl
  go_enter L.f150, Body.n150_ntmps ρ
  go_wp2_with (go_at_fn (ρ.f 153); refine c.mono ?_; rintro e w' ⟨rfl, hw⟩)
  go_ret
  exact ⟨rfl, hw⟩
theorem Try.any123 : Try.lays150_ren.f 150 = 123 := by kernel_rfl
theorem containsAny_any : ∀ (s chars : List UInt8), Lib.containsAny s chars = s.any fun c => chars.contains c
  | [], _ => rfl
  | b :: l, chars => by
    have ih := containsAny_any l chars
    have hge := Lib.indexAny_ge chars l
    unfold Lib.containsAny at ih ⊢
    have he : Lib.indexAny (b :: l) chars = if chars.contains b then 0 else if Lib.indexAny l chars == -1 then -1 else Lib.indexAny l chars + 1 := rfl
    rw [List.any_cons, ← ih, he]
    cases hb : chars.contains b with
    | true => simp
    | false =>
      simp only [Bool.false_eq_true, if_false, Bool.false_or]
      split
      · rename_i h
        rw [beq_iff_eq] at h
        rw [h]
      · rename_i h
        have h : Lib.indexAny l chars ≠ -1 := by simpa using h
        have : decide ((0 : Int) ≤ Lib.indexAny l chars) = true := decide_eq_true (by omega)
        rw [this]
        exact decide_eq_true (by omega)
end Go.Proofs
namespace Go.Ev
open Go.Proofs
/-- a call that hands nothing over and leaves one value -/
theorem snd_below {P : Program} {f : FuncId} {vs : List SV} {x : SV} {args : List Value} {w : World} {I : Nat → Prop} {β : Beta} (hp : Pre w I β vs [] args) {v : Value} (hv : ∀ w' β, RepSV w' I β x v) (h : Calls P f args.toArray w fun e w' => e = .returned v ∧ Go.RowKit.Below w.heap.size w w') :
    Calls P f args.toArray w fun e w' => ∃ v' β' I', e = .returned v' ∧ Left w I β [] (x, [], []) v' w' β' I' := by
  refine h.mono ?_
  rintro e w' ⟨rfl, hb⟩
  refine ⟨v, β, I, rfl, fun j hj => by simp at hj, fun b hb => hb, fun b hb => .inl hb, fun b hb' => Nat.lt_of_lt_of_le (hp.lt b hb') hb.size, ⟨hb.os, hb.tape, hb.output, hb.size, fun b hlt _ => hb.block b hlt, fun b cs e fr hh => ⟨cs, fr, by rw [hb.block b (lt_of_heap hh)]; exact hh, rfl⟩⟩, hv w' β, rfl, fun j m o hm => by simp at hm, fun i m hm => by simp at hm, fun j b base o ho => by simp at ho, fun i b base hi => by simp at hi, fun i i' b s s' hi => by simp at hi, fun i j b s s' o hi => by simp at hi⟩
theorem rep_strB {w : World} {I : Nat → Prop} {β : Beta} {v : Value} {s : List UInt8} (h : RepSV w I β (.c (.one (.t (.str s)))) v) : ∃ b : ByteArray, v = .string b ∧ b.data.toList = s := by
  have h : Rd w I v (.str s) := h
  generalize hs : T.str s = t at h
  cases h with
  | str b => injection hs with hs; exact ⟨b, rfl, hs.symm⟩
  | _ => cases hs
theorem any_snd {vs : List SV} {r : SV × List Mem} (hr : anyS vs = some r) : Snd Try.prog 123 vs [] (r.1, [], r.2) := by
  unfold anyS at hr
  split at hr
  · rename_i s
    split at hr
    · rename_i hlen
      injection hr with hr
      subst hr
      intro w I β args hp
      obtain ⟨a1, a2, rfl⟩ : ∃ a1 a2, args = [a1, a2] := by
        have := hp.args.len
        match args, this with
        | [a1, a2], _ => exact ⟨a1, a2, rfl⟩
      obtain ⟨b1, rfl, h1⟩ := rep_strB hp.args.1
      obtain ⟨b2, rfl, h2⟩ := rep_strB hp.args.2.1
      refine snd_below hp (v := .bool (s.any fun c => c == 13 || c == 10 || c == 0)) (fun w' β => .bool _) ?_
      have hsz : b1.size = s.length := by rw [← h1]; exact Lib.size_eq b1
      have hsz2 : b2.size = 3 := by rw [Lib.size_eq b2, h2]; rfl
      have h := Any.strings_ContainsAny_text Try.lays150 Try.set150 b1 b2 w (by omega) (by omega) (by omega) (by rw [h2]; intro b hb; simp at hb; rcases hb with rfl | rfl | rfl <;> decide)
      rw [Try.any123, h1, h2, containsAny_any] at h
      have he : (fun c : UInt8 => [(13 : UInt8), 10, 0].contains c) = fun c => c == 13 || c == 10 || c == 0 := by
        funext c
        show ((c == 13) || ((c == 10) || ((c == 0) || false))) = _
        rw [Bool.or_false, Bool.or_assoc]
      rw [he] at h
      exact h
    · cases hr
  · cases hr
end Go.Ev

namespace Go.Ev
open Go.Proofs
set_option maxRecDepth 100000
theorem S0_sound : SumSound Try.prog S0 := by
  intro f F vs res news hS hF
  unfold S0 at hS
  split at hS <;> first | cases hS | skip
  · exact ⟨by kernel_rfl, cloneS_snd cl59 hF⟩
  · exact ⟨by kernel_rfl, cloneS_snd cl93 hF⟩
  · exact ⟨by kernel_rfl, cloneS_snd cl94 hF⟩
  · exact ⟨by kernel_rfl, cloneS_snd cl103 hF⟩
  · exact ⟨by kernel_rfl, cloneS_snd cl104 hF⟩
  · exact ⟨by kernel_rfl, any_snd hF⟩
theorem mixedP : Try.prog.follows .mixedOrders = true := by kernel_rfl
theorem cz_sound (n d : Nat) : CallSound Try.prog (cz n d) := callZ_ok mixedP Go.Proofs.Ytbempckmbfbjgaa.Code.tab_ok S0_sound n d
end Go.Ev
