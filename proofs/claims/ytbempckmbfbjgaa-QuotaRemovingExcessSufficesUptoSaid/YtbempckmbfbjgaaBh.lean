/- Mailboxes and changes. No condition. -/
import Derived.Test.YtbempckmbfbjgaaBg
set_option linter.unusedVariables false
set_option linter.unusedSimpArgs false
set_option linter.constructorNameAsVariable false
set_option linter.unnecessarySimpa false
namespace Go.Ev
open Go.Proofs.Ytbempckmbfbjgaa.Code
set_option maxRecDepth 100000
def h102 : Hints := ⟨[], [], [], []⟩
def h101 (l : List Stored) (u : Int) : Hints := ⟨[], [], [(0, (.or (.ret (.exit 0 [((.s 0), (.sv (svL 6 (l.map Stored.enc)))), ((.s 1), (.sv (.c (.one (.fn 102 [(1000000, 1)]))))), ((.c 1000000 0), (.cell (.t (tI u))))])) (.ex (Int) fun j => (.ret (.ret [((.s 0), (.sv (svL 6 (l.map Stored.enc)))), ((.s 1), (.sv (.c (.one (.fn 102 [(1000000, 1)]))))), ((.s 4), (.sv (svI (j)))), ((.c 1000000 0), (.cell (.t (tI u))))])))))], []⟩
def hb101_0  : Hints := ⟨[(14, eStored)], [(16, (.ex (Bool) fun b => .ret (svB b, [.box [none]], [])))], [], []⟩
abbrev C101_0 (l : List Stored) (u : Int) (i : Nat) : St := [((.s 0), (.sv (svL 6 (l.map Stored.enc)))), ((.s 1), (.sv (.c (.one (.fn 102 [(1000000, 1)]))))), ((.s 7), (.sv (svI ((((l.map Stored.enc).length : Nat) : Int))))), ((.s 8), (.sv (svI ((i : Int))))), ((.c 1000000 0), (.cell (.t (tI u))))]
def h83 : Hints := ⟨[], [(8, (.ex (Int) fun i => .ret (svI i, [.box [none]], [])))], [], []⟩
def h99 : Hints := ⟨[], [], [], []⟩
def h95 (l : List GoneE) (a b : Int) : Hints := ⟨[], [], [(0, (.or (.ret (.exit 0 [((.s 0), (.sv (svL 2 (l.map GoneE.enc)))), ((.s 1), (.sv (.c (.one (.fn 99 [(1000000, 2)]))))), ((.c 1000000 0), (.cell (.t (tI a)))), ((.c 1000000 1), (.cell (.t (tI b))))])) (.ex (Int) fun j => (.ret (.ret [((.s 0), (.sv (svL 2 (l.map GoneE.enc)))), ((.s 1), (.sv (.c (.one (.fn 99 [(1000000, 2)]))))), ((.s 4), (.sv (svI (j)))), ((.c 1000000 0), (.cell (.t (tI a)))), ((.c 1000000 1), (.cell (.t (tI b))))])))))], []⟩
def hb95_0  : Hints := ⟨[(14, eGone)], [(16, (.ex (Bool) fun b => .ret (svB b, [.box [none, none]], [])))], [], []⟩
abbrev C95_0 (l : List GoneE) (a b : Int) (i : Nat) : St := [((.s 0), (.sv (svL 2 (l.map GoneE.enc)))), ((.s 1), (.sv (.c (.one (.fn 99 [(1000000, 2)]))))), ((.s 7), (.sv (svI ((((l.map GoneE.enc).length : Nat) : Int))))), ((.s 8), (.sv (svI ((i : Int))))), ((.c 1000000 0), (.cell (.t (tI a)))), ((.c 1000000 1), (.cell (.t (tI b))))]
def h100 : Hints := ⟨[], [(7, (.ex (Int) fun i => .ret (svI i, [.box [none, none]], [])))], [], []⟩
def h81 : Hints := ⟨[(10, eGone), (43, eGone)], [(54, (.ex (Bool) fun b => .ret (svB b, [.box [none, none]], []))), (59, rInt)], [], []⟩
def h54 (m : Box) : Hints := ⟨[], [], [(0, (.or (.ex (Fault) fun f => (.ret (.ret [((.s 2), (.sv (.c (.one (.ptr 200 2 0))))), ((.c 200 0), (.cell (.t (tI f.code)))), ((.c 200 1), (.cell (.t (tI f.index))))]))) (.ret (.exit 1 [((.s 1), (.sv (.c (.one (.ptr 100 5 0))))), ((.s 2), (.sv (.c (.one (.ptr 200 2 0))))), ((.c 100 0), (.cell (.t (tI m.nextUid)))), ((.c 100 1), (.cell (.t (tI m.nextSeq)))), ((.c 100 2), (.cell (.t (tI m.horizon)))), ((.c 100 3), (.cell (.t (m.es)))), ((.c 100 4), (.cell (.t (m.gs)))), ((.c 200 0), (.cell (.t (tI 0)))), ((.c 200 1), (.cell (.t (tI 0))))])))), (1, (.or (.ex (Fault) fun f => (.ret (.ret [((.s 2), (.sv (.c (.one (.ptr 200 2 0))))), ((.c 200 0), (.cell (.t (tI f.code)))), ((.c 200 1), (.cell (.t (tI f.index))))]))) (.ret (.exit 4 [((.s 2), (.sv (.c (.one (.ptr 200 2 0))))), ((.c 200 0), (.cell (.t (tI 0)))), ((.c 200 1), (.cell (.t (tI 0))))]))))], []⟩
def hb54_0  : Hints := ⟨[(47, eStored), (90, eStored)], [(99, rFault)], [], []⟩
abbrev C54_0 (m : Box) (i : Nat) : St := [((.s 1), (.sv (.c (.one (.ptr 100 5 0))))), ((.s 2), (.sv (.c (.one (.ptr 200 2 0))))), ((.s 42), (.sv (svL 6 (m.entries.map Stored.enc)))), ((.s 43), (.sv (svI ((((m.entries.map Stored.enc).length : Nat) : Int))))), ((.s 44), (.sv (svI ((i : Int))))), ((.c 100 0), (.cell (.t (tI m.nextUid)))), ((.c 100 1), (.cell (.t (tI m.nextSeq)))), ((.c 100 2), (.cell (.t (tI m.horizon)))), ((.c 100 3), (.cell (.t (m.es)))), ((.c 100 4), (.cell (.t (m.gs)))), ((.c 200 0), (.cell (.t (tI 0)))), ((.c 200 1), (.cell (.t (tI 0))))]
def hb54_1  : Hints := ⟨[], [(115, rInt)], [], []⟩
abbrev C54_1 (m : Box) (i : Nat) : St := [((.s 1), (.sv (.c (.one (.ptr 100 5 0))))), ((.s 2), (.sv (.c (.one (.ptr 200 2 0))))), ((.s 109), (.sv (svI ((((m.gone.map GoneE.enc).length : Nat) : Int))))), ((.s 110), (.sv (svI ((i : Int))))), ((.c 100 0), (.cell (.t (tI m.nextUid)))), ((.c 100 1), (.cell (.t (tI m.nextSeq)))), ((.c 100 2), (.cell (.t (tI m.horizon)))), ((.c 100 3), (.cell (.t (m.es)))), ((.c 100 4), (.cell (.t (m.gs)))), ((.c 200 0), (.cell (.t (tI 0)))), ((.c 200 1), (.cell (.t (tI 0))))]
theorem w102 (cl : CallFn) (n : Nat) (e : Stored) (u : Int) (Q : CRes → Prop) : (wpZ S0 (mix D0 cl) (h102) n false c102 [e.sv, .c (.one (.ptr 1000000 1 0))] [.box [.t (tI u)]] Q) = 
 (fork (e.uid == u)
 (Q ((svB true), ([(.box [none])], [])))
 (Q ((svB false), ([(.box [none])], [])))) := by kernel_rfl
theorem w101 (cl : CallFn) (n : Nat) (l : List Stored) (u : Int) (Q : CRes → Prop) : (wpZ S0 (mix D0 cl) (h101 l u) n false c101 [svL 6 (l.map Stored.enc), .c (.one (.fn 102 [(1000000, 1)]))] [.box [.t (tI u)]] Q) = 
 (((At S0 (mix D0 cl) n [0, 1, 7, 8] c101l0 [((.s 0), (.sv (svL 6 (List.map Stored.enc l)))), ((.s 1), (.sv (.c (.one (.fn 102 [(1000000, 1)]))))), ((.s 7), (.sv (svI (((List.length (List.map Stored.enc l)) : Nat) : Int)))), ((.s 8), (.sv (svI 0))), ((.c 1000000 0), (.cell (.t (tI u))))] n (.exit 0 [((.s 0), (.sv (svL 6 (List.map Stored.enc l)))), ((.s 1), (.sv (.c (.one (.fn 102 [(1000000, 1)]))))), ((.c 1000000 0), (.cell (.t (tI u))))])) ∧
 (Q ((svI (-1)), ([(.box [none])], [])))) ∨
 (∃ (y5 : Int), ((At S0 (mix D0 cl) n [0, 1, 7, 8] c101l0 [((.s 0), (.sv (svL 6 (List.map Stored.enc l)))), ((.s 1), (.sv (.c (.one (.fn 102 [(1000000, 1)]))))), ((.s 7), (.sv (svI (((List.length (List.map Stored.enc l)) : Nat) : Int)))), ((.s 8), (.sv (svI 0))), ((.c 1000000 0), (.cell (.t (tI u))))] n (.ret [((.s 0), (.sv (svL 6 (List.map Stored.enc l)))), ((.s 1), (.sv (.c (.one (.fn 102 [(1000000, 1)]))))), ((.s 4), (.sv (svI y5))), ((.c 1000000 0), (.cell (.t (tI u))))])) ∧
 (Q ((svI y5), ([(.box [none])], [])))))) := by kernel_rfl
theorem b101_0 (cl : CallFn) (n : Nat) (l : List Stored) (u : Int) (i : Nat) (Q : Out → Prop) : (wpBody S0 (mix D0 cl) (hb101_0) n [0, 1, 7, 8] c101l0 (C101_0 l u i) Q) = 
 (fork (decide (((i : Nat) : Int) < (((List.length (List.map Stored.enc l)) : Nat) : Int)))
 (((0 : Int) ≤ ((i : Nat) : Int)) ∧
 (∃ (y6 : Stored), ((((List.map Stored.enc l))[i]? = (some [(tI y6.uid), (tI y6.seq), (tI y6.flags), (tI y6.at_), (T.sl 2 (List.map Field.enc y6.msg.fields)), (T.sl 1 (List.map byteT y6.msg.body))])) ∧
 (∃ (y7 : Bool), (((cl 102 [(.c (.agg [(.t (tI y6.uid)), (.t (tI y6.seq)), (.t (tI y6.flags)), (.t (tI y6.at_)), (.t (T.sl 2 (List.map Field.enc y6.msg.fields))), (.t (T.sl 1 (List.map byteT y6.msg.body)))])), (.c (.one (.ptr 1000000 1 0)))] [(.box [(.t (tI u))])]) = (some ((svB y7), ([(.box [none])], [])))) ∧
 (fork y7
 (Q (.ret [((.s 0), (.sv (svL 6 (List.map Stored.enc l)))), ((.s 1), (.sv (.c (.one (.fn 102 [(1000000, 1)]))))), ((.s 4), (.sv (svI ((i : Nat) : Int)))), ((.c 1000000 0), (.cell (.t (tI u))))]))
 (Q (.norm [((.s 0), (.sv (svL 6 (List.map Stored.enc l)))), ((.s 1), (.sv (.c (.one (.fn 102 [(1000000, 1)]))))), ((.s 7), (.sv (svI (((List.length (List.map Stored.enc l)) : Nat) : Int)))), ((.s 8), (.sv (svI (IntKind.wrap .i64 (((i : Nat) : Int) + 1))))), ((.c 1000000 0), (.cell (.t (tI u))))]))))))))
 (Q (.exit 0 [((.s 0), (.sv (svL 6 (List.map Stored.enc l)))), ((.s 1), (.sv (.c (.one (.fn 102 [(1000000, 1)]))))), ((.c 1000000 0), (.cell (.t (tI u))))]))) := by kernel_rfl
theorem w83 (cl : CallFn) (n : Nat) (m : Box) (u : Int) (Q : CRes → Prop) : (wpZ S0 (mix D0 cl) (h83) n false c83 [m.sv, svI u] [] Q) = 
 (∃ (y5 : Int), (((cl 101 [(svL 6 (List.map Stored.enc m.entries)), (.c (.one (.fn 102 [(1000000, 1)])))] [(.box [(.t (tI u))])]) = (some ((svI y5), ([(.box [none])], [])))) ∧
 (Q (out (svI y5))))) := by kernel_rfl
theorem w99 (cl : CallFn) (n : Nat) (e : GoneE) (a b : Int) (Q : CRes → Prop) : (wpZ S0 (mix D0 cl) (h99) n false c99 [.c (.agg [.t (tI e.uid), .t (tI e.seq)]), .c (.one (.ptr 1000000 2 0))] [.box [.t (tI a), .t (tI b)]] Q) = 
 (fork (e.uid == a)
 (Q ((svB true), ([(.box [none, none])], [])))
 (Q ((svB false), ([(.box [none, none])], [])))) := by kernel_rfl
theorem w95 (cl : CallFn) (n : Nat) (l : List GoneE) (a b : Int) (Q : CRes → Prop) : (wpZ S0 (mix D0 cl) (h95 l a b) n false c95 [svL 2 (l.map GoneE.enc), .c (.one (.fn 99 [(1000000, 2)]))] [.box [.t (tI a), .t (tI b)]] Q) = 
 (((At S0 (mix D0 cl) n [0, 1, 7, 8] c95l0 [((.s 0), (.sv (svL 2 (List.map GoneE.enc l)))), ((.s 1), (.sv (.c (.one (.fn 99 [(1000000, 2)]))))), ((.s 7), (.sv (svI (((List.length (List.map GoneE.enc l)) : Nat) : Int)))), ((.s 8), (.sv (svI 0))), ((.c 1000000 0), (.cell (.t (tI a)))), ((.c 1000000 1), (.cell (.t (tI b))))] n (.exit 0 [((.s 0), (.sv (svL 2 (List.map GoneE.enc l)))), ((.s 1), (.sv (.c (.one (.fn 99 [(1000000, 2)]))))), ((.c 1000000 0), (.cell (.t (tI a)))), ((.c 1000000 1), (.cell (.t (tI b))))])) ∧
 (Q ((svI (-1)), ([(.box [none, none])], [])))) ∨
 (∃ (y6 : Int), ((At S0 (mix D0 cl) n [0, 1, 7, 8] c95l0 [((.s 0), (.sv (svL 2 (List.map GoneE.enc l)))), ((.s 1), (.sv (.c (.one (.fn 99 [(1000000, 2)]))))), ((.s 7), (.sv (svI (((List.length (List.map GoneE.enc l)) : Nat) : Int)))), ((.s 8), (.sv (svI 0))), ((.c 1000000 0), (.cell (.t (tI a)))), ((.c 1000000 1), (.cell (.t (tI b))))] n (.ret [((.s 0), (.sv (svL 2 (List.map GoneE.enc l)))), ((.s 1), (.sv (.c (.one (.fn 99 [(1000000, 2)]))))), ((.s 4), (.sv (svI y6))), ((.c 1000000 0), (.cell (.t (tI a)))), ((.c 1000000 1), (.cell (.t (tI b))))])) ∧
 (Q ((svI y6), ([(.box [none, none])], [])))))) := by kernel_rfl
theorem b95_0 (cl : CallFn) (n : Nat) (l : List GoneE) (a b : Int) (i : Nat) (Q : Out → Prop) : (wpBody S0 (mix D0 cl) (hb95_0) n [0, 1, 7, 8] c95l0 (C95_0 l a b i) Q) = 
 (fork (decide (((i : Nat) : Int) < (((List.length (List.map GoneE.enc l)) : Nat) : Int)))
 (((0 : Int) ≤ ((i : Nat) : Int)) ∧
 (∃ (y7 : GoneE), ((((List.map GoneE.enc l))[i]? = (some [(tI y7.uid), (tI y7.seq)])) ∧
 (∃ (y8 : Bool), (((cl 99 [(.c (.agg [(.t (tI y7.uid)), (.t (tI y7.seq))])), (.c (.one (.ptr 1000000 2 0)))] [(.box [(.t (tI a)), (.t (tI b))])]) = (some ((svB y8), ([(.box [none, none])], [])))) ∧
 (fork y8
 (Q (.ret [((.s 0), (.sv (svL 2 (List.map GoneE.enc l)))), ((.s 1), (.sv (.c (.one (.fn 99 [(1000000, 2)]))))), ((.s 4), (.sv (svI ((i : Nat) : Int)))), ((.c 1000000 0), (.cell (.t (tI a)))), ((.c 1000000 1), (.cell (.t (tI b))))]))
 (Q (.norm [((.s 0), (.sv (svL 2 (List.map GoneE.enc l)))), ((.s 1), (.sv (.c (.one (.fn 99 [(1000000, 2)]))))), ((.s 7), (.sv (svI (((List.length (List.map GoneE.enc l)) : Nat) : Int)))), ((.s 8), (.sv (svI (IntKind.wrap .i64 (((i : Nat) : Int) + 1))))), ((.c 1000000 0), (.cell (.t (tI a)))), ((.c 1000000 1), (.cell (.t (tI b))))]))))))))
 (Q (.exit 0 [((.s 0), (.sv (svL 2 (List.map GoneE.enc l)))), ((.s 1), (.sv (.c (.one (.fn 99 [(1000000, 2)]))))), ((.c 1000000 0), (.cell (.t (tI a)))), ((.c 1000000 1), (.cell (.t (tI b))))]))) := by kernel_rfl
theorem w100 (cl : CallFn) (n : Nat) (l : List GoneE) (a b : Int) (Q : CRes → Prop) : (wpZ S0 (mix D0 cl) (h100) n false c100 [svL 2 (l.map GoneE.enc), .c (.one (.fn 99 [(1000000, 2)]))] [.box [.t (tI a), .t (tI b)]] Q) = 
 (∃ (y6 : Int), (((cl 95 [(svL 2 (List.map GoneE.enc l)), (.c (.one (.fn 99 [(1000000, 2)])))] [(.box [(.t (tI a)), (.t (tI b))])]) = (some ((svI y6), ([(.box [none, none])], [])))) ∧
 (fork (decide (y6 ≥ 0))
 (Q ((svB true), ([(.box [none, none])], [])))
 (Q ((svB false), ([(.box [none, none])], [])))))) := by kernel_rfl
theorem w81 (cl : CallFn) (n : Nat) (m : Box) (k : Nat) (Q : CRes → Prop) : (wpZ S0 (mix D0 cl) (h81) n false c81 [m.sv, svI k] [] Q) = 
 (((0 : Int) ≤ ((k : Nat) : Int)) ∧
 (∃ (y5 : GoneE), ((((List.map GoneE.enc m.gone))[k]? = (some [(tI y5.uid), (tI y5.seq)])) ∧
 (fork (inB y5.uid 1 (IntKind.wrap .i64 (m.nextUid - 1)))
 (fork (inB y5.seq (IntKind.wrap .i64 (m.horizon + 1)) (IntKind.wrap .i64 (m.nextSeq - 1)))
 (fork (decide (((k : Nat) : Int) > 0))
 (((0 : Int) ≤ (IntKind.wrap .i64 (((k : Nat) : Int) - 1))) ∧
 (∃ (y6 : GoneE), ((((List.map GoneE.enc m.gone))[(Int.toNat (IntKind.wrap .i64 (((k : Nat) : Int) - 1)))]? = (some [(tI y6.uid), (tI y6.seq)])) ∧
 (fork (decide (y5.seq ≤ y6.seq))
 (Q (out (svI 19)))
 (((0 : Int) ≤ ((k : Nat) : Int)) ∧
 (((0 ≤ k) ∧
 (k ≤ (List.length (List.map GoneE.enc m.gone)))) ∧
 (∃ (y7 : Bool), (((cl 100 [(svL 2 (List.drop 0 (List.take k (List.map GoneE.enc m.gone)))), (.c (.one (.fn 99 [(1000000, 2)])))] [(.box [(.t (tI y5.uid)), (.t (tI y5.seq))])]) = (some ((svB y7), ([(.box [none, none])], [])))) ∧
 (fork y7
 (Q (out (svI 7)))
 (∃ (y8 : Int), (((cl 83 [(.c (.agg [(.t (tI m.nextUid)), (.t (tI m.nextSeq)), (.t (tI m.horizon)), (.t (T.sl 6 (List.map Stored.enc m.entries))), (.t (T.sl 2 (List.map GoneE.enc m.gone)))])), (svI y5.uid)] []) = (some (out (svI y8)))) ∧
 (fork (decide (y8 ≥ 0))
 (Q (out (svI 7)))
 (Q (out (svI 0)))))))))))))))
 (((0 : Int) ≤ ((k : Nat) : Int)) ∧
 (((0 ≤ k) ∧
 (k ≤ (List.length (List.map GoneE.enc m.gone)))) ∧
 (∃ (y6 : Bool), (((cl 100 [(svL 2 (List.drop 0 (List.take k (List.map GoneE.enc m.gone)))), (.c (.one (.fn 99 [(1000000, 2)])))] [(.box [(.t (tI y5.uid)), (.t (tI y5.seq))])]) = (some ((svB y6), ([(.box [none, none])], [])))) ∧
 (fork y6
 (Q (out (svI 7)))
 (∃ (y7 : Int), (((cl 83 [(.c (.agg [(.t (tI m.nextUid)), (.t (tI m.nextSeq)), (.t (tI m.horizon)), (.t (T.sl 6 (List.map Stored.enc m.entries))), (.t (T.sl 2 (List.map GoneE.enc m.gone)))])), (svI y5.uid)] []) = (some (out (svI y7)))) ∧
 (fork (decide (y7 ≥ 0))
 (Q (out (svI 7)))
 (Q (out (svI 0))))))))))))
 (Q (out (svI 3))))
 (Q (out (svI 3))))))) := by kernel_rfl
theorem w54 (cl : CallFn) (n : Nat) (m : Box) (Q : CRes → Prop) : (wpZ S0 (mix D0 cl) (h54 m) n false c54 [m.sv] [] Q) = 
 (fork (decide ((((List.length (List.map Stored.enc m.entries)) : Nat) : Int) > 200))
 (Q (out (.c (.agg [(.t (tI 2)), (.t (tI (-1)))]))))
 (fork (decide ((((List.length (List.map GoneE.enc m.gone)) : Nat) : Int) > 400))
 (Q (out (.c (.agg [(.t (tI 2)), (.t (tI (-2)))]))))
 (fork (inB m.nextUid 1 1000000)
 (fork (inB m.nextSeq 1 1000000)
 (fork (inB m.horizon 0 (IntKind.wrap .i64 (m.nextSeq - 1)))
 ((∃ (y4 : Fault), ((At S0 (mix D0 cl) n [1, 2, 42, 43, 44] c54l0 [((.s 1), (.sv (.c (.one (.ptr 100 5 0))))), ((.s 2), (.sv (.c (.one (.ptr 200 2 0))))), ((.s 42), (.sv (svL 6 (List.map Stored.enc m.entries)))), ((.s 43), (.sv (svI (((List.length (List.map Stored.enc m.entries)) : Nat) : Int)))), ((.s 44), (.sv (svI 0))), ((.c 100 0), (.cell (.t (tI m.nextUid)))), ((.c 100 1), (.cell (.t (tI m.nextSeq)))), ((.c 100 2), (.cell (.t (tI m.horizon)))), ((.c 100 3), (.cell (.t (T.sl 6 (List.map Stored.enc m.entries))))), ((.c 100 4), (.cell (.t (T.sl 2 (List.map GoneE.enc m.gone))))), ((.c 200 0), (.cell (.t (tI 0)))), ((.c 200 1), (.cell (.t (tI 0))))] n (.ret [((.s 2), (.sv (.c (.one (.ptr 200 2 0))))), ((.c 200 0), (.cell (.t (tI y4.code)))), ((.c 200 1), (.cell (.t (tI y4.index))))])) ∧
 (Q (out (.c (.agg [(.t (tI y4.code)), (.t (tI y4.index))])))))) ∨
 ((At S0 (mix D0 cl) n [1, 2, 42, 43, 44] c54l0 [((.s 1), (.sv (.c (.one (.ptr 100 5 0))))), ((.s 2), (.sv (.c (.one (.ptr 200 2 0))))), ((.s 42), (.sv (svL 6 (List.map Stored.enc m.entries)))), ((.s 43), (.sv (svI (((List.length (List.map Stored.enc m.entries)) : Nat) : Int)))), ((.s 44), (.sv (svI 0))), ((.c 100 0), (.cell (.t (tI m.nextUid)))), ((.c 100 1), (.cell (.t (tI m.nextSeq)))), ((.c 100 2), (.cell (.t (tI m.horizon)))), ((.c 100 3), (.cell (.t (T.sl 6 (List.map Stored.enc m.entries))))), ((.c 100 4), (.cell (.t (T.sl 2 (List.map GoneE.enc m.gone))))), ((.c 200 0), (.cell (.t (tI 0)))), ((.c 200 1), (.cell (.t (tI 0))))] n (.exit 1 [((.s 1), (.sv (.c (.one (.ptr 100 5 0))))), ((.s 2), (.sv (.c (.one (.ptr 200 2 0))))), ((.c 100 0), (.cell (.t (tI m.nextUid)))), ((.c 100 1), (.cell (.t (tI m.nextSeq)))), ((.c 100 2), (.cell (.t (tI m.horizon)))), ((.c 100 3), (.cell (.t (T.sl 6 (List.map Stored.enc m.entries))))), ((.c 100 4), (.cell (.t (T.sl 2 (List.map GoneE.enc m.gone))))), ((.c 200 0), (.cell (.t (tI 0)))), ((.c 200 1), (.cell (.t (tI 0))))])) ∧
 ((∃ (y4 : Fault), ((At S0 (mix D0 cl) n [1, 2, 109, 110] c54l1 [((.s 1), (.sv (.c (.one (.ptr 100 5 0))))), ((.s 2), (.sv (.c (.one (.ptr 200 2 0))))), ((.s 109), (.sv (svI (((List.length (List.map GoneE.enc m.gone)) : Nat) : Int)))), ((.s 110), (.sv (svI 0))), ((.c 100 0), (.cell (.t (tI m.nextUid)))), ((.c 100 1), (.cell (.t (tI m.nextSeq)))), ((.c 100 2), (.cell (.t (tI m.horizon)))), ((.c 100 3), (.cell (.t (T.sl 6 (List.map Stored.enc m.entries))))), ((.c 100 4), (.cell (.t (T.sl 2 (List.map GoneE.enc m.gone))))), ((.c 200 0), (.cell (.t (tI 0)))), ((.c 200 1), (.cell (.t (tI 0))))] n (.ret [((.s 2), (.sv (.c (.one (.ptr 200 2 0))))), ((.c 200 0), (.cell (.t (tI y4.code)))), ((.c 200 1), (.cell (.t (tI y4.index))))])) ∧
 (Q (out (.c (.agg [(.t (tI y4.code)), (.t (tI y4.index))])))))) ∨
 ((At S0 (mix D0 cl) n [1, 2, 109, 110] c54l1 [((.s 1), (.sv (.c (.one (.ptr 100 5 0))))), ((.s 2), (.sv (.c (.one (.ptr 200 2 0))))), ((.s 109), (.sv (svI (((List.length (List.map GoneE.enc m.gone)) : Nat) : Int)))), ((.s 110), (.sv (svI 0))), ((.c 100 0), (.cell (.t (tI m.nextUid)))), ((.c 100 1), (.cell (.t (tI m.nextSeq)))), ((.c 100 2), (.cell (.t (tI m.horizon)))), ((.c 100 3), (.cell (.t (T.sl 6 (List.map Stored.enc m.entries))))), ((.c 100 4), (.cell (.t (T.sl 2 (List.map GoneE.enc m.gone))))), ((.c 200 0), (.cell (.t (tI 0)))), ((.c 200 1), (.cell (.t (tI 0))))] n (.exit 4 [((.s 2), (.sv (.c (.one (.ptr 200 2 0))))), ((.c 200 0), (.cell (.t (tI 0)))), ((.c 200 1), (.cell (.t (tI 0))))])) ∧
 (Q (out (.c (.agg [(.t (tI 0)), (.t (tI 0))]))))))))
 (Q (out (.c (.agg [(.t (tI 3)), (.t (tI (-3)))])))))
 (Q (out (.c (.agg [(.t (tI 3)), (.t (tI (-3)))])))))
 (Q (out (.c (.agg [(.t (tI 3)), (.t (tI (-3)))]))))))) := by kernel_rfl
theorem b54_0 (cl : CallFn) (n : Nat) (m : Box) (i : Nat) (Q : Out → Prop) : (wpBody S0 (mix D0 cl) (hb54_0) n [1, 2, 42, 43, 44] c54l0 (C54_0 m i) Q) = 
 (fork (decide (((i : Nat) : Int) < (((List.length (List.map Stored.enc m.entries)) : Nat) : Int)))
 (((0 : Int) ≤ ((i : Nat) : Int)) ∧
 (∃ (y5 : Stored), ((((List.map Stored.enc m.entries))[i]? = (some [(tI y5.uid), (tI y5.seq), (tI y5.flags), (tI y5.at_), (T.sl 2 (List.map Field.enc y5.msg.fields)), (T.sl 1 (List.map byteT y5.msg.body))])) ∧
 (fork (inB y5.uid 1 (IntKind.wrap .i64 (m.nextUid - 1)))
 (fork (inB y5.seq 1 (IntKind.wrap .i64 (m.nextSeq - 1)))
 (fork (inB y5.flags 0 63)
 (fork (inB y5.at_ (-68719476736) 68719476736)
 (fork (decide (((i : Nat) : Int) > 0))
 (((0 : Int) ≤ (IntKind.wrap .i64 (((i : Nat) : Int) - 1))) ∧
 (∃ (y6 : Stored), ((((List.map Stored.enc m.entries))[(Int.toNat (IntKind.wrap .i64 (((i : Nat) : Int) - 1)))]? = (some [(tI y6.uid), (tI y6.seq), (tI y6.flags), (tI y6.at_), (T.sl 2 (List.map Field.enc y6.msg.fields)), (T.sl 1 (List.map byteT y6.msg.body))])) ∧
 (fork (decide (y5.uid ≤ y6.uid))
 (Q (.ret [((.s 2), (.sv (.c (.one (.ptr 200 2 0))))), ((.c 200 0), (.cell (.t (tI 19)))), ((.c 200 1), (.cell (.t (tI ((i : Nat) : Int)))))]))
 (∃ (y7 : Fault), (((cl 47 [(.c (.agg [(.t (T.sl 2 (List.map Field.enc y5.msg.fields))), (.t (T.sl 1 (List.map byteT y5.msg.body)))]))] []) = (some (out (.c (.agg [(.t (tI y7.code)), (.t (tI y7.index))]))))) ∧
 (fork (bne y7.code 0)
 (Q (.ret [((.s 2), (.sv (.c (.one (.ptr 200 2 0))))), ((.c 200 0), (.cell (.t (tI y7.code)))), ((.c 200 1), (.cell (.t (tI ((i : Nat) : Int)))))]))
 (Q (.norm [((.s 1), (.sv (.c (.one (.ptr 100 5 0))))), ((.s 2), (.sv (.c (.one (.ptr 200 2 0))))), ((.s 42), (.sv (svL 6 (List.map Stored.enc m.entries)))), ((.s 43), (.sv (svI (((List.length (List.map Stored.enc m.entries)) : Nat) : Int)))), ((.s 44), (.sv (svI (IntKind.wrap .i64 (((i : Nat) : Int) + 1))))), ((.c 100 0), (.cell (.t (tI m.nextUid)))), ((.c 100 1), (.cell (.t (tI m.nextSeq)))), ((.c 100 2), (.cell (.t (tI m.horizon)))), ((.c 100 3), (.cell (.t (T.sl 6 (List.map Stored.enc m.entries))))), ((.c 100 4), (.cell (.t (T.sl 2 (List.map GoneE.enc m.gone))))), ((.c 200 0), (.cell (.t (tI 0)))), ((.c 200 1), (.cell (.t (tI 0))))])))))))))
 (∃ (y6 : Fault), (((cl 47 [(.c (.agg [(.t (T.sl 2 (List.map Field.enc y5.msg.fields))), (.t (T.sl 1 (List.map byteT y5.msg.body)))]))] []) = (some (out (.c (.agg [(.t (tI y6.code)), (.t (tI y6.index))]))))) ∧
 (fork (bne y6.code 0)
 (Q (.ret [((.s 2), (.sv (.c (.one (.ptr 200 2 0))))), ((.c 200 0), (.cell (.t (tI y6.code)))), ((.c 200 1), (.cell (.t (tI ((i : Nat) : Int)))))]))
 (Q (.norm [((.s 1), (.sv (.c (.one (.ptr 100 5 0))))), ((.s 2), (.sv (.c (.one (.ptr 200 2 0))))), ((.s 42), (.sv (svL 6 (List.map Stored.enc m.entries)))), ((.s 43), (.sv (svI (((List.length (List.map Stored.enc m.entries)) : Nat) : Int)))), ((.s 44), (.sv (svI (IntKind.wrap .i64 (((i : Nat) : Int) + 1))))), ((.c 100 0), (.cell (.t (tI m.nextUid)))), ((.c 100 1), (.cell (.t (tI m.nextSeq)))), ((.c 100 2), (.cell (.t (tI m.horizon)))), ((.c 100 3), (.cell (.t (T.sl 6 (List.map Stored.enc m.entries))))), ((.c 100 4), (.cell (.t (T.sl 2 (List.map GoneE.enc m.gone))))), ((.c 200 0), (.cell (.t (tI 0)))), ((.c 200 1), (.cell (.t (tI 0))))]))))))
 (Q (.ret [((.s 2), (.sv (.c (.one (.ptr 200 2 0))))), ((.c 200 0), (.cell (.t (tI 3)))), ((.c 200 1), (.cell (.t (tI ((i : Nat) : Int)))))])))
 (Q (.ret [((.s 2), (.sv (.c (.one (.ptr 200 2 0))))), ((.c 200 0), (.cell (.t (tI 3)))), ((.c 200 1), (.cell (.t (tI ((i : Nat) : Int)))))])))
 (Q (.ret [((.s 2), (.sv (.c (.one (.ptr 200 2 0))))), ((.c 200 0), (.cell (.t (tI 3)))), ((.c 200 1), (.cell (.t (tI ((i : Nat) : Int)))))])))
 (Q (.ret [((.s 2), (.sv (.c (.one (.ptr 200 2 0))))), ((.c 200 0), (.cell (.t (tI 3)))), ((.c 200 1), (.cell (.t (tI ((i : Nat) : Int)))))]))))))
 (Q (.exit 1 [((.s 1), (.sv (.c (.one (.ptr 100 5 0))))), ((.s 2), (.sv (.c (.one (.ptr 200 2 0))))), ((.c 100 0), (.cell (.t (tI m.nextUid)))), ((.c 100 1), (.cell (.t (tI m.nextSeq)))), ((.c 100 2), (.cell (.t (tI m.horizon)))), ((.c 100 3), (.cell (.t (T.sl 6 (List.map Stored.enc m.entries))))), ((.c 100 4), (.cell (.t (T.sl 2 (List.map GoneE.enc m.gone))))), ((.c 200 0), (.cell (.t (tI 0)))), ((.c 200 1), (.cell (.t (tI 0))))]))) := by kernel_rfl
theorem b54_1 (cl : CallFn) (n : Nat) (m : Box) (i : Nat) (Q : Out → Prop) : (wpBody S0 (mix D0 cl) (hb54_1) n [1, 2, 109, 110] c54l1 (C54_1 m i) Q) = 
 (fork (decide (((i : Nat) : Int) < (((List.length (List.map GoneE.enc m.gone)) : Nat) : Int)))
 (∃ (y5 : Int), (((cl 81 [(.c (.agg [(.t (tI m.nextUid)), (.t (tI m.nextSeq)), (.t (tI m.horizon)), (.t (T.sl 6 (List.map Stored.enc m.entries))), (.t (T.sl 2 (List.map GoneE.enc m.gone)))])), (svI ((i : Nat) : Int))] []) = (some (out (svI y5)))) ∧
 (fork (bne y5 0)
 (Q (.ret [((.s 2), (.sv (.c (.one (.ptr 200 2 0))))), ((.c 200 0), (.cell (.t (tI y5)))), ((.c 200 1), (.cell (.t (tI (IntKind.wrap .i64 ((1000 : Int) + ((i : Nat) : Int)))))))]))
 (Q (.norm [((.s 1), (.sv (.c (.one (.ptr 100 5 0))))), ((.s 2), (.sv (.c (.one (.ptr 200 2 0))))), ((.s 109), (.sv (svI (((List.length (List.map GoneE.enc m.gone)) : Nat) : Int)))), ((.s 110), (.sv (svI (IntKind.wrap .i64 (((i : Nat) : Int) + 1))))), ((.c 100 0), (.cell (.t (tI m.nextUid)))), ((.c 100 1), (.cell (.t (tI m.nextSeq)))), ((.c 100 2), (.cell (.t (tI m.horizon)))), ((.c 100 3), (.cell (.t (T.sl 6 (List.map Stored.enc m.entries))))), ((.c 100 4), (.cell (.t (T.sl 2 (List.map GoneE.enc m.gone))))), ((.c 200 0), (.cell (.t (tI 0)))), ((.c 200 1), (.cell (.t (tI 0))))])))))
 (Q (.exit 4 [((.s 2), (.sv (.c (.one (.ptr 200 2 0))))), ((.c 200 0), (.cell (.t (tI 0)))), ((.c 200 1), (.cell (.t (tI 0))))]))) := by kernel_rfl

end Go.Ev

namespace Go.Ev
open Go.Proofs.Ytbempckmbfbjgaa.Code
set_option maxRecDepth 100000
def idxL {α : Type} (p : α → Bool) : List α → Nat → Int
  | [], _ => -1
  | x :: l, i => if p x then (i : Nat) else idxL p l (i + 1)
theorem idxL_ge {α : Type} {p : α → Bool} : ∀ {l : List α} {i : Nat}, decide (idxL p l i ≥ 0) = l.any p
  | [], _ => rfl
  | x :: l, i => by
    simp only [idxL, List.any_cons]
    by_cases h : p x = true
    · simp [h]
    · have h' : p x = false := by simpa using h
      simp only [h', Bool.false_eq_true, if_false, Bool.false_or]
      exact idxL_ge
def findS (m : Box) (u : Int) : Int := idxL (fun e => e.uid == u) m.entries 0
def prevLe (k : Nat) (g : GoneE) (l : List GoneE) : Bool := decide (k > 0) && match l[k - 1]? with
  | some h => decide (g.seq ≤ h.seq)
  | none => false
def removedS (m : Box) (k : Nat) : Int := match m.gone[k]? with
  | none => 0
  | some g => if inB g.uid 1 (m.nextUid - 1) && inB g.seq (m.horizon + 1) (m.nextSeq - 1) then
      if prevLe k g m.gone then 19 else if (m.gone.take k).any (fun x => x.uid == g.uid) || decide (findS m g.uid ≥ 0) then 7 else 0
    else 3
def entryOk (m : Box) (e : Stored) : Bool := inB e.uid 1 (m.nextUid - 1) && (inB e.seq 1 (m.nextSeq - 1) && (inB e.flags 0 63 && inB e.at_ (-68719476736) 68719476736))
def geLast (pre : List Stored) (u : Int) : Bool := match pre.getLast? with
  | some y => decide (u ≤ y.uid)
  | none => false
def badE (m : Box) : List Stored → List Stored → Option Fault
  | _, [] => none
  | pre, e :: l => if entryOk m e then
      if geLast pre e.uid then some ⟨19, (pre.length : Nat)⟩ else
      if (msgFault e.msg).code != 0 then some ⟨(msgFault e.msg).code, (pre.length : Nat)⟩ else badE m (pre ++ [e]) l
    else some ⟨3, (pre.length : Nat)⟩
def badG (m : Box) : Nat → Nat → Option Fault
  | 0, _ => none
  | r + 1, k => if removedS m k != 0 then some ⟨removedS m k, 1000 + (k : Nat)⟩ else badG m r (k + 1)
def headOk (m : Box) : Bool := inB m.nextUid 1 1000000 && (inB m.nextSeq 1 1000000 && inB m.horizon 0 (m.nextSeq - 1))
def boxFault (m : Box) : Fault :=
  if m.entries.length > 200 then ⟨2, -1⟩ else if m.gone.length > 400 then ⟨2, -2⟩ else
  if headOk m then match badE m [] m.entries with
    | some f => f
    | none => match badG m m.gone.length 0 with
      | some f => f
      | none => ⟨0, 0⟩
  else ⟨3, -3⟩
structure Box.small (m : Box) : Prop where
  e : m.entries.length ≤ 1000000000
  g : m.gone.length ≤ 1000000000
  m : ∀ x, x ∈ m.entries → x.msg.sz ≤ 1000000000
theorem headOk_ok {m : Box} (h : headOk m = true) : (1 ≤ m.nextUid ∧ m.nextUid ≤ 1000000) ∧ (1 ≤ m.nextSeq ∧ m.nextSeq ≤ 1000000) ∧ (0 ≤ m.horizon ∧ m.horizon ≤ m.nextSeq - 1) := by
  simpa [headOk, inB] using h
theorem last_of {α : Type} {l : List α} (h : l.length > 0) : ∃ p y, l = p ++ [y] := by
  rcases List.eq_nil_or_concat l with rfl | ⟨p, y, rfl⟩
  · simp at h
  · exact ⟨p, y, by simp⟩
section
variable {n d : Nat} {cl : CallFn}
theorem k102 (e : Stored) (u : Int) : cz n (d + 2) 102 [e.sv, .c (.one (.ptr 1000000 1 0))] [.box [.t (tI u)]] = some (svB (e.uid == u), [.box [none]], []) := by
  refine run h102 false tab102 rfl ?_
  rw [w102]
  refine fork_iff.2 ⟨fun h => ?_, fun h => ?_⟩ <;> rw [h]
theorem k99 (e : GoneE) (a b : Int) : cz n (d + 2) 99 [.c (.agg [.t (tI e.uid), .t (tI e.seq)]), .c (.one (.ptr 1000000 2 0))] [.box [.t (tI a), .t (tI b)]] = some (svB (e.uid == a), [.box [none, none]], []) := by
  refine run h99 false tab99 rfl ?_
  rw [w99]
  refine fork_iff.2 ⟨fun h => ?_, fun h => ?_⟩ <;> rw [h]
theorem at101 (l : List Stored) (u : Int) (hs : l.length < 4611686018427387904) (hd : 2 ≤ d) : ∀ (suf pre : List Stored) (m : Nat), l = pre ++ suf → suf.length < m →
    At S0 (mix D0 (cz n d)) n [0, 1, 7, 8] c101l0 (C101_0 l u pre.length) m (if suf.any (fun e => e.uid == u) then .ret [((.s 0), (.sv (svL 6 (List.map Stored.enc l)))), ((.s 1), (.sv (.c (.one (.fn 102 [(1000000, 1)]))))), ((.s 4), (.sv (svI (idxL (fun e => e.uid == u) suf pre.length)))), ((.c 1000000 0), (.cell (.t (tI u))))]
      else .exit 0 [((.s 0), (.sv (svL 6 (List.map Stored.enc l)))), ((.s 1), (.sv (.c (.one (.fn 102 [(1000000, 1)]))))), ((.c 1000000 0), (.cell (.t (tI u))))])
  | suf, pre, 0, _, hm => by omega
  | suf, pre, m + 1, he, hm => by
    refine At.step hb101_0 ?_
    rw [b101_0]
    have hlen : l.length = pre.length + suf.length := by rw [he]; simp
    cases suf with
    | nil =>
      refine fork_dec.2 ⟨fun h => ?_, fun h => rfl⟩
      simp at hlen h; omega
    | cons x suf =>
      simp only [List.length_cons] at hlen hm
      refine fork_dec.2 ⟨fun _ => ⟨by omega, x, mget (by rw [he]; simp), _, deep hd (k102 (n := n) (d := 0) x u), fork_iff.2 ⟨fun hx => ?_, fun hx => ?_⟩⟩, fun h => ?_⟩
      · simp only [List.any_cons, idxL, hx, Bool.true_or, if_true]
      · simp only [List.any_cons, idxL, hx, Bool.false_or, Bool.false_eq_true, if_false]
        rw [wrap1 (by omega)]
        have := at101 l u hs hd suf (pre ++ [x]) m (by simp [he]) (by omega)
        simp only [List.length_append, List.length_cons, List.length_nil, Nat.zero_add] at this
        exact this
      · simp at h; omega
theorem k101 (l : List Stored) (u : Int) (hs : l.length < 4611686018427387904) (hd : 2 ≤ d) (hn : l.length < n) : cz n (d + 2) 101 [svL 6 (l.map Stored.enc), .c (.one (.fn 102 [(1000000, 1)]))] [.box [.t (tI u)]] = some (svI (idxL (fun e => e.uid == u) l 0), [.box [none]], []) := by
  refine run (h101 l u) false tab101 rfl ?_
  rw [w101]
  have hA := at101 (n := n) (d := d + 1) l u hs (by omega) l [] n rfl hn
  cases ha : l.any (fun e => e.uid == u) with
  | true => rw [ha] at hA; exact .inr ⟨_, hA, rfl⟩
  | false =>
    rw [ha] at hA
    refine .inl ⟨hA, ?_⟩
    have : ∀ (l : List Stored) (i : Nat), l.any (fun e => e.uid == u) = false → idxL (fun e => e.uid == u) l i = -1 := by
      intro l
      induction l with
      | nil => intro i _; rfl
      | cons x l ih =>
        intro i h
        simp only [List.any_cons, Bool.or_eq_false_iff] at h
        simp only [idxL, h.1, Bool.false_eq_true, if_false]
        exact ih _ h.2
    rw [this l 0 ha]
theorem k83 (m : Box) (u : Int) (hs : m.entries.length < 4611686018427387904) (hd : 4 ≤ d) (hn : m.entries.length < n) : cz n (d + 2) 83 [m.sv, svI u] [] = some (out (svI (findS m u))) := by
  refine run h83 false tab83 rfl ?_
  rw [w83]
  exact ⟨_, deep (d := 4) (by omega) (k101 (n := n) (d := 2) m.entries u hs (by omega) hn), rfl⟩
theorem at95 (l : List GoneE) (a b : Int) (hs : l.length < 4611686018427387904) (hd : 2 ≤ d) : ∀ (suf pre : List GoneE) (m : Nat), l = pre ++ suf → suf.length < m →
    At S0 (mix D0 (cz n d)) n [0, 1, 7, 8] c95l0 (C95_0 l a b pre.length) m (if suf.any (fun e => e.uid == a) then .ret [((.s 0), (.sv (svL 2 (List.map GoneE.enc l)))), ((.s 1), (.sv (.c (.one (.fn 99 [(1000000, 2)]))))), ((.s 4), (.sv (svI (idxL (fun e => e.uid == a) suf pre.length)))), ((.c 1000000 0), (.cell (.t (tI a)))), ((.c 1000000 1), (.cell (.t (tI b))))]
      else .exit 0 [((.s 0), (.sv (svL 2 (List.map GoneE.enc l)))), ((.s 1), (.sv (.c (.one (.fn 99 [(1000000, 2)]))))), ((.c 1000000 0), (.cell (.t (tI a)))), ((.c 1000000 1), (.cell (.t (tI b))))])
  | suf, pre, 0, _, hm => by omega
  | suf, pre, m + 1, he, hm => by
    refine At.step hb95_0 ?_
    rw [b95_0]
    have hlen : l.length = pre.length + suf.length := by rw [he]; simp
    cases suf with
    | nil =>
      refine fork_dec.2 ⟨fun h => ?_, fun h => rfl⟩
      simp at hlen h; omega
    | cons x suf =>
      simp only [List.length_cons] at hlen hm
      refine fork_dec.2 ⟨fun _ => ⟨by omega, x, mget (by rw [he]; simp), _, deep hd (k99 (n := n) (d := 0) x a b), fork_iff.2 ⟨fun hx => ?_, fun hx => ?_⟩⟩, fun h => ?_⟩
      · simp only [List.any_cons, idxL, hx, Bool.true_or, if_true]
      · simp only [List.any_cons, idxL, hx, Bool.false_or, Bool.false_eq_true, if_false]
        rw [wrap1 (by omega)]
        have := at95 l a b hs hd suf (pre ++ [x]) m (by simp [he]) (by omega)
        simp only [List.length_append, List.length_cons, List.length_nil, Nat.zero_add] at this
        exact this
      · simp at h; omega
theorem idxL_none {α : Type} {p : α → Bool} : ∀ {l : List α} {i : Nat}, l.any p = false → idxL p l i = -1
  | [], _, _ => rfl
  | x :: l, i, h => by
    simp only [List.any_cons, Bool.or_eq_false_iff] at h
    simp only [idxL, h.1, Bool.false_eq_true, if_false]
    exact idxL_none h.2
theorem k95 (l : List GoneE) (a b : Int) (hs : l.length < 4611686018427387904) (hd : 2 ≤ d) (hn : l.length < n) : cz n (d + 2) 95 [svL 2 (l.map GoneE.enc), .c (.one (.fn 99 [(1000000, 2)]))] [.box [.t (tI a), .t (tI b)]] = some (svI (idxL (fun e => e.uid == a) l 0), [.box [none, none]], []) := by
  refine run (h95 l a b) false tab95 rfl ?_
  rw [w95]
  have hA := at95 (n := n) (d := d + 1) l a b hs (by omega) l [] n rfl hn
  cases ha : l.any (fun e => e.uid == a) with
  | true => rw [ha] at hA; exact .inr ⟨_, hA, rfl⟩
  | false => rw [ha] at hA; exact .inl ⟨hA, by rw [idxL_none ha]⟩
theorem k100 (l : List GoneE) (a b : Int) (hs : l.length < 4611686018427387904) (hd : 4 ≤ d) (hn : l.length < n) : cz n (d + 2) 100 [svL 2 (l.map GoneE.enc), .c (.one (.fn 99 [(1000000, 2)]))] [.box [.t (tI a), .t (tI b)]] = some (svB (l.any fun e => e.uid == a), [.box [none, none]], []) := by
  refine run h100 false tab100 rfl ?_
  rw [w100]
  refine ⟨_, deep (d := 4) (by omega) (k95 (n := n) (d := 2) l a b hs (by omega) hn), ?_⟩
  rw [idxL_ge]
  refine fork_iff.2 ⟨fun h => ?_, fun h => ?_⟩ <;> rw [h]
theorem k81 (m : Box) (k : Nat) (g : GoneE) (hg : m.gone[k]? = some g) (hh : headOk m = true) (hs : m.small) (hd : 6 ≤ d) (hn : 1000000000000 ≤ n) : cz n (d + 2) 81 [m.sv, svI k] [] = some (out (svI (removedS m k))) := by
  obtain ⟨⟨hu1, hu2⟩, ⟨hq1, hq2⟩, hz1, hz2⟩ := headOk_ok hh
  have hkl : k < m.gone.length := (List.getElem?_eq_some_iff.1 hg).1
  have h1 := hs.e
  have h2 := hs.g
  refine run h81 false tab81 rfl ?_
  rw [w81, wrapI (x := m.nextUid - 1) (by omega) (by omega), wrapI (x := m.horizon + 1) (by omega) (by omega), wrapI (x := m.nextSeq - 1) (by omega) (by omega)]
  have e1 : (List.drop 0 (List.take k (List.map GoneE.enc m.gone))) = (m.gone.take k).map GoneE.enc := by rw [List.drop_zero, List.map_take]
  rw [e1]
  have hlt : (m.gone.take k).length ≤ k := by rw [List.length_take]; omega
  have c100 := deep (d' := d + 1) (d := 6) (by omega) (k100 (n := n) (d := 4) (m.gone.take k) g.uid g.seq (by omega) (by omega) (by omega))
  have c83 := deep (d' := d + 1) (d := 6) (by omega) (k83 (n := n) (d := 4) m g.uid (by omega) (by omega) (by omega))
  have hk2 : k ≤ (List.length (List.map GoneE.enc m.gone)) := by rw [List.length_map]; omega
  refine ⟨by omega, g, mget hg, fork_iff.2 ⟨fun a1 => fork_iff.2 ⟨fun a2 => fork_dec.2 ⟨fun a3 => ?_, fun a3 => ?_⟩, fun a2 => ?_⟩, fun a1 => ?_⟩⟩
  · have hk0 : k > 0 := by omega
    obtain ⟨g', hg'⟩ : ∃ g', m.gone[k - 1]? = some g' := ⟨_, List.getElem?_eq_getElem (by omega)⟩
    have hw : IntKind.wrap .i64 ((k : Int) - 1) = ((k - 1 : Nat) : Int) := by rw [wrapI (by omega) (by omega)]; omega
    rw [hw, Int.toNat_natCast]
    refine ⟨by omega, g', mget hg', fork_dec.2 ⟨fun a4 => ?_, fun a4 => ⟨by omega, ⟨by omega, hk2⟩, _, c100, fork_iff.2 ⟨fun a5 => ?_, fun a5 => ⟨_, c83, fork_dec.2 ⟨fun a6 => ?_, fun a6 => ?_⟩⟩⟩⟩⟩⟩
    · simp only [removedS, hg, a1, a2, Bool.and_self, if_true, prevLe, hk0, hg', a4, decide_true]
    · simp only [removedS, hg, a1, a2, Bool.and_self, if_true, prevLe, hk0, hg', a4, decide_true, decide_false, Bool.and_false, Bool.false_eq_true, if_false, a5, Bool.true_or]
    · simp only [removedS, hg, a1, a2, Bool.and_self, if_true, prevLe, hk0, hg', a4, decide_true, decide_false, Bool.and_false, Bool.false_eq_true, if_false, a5, Bool.false_or, a6]
    · simp only [removedS, hg, a1, a2, Bool.and_self, if_true, prevLe, hk0, hg', a4, decide_true, decide_false, Bool.and_false, Bool.false_eq_true, if_false, a5, Bool.false_or, a6]
  · have hk0 : ¬ k > 0 := by omega
    refine ⟨by omega, ⟨by omega, hk2⟩, _, c100, fork_iff.2 ⟨fun a5 => ?_, fun a5 => ⟨_, c83, fork_dec.2 ⟨fun a6 => ?_, fun a6 => ?_⟩⟩⟩⟩
    · simp only [removedS, hg, a1, a2, Bool.and_self, if_true, prevLe, hk0, decide_false, Bool.false_and, Bool.false_eq_true, if_false, a5, Bool.true_or]
    · simp only [removedS, hg, a1, a2, Bool.and_self, if_true, prevLe, hk0, decide_false, Bool.false_and, Bool.false_eq_true, if_false, a5, Bool.false_or, a6, decide_true]
    · simp only [removedS, hg, a1, a2, Bool.and_self, if_true, prevLe, hk0, decide_false, Bool.false_and, Bool.false_eq_true, if_false, a5, Bool.false_or, a6]
  · simp only [removedS, hg, a1, a2, Bool.and_false, Bool.false_eq_true, if_false]
  · simp only [removedS, hg, a1, Bool.false_and, Bool.false_eq_true, if_false]
end
end Go.Ev

namespace Go.Ev
open Go.Proofs.Ytbempckmbfbjgaa.Code
set_option maxRecDepth 100000
section
variable {n d : Nat} {cl : CallFn}
theorem at54_0 (b : Box) (hh : headOk b = true) (hs : b.small) (hd : 9 ≤ d) (hn : 1000000000000 ≤ n) : ∀ (suf pre : List Stored) (m : Nat), b.entries = pre ++ suf → suf.length < m →
    At S0 (mix D0 (cz n d)) n [1, 2, 42, 43, 44] c54l0 (C54_0 b pre.length) m (match badE b pre suf with
      | some f => .ret [((.s 2), (.sv (.c (.one (.ptr 200 2 0))))), ((.c 200 0), (.cell (.t (tI f.code)))), ((.c 200 1), (.cell (.t (tI f.index))))]
      | none => .exit 1 [((.s 1), (.sv (.c (.one (.ptr 100 5 0))))), ((.s 2), (.sv (.c (.one (.ptr 200 2 0))))), ((.c 100 0), (.cell (.t (tI b.nextUid)))), ((.c 100 1), (.cell (.t (tI b.nextSeq)))), ((.c 100 2), (.cell (.t (tI b.horizon)))), ((.c 100 3), (.cell (.t b.es))), ((.c 100 4), (.cell (.t b.gs))), ((.c 200 0), (.cell (.t (tI 0)))), ((.c 200 1), (.cell (.t (tI 0))))])
  | suf, pre, 0, _, hm => by omega
  | suf, pre, m + 1, he, hm => by
    obtain ⟨⟨hu1, hu2⟩, ⟨hq1, hq2⟩, hz1, hz2⟩ := headOk_ok hh
    refine At.step hb54_0 ?_
    have hlen : b.entries.length = pre.length + suf.length := by rw [he]; simp
    have h1 := hs.e
    rw [b54_0, wrapI (x := b.nextUid - 1) (by omega) (by omega), wrapI (x := b.nextSeq - 1) (by omega) (by omega)]
    cases suf with
    | nil =>
      refine fork_dec.2 ⟨fun h => ?_, fun h => rfl⟩
      simp at hlen h; omega
    | cons x suf =>
      simp only [List.length_cons] at hlen hm
      have hx := hs.m x (by rw [he]; simp)
      have c47 := deep (d' := d) (d := 9) (by omega) (k47 (n := n) (d := 7) x.msg (by omega) (by omega) hn)
      rw [wrap1 (by omega)]
      have ih := at54_0 b hh hs hd hn suf (pre ++ [x]) m (by simp [he]) (by omega)
      simp only [List.length_append, List.length_cons, List.length_nil, Nat.zero_add] at ih
      refine fork_dec.2 ⟨fun _ => ⟨by omega, x, mget (by rw [he]; simp), fork_iff.2 ⟨fun a1 => fork_iff.2 ⟨fun a2 => fork_iff.2 ⟨fun a3 => fork_iff.2 ⟨fun a4 => fork_dec.2 ⟨fun a5 => ?_, fun a5 => ?_⟩, fun a4 => ?_⟩, fun a3 => ?_⟩, fun a2 => ?_⟩, fun a1 => ?_⟩⟩, fun h => ?_⟩
      · obtain ⟨p, y, rfl⟩ := last_of (l := pre) (by omega)
        have hw : IntKind.wrap .i64 (((p ++ [y]).length : Int) - 1) = (p.length : Int) := by rw [wrapI (by omega) (by omega)]; simp
        rw [hw, Int.toNat_natCast]
        refine ⟨by omega, y, mget (by rw [he]; simp), fork_dec.2 ⟨fun a6 => ?_, fun a6 => ⟨msgFault x.msg, c47, fork_iff.2 ⟨fun a7 => ?_, fun a7 => ?_⟩⟩⟩⟩
        · simp only [badE, entryOk, a1, a2, a3, a4, Bool.and_self, if_true, geLast, List.getLast?_concat, a6, decide_true]
        · simp only [badE, entryOk, a1, a2, a3, a4, Bool.and_self, if_true, geLast, List.getLast?_concat, a6, decide_false, Bool.false_eq_true, if_false, a7]
        · simp only [badE, entryOk, a1, a2, a3, a4, Bool.and_self, if_true, geLast, List.getLast?_concat, a6, decide_false, Bool.false_eq_true, if_false, a7]
          exact ih
      · have hp : pre = [] := List.eq_nil_of_length_eq_zero (by omega)
        subst hp
        refine ⟨msgFault x.msg, c47, fork_iff.2 ⟨fun a7 => ?_, fun a7 => ?_⟩⟩
        · simp only [badE, entryOk, a1, a2, a3, a4, Bool.and_self, if_true, geLast, List.getLast?_nil, Bool.false_eq_true, if_false, a7]
        · simp only [badE, entryOk, a1, a2, a3, a4, Bool.and_self, if_true, geLast, List.getLast?_nil, Bool.false_eq_true, if_false, a7]
          exact ih
      · simp only [badE, entryOk, a4, Bool.and_false, Bool.false_eq_true, if_false]
      · simp only [badE, entryOk, a3, Bool.false_and, Bool.and_false, Bool.false_eq_true, if_false]
      · simp only [badE, entryOk, a2, Bool.false_and, Bool.and_false, Bool.false_eq_true, if_false]
      · simp only [badE, entryOk, a1, Bool.false_and, Bool.false_eq_true, if_false]
      · simp at h; omega
theorem at54_1 (b : Box) (hh : headOk b = true) (hs : b.small) (hd : 8 ≤ d) (hn : 1000000000000 ≤ n) : ∀ (r k : Nat) (m : Nat), b.gone.length = k + r → r < m →
    At S0 (mix D0 (cz n d)) n [1, 2, 109, 110] c54l1 (C54_1 b k) m (match badG b r k with
      | some f => .ret [((.s 2), (.sv (.c (.one (.ptr 200 2 0))))), ((.c 200 0), (.cell (.t (tI f.code)))), ((.c 200 1), (.cell (.t (tI f.index))))]
      | none => .exit 4 [((.s 2), (.sv (.c (.one (.ptr 200 2 0))))), ((.c 200 0), (.cell (.t (tI 0)))), ((.c 200 1), (.cell (.t (tI 0))))])
  | r, k, 0, _, hm => by omega
  | r, k, m + 1, he, hm => by
    refine At.step hb54_1 ?_
    have h2 := hs.g
    rw [b54_1]
    cases r with
    | zero =>
      refine fork_dec.2 ⟨fun h => ?_, fun h => rfl⟩
      simp at h; omega
    | succ r =>
      have hg : b.gone[k]? = some (b.gone[k]'(by omega)) := List.getElem?_eq_getElem (by omega)
      refine fork_dec.2 ⟨fun _ => ⟨_, deep (d := 8) (by omega) (k81 (n := n) (d := 6) b k _ hg hh hs (by omega) hn), fork_iff.2 ⟨fun a1 => ?_, fun a1 => ?_⟩⟩, fun h => ?_⟩
      · rw [wrapI (by omega) (by omega)]
        simp only [badG, a1, if_true]
      · simp only [badG, a1, Bool.false_eq_true, if_false]
        rw [wrap1 (by omega)]
        exact at54_1 b hh hs hd hn r (k + 1) m (by omega) (by omega)
      · simp at h; omega
theorem k54 (b : Box) (hs : b.small) (hd : 9 ≤ d) (hn : 1000000000000 ≤ n) : cz n (d + 2) 54 [b.sv] [] = some (out (boxFault b).sv) := by
  refine run (h54 b) false tab54 rfl ?_
  rw [w54]
  have h1 := hs.e
  have h2 := hs.g
  refine fork_dec.2 ⟨fun a1 => ?_, fun a1 => fork_dec.2 ⟨fun a2 => ?_, fun a2 => fork_iff.2 ⟨fun a3 => fork_iff.2 ⟨fun a4 => ?_, fun a4 => ?_⟩, fun a3 => ?_⟩⟩⟩
  · have a1' : b.entries.length > 200 := by simp at a1; omega
    simp only [boxFault, if_pos a1']
  · have a1' : ¬ b.entries.length > 200 := by simp at a1; omega
    have a2' : b.gone.length > 400 := by simp at a2; omega
    simp only [boxFault, if_neg a1', if_pos a2']
  · have a1' : ¬ b.entries.length > 200 := by simp at a1; omega
    have a2' : ¬ b.gone.length > 400 := by simp at a2; omega
    have hq : 1 ≤ b.nextSeq ∧ b.nextSeq ≤ 1000000 := by simpa [inB] using a4
    rw [wrapI (x := b.nextSeq - 1) (by omega) (by omega)]
    refine fork_iff.2 ⟨fun a5 => ?_, fun a5 => ?_⟩
    · have hh : headOk b = true := by simp only [headOk, a3, a4, a5, Bool.and_self]
      have hA := at54_0 (n := n) (d := d + 1) b hh hs (by omega) hn b.entries [] n rfl (by omega)
      have hB := at54_1 (n := n) (d := d + 1) b hh hs (by omega) hn b.gone.length 0 n (by omega) (by omega)
      simp only [boxFault, if_neg a1', if_neg a2', hh, if_true]
      cases he : badE b [] b.entries with
      | some f => rw [he] at hA; exact .inl ⟨f, hA, rfl⟩
      | none =>
        rw [he] at hA
        refine .inr ⟨hA, ?_⟩
        cases hg : badG b b.gone.length 0 with
        | some f => rw [hg] at hB; exact .inl ⟨f, hB, rfl⟩
        | none => rw [hg] at hB; exact .inr ⟨hB, rfl⟩
    · simp only [boxFault, if_neg a1', if_neg a2', headOk, a5, Bool.and_false, Bool.false_eq_true, if_false]
  · have a1' : ¬ b.entries.length > 200 := by simp at a1; omega
    have a2' : ¬ b.gone.length > 400 := by simp at a2; omega
    simp only [boxFault, if_neg a1', if_neg a2', headOk, a4, Bool.and_false, Bool.false_and, Bool.false_eq_true, if_false]
  · have a1' : ¬ b.entries.length > 200 := by simp at a1; omega
    have a2' : ¬ b.gone.length > 400 := by simp at a2; omega
    simp only [boxFault, if_neg a1', if_neg a2', headOk, a3, Bool.false_and, Bool.false_eq_true, if_false]
end
end Go.Ev

namespace Go.Ev
open Go.Proofs.Ytbempckmbfbjgaa.Code
set_option maxRecDepth 100000
def h82 : Hints := ⟨[], [(80, rFault)], [], []⟩
def h85 (m : Msg) : Hints := ⟨[], [(5, .ret (.c (.one (.own (knew 0) 2 0 (m.fields.map Field.enc).length (m.fields.map Field.enc).length)), [], [.arr 2 (m.fields.map Field.enc)])), (8, .ret (.c (.one (.own (knew 0) 1 0 (m.body.map byteT).length (m.body.map byteT).length)), [], [.arr 1 (m.body.map byteT)]))], [], []⟩
def h84 : Hints := ⟨[], [], [], []⟩
def h71 (m : Box) : Hints := ⟨[], [(6, .ret (.c (.one (.own (knew 0) 6 0 (m.entries.map Stored.enc).length (m.entries.map Stored.enc).length)), [], [.arr 6 (m.entries.map Stored.enc)])), (9, .ret (.c (.one (.own (knew 0) 2 0 (m.gone.map GoneE.enc).length (m.gone.map GoneE.enc).length)), [], [.arr 2 (m.gone.map GoneE.enc)]))], [(0, (.ret (.exit 0 [((.s 1), (.sv (.c (.one (.ptr 100 5 0))))), ((.s 2), (.sv (.c (.one (.ptr 200 5 0))))), ((.c 100 0), (.cell (.t (tI m.nextUid)))), ((.c 100 1), (.cell (.t (tI m.nextSeq)))), ((.c 100 2), (.cell (.t (tI m.horizon)))), ((.c 100 3), (.cell (.own 600 6 0 ((m.entries.map Stored.enc).length) ((m.entries.map Stored.enc).length)))), ((.c 100 4), (.cell (.own 900 2 0 ((m.gone.map GoneE.enc).length) ((m.gone.map GoneE.enc).length)))), ((.c 200 0), (.cell (.t (tI 0)))), ((.c 200 1), (.cell (.t (tI 0)))), ((.c 200 2), (.cell (.t (tI 0)))), ((.c 200 3), (.cell (.nilsl 6))), ((.c 200 4), (.cell (.nilsl 2))), ((.a 600), (.arr 6 (m.entries.map Stored.enc))), ((.a 900), (.arr 2 (m.gone.map GoneE.enc)))])))], []⟩
def hb71_0  : Hints := ⟨[(24, eStored), (28, eStored), (26, eStored), (0, eStored)], [(27, rMsg)], [], []⟩
abbrev C71_0 (m : Box) (i : Nat) : St := [((.s 1), (.sv (.c (.one (.ptr 100 5 0))))), ((.s 2), (.sv (.c (.one (.ptr 200 5 0))))), ((.s 14), (.sv (svI ((((m.entries.map Stored.enc).length : Nat) : Int))))), ((.s 15), (.sv (svI ((i : Int))))), ((.c 100 0), (.cell (.t (tI m.nextUid)))), ((.c 100 1), (.cell (.t (tI m.nextSeq)))), ((.c 100 2), (.cell (.t (tI m.horizon)))), ((.c 100 3), (.cell (.own 600 6 0 ((m.entries.map Stored.enc).length) ((m.entries.map Stored.enc).length)))), ((.c 100 4), (.cell (.own 900 2 0 ((m.gone.map GoneE.enc).length) ((m.gone.map GoneE.enc).length)))), ((.c 200 0), (.cell (.t (tI 0)))), ((.c 200 1), (.cell (.t (tI 0)))), ((.c 200 2), (.cell (.t (tI 0)))), ((.c 200 3), (.cell (.nilsl 6))), ((.c 200 4), (.cell (.nilsl 2))), ((.a 600), (.arr 6 (m.entries.map Stored.enc))), ((.a 900), (.arr 2 (m.gone.map GoneE.enc)))]
def h105 : Hints := ⟨[], [], [], [(26, [false, true])]⟩
def h106 : Hints := ⟨[], [], [], [(26, [false, true])]⟩
def h86 : Hints := ⟨[(16, eStored), (53, eGone), (18, eStored), (55, eGone)], [(20, (.ex (Int) fun a => (.ex (Int) fun b => .ret (svI a, [.box [none, some (.t (tI b)), none, none, none], .keep, .keep], [])))), (36, (.ex (List Stored) fun x => .ret (.c (.one (.own 1000000 6 0 x.length (x.length + 1))), [.arr 6 (x.map Stored.enc ++ [[tI 0, tI 0, tI 0, tI 0, .sl 2 [], .sl 1 []]])], []))), (65, (.ex (List GoneE) fun x => .ret (.c (.one (.own 1000000 2 0 x.length (x.length + 1))), [.arr 2 (x.map GoneE.enc ++ [[tI 0, tI 0]])], [])))], [], [(23, [true])]⟩
theorem w82 (cl : CallFn) (n : Nat) (c : Change) (Q : CRes → Prop) : (wpZ S0 (mix D0 cl) (h82) n false c82 [c.sv] [] Q) = 
 (fork (decide ((IntKind.wrap .i64 ((((List.length (List.map Field.enc c.msg.fields)) : Nat) : Int) + (((List.length (List.map byteT c.msg.body)) : Nat) : Int))) > 0))
 (fork (c.kind == 1)
 (fork (bne c.uid 0)
 (Q (out (.c (.agg [(.t (tI 5)), (.t (tI (-5)))]))))
 (fork (bne c.clear 0)
 (Q (out (.c (.agg [(.t (tI 5)), (.t (tI (-5)))]))))
 (fork (inB c.set 0 63)
 (fork (inB c.clear 0 63)
 (fork (inB c.at_ (-68719476736) 68719476736)
 (fork (c.kind == 1)
 (∃ (y4 : Fault), (((cl 47 [(.c (.agg [(.t (T.sl 2 (List.map Field.enc c.msg.fields))), (.t (T.sl 1 (List.map byteT c.msg.body)))]))] []) = (some (out (.c (.agg [(.t (tI y4.code)), (.t (tI y4.index))]))))) ∧
 (fork (bne y4.code 0)
 (Q (out (.c (.agg [(.t (tI y4.code)), (.t (tI (-6)))]))))
 (Q (out (.c (.agg [(.t (tI 0)), (.t (tI 0))])))))))
 (Q (out (.c (.agg [(.t (tI 0)), (.t (tI 0))])))))
 (Q (out (.c (.agg [(.t (tI 3)), (.t (tI (-5)))])))))
 (Q (out (.c (.agg [(.t (tI 3)), (.t (tI (-5)))])))))
 (Q (out (.c (.agg [(.t (tI 3)), (.t (tI (-5)))])))))))
 (fork (c.kind == 2)
 (fork (bne c.at_ 0)
 (Q (out (.c (.agg [(.t (tI 5)), (.t (tI (-5)))]))))
 (Q (out (.c (.agg [(.t (tI 5)), (.t (tI (-5)))])))))
 (fork (c.kind == 3)
 (fork (bne c.at_ 0)
 (Q (out (.c (.agg [(.t (tI 5)), (.t (tI (-5)))]))))
 (Q (out (.c (.agg [(.t (tI 5)), (.t (tI (-5)))])))))
 (Q (out (.c (.agg [(.t (tI 4)), (.t (tI (-5)))])))))))
 (fork (c.kind == 1)
 (fork (bne c.uid 0)
 (Q (out (.c (.agg [(.t (tI 5)), (.t (tI (-5)))]))))
 (fork (bne c.clear 0)
 (Q (out (.c (.agg [(.t (tI 5)), (.t (tI (-5)))]))))
 (fork (inB c.set 0 63)
 (fork (inB c.clear 0 63)
 (fork (inB c.at_ (-68719476736) 68719476736)
 (fork (c.kind == 1)
 (∃ (y4 : Fault), (((cl 47 [(.c (.agg [(.t (T.sl 2 (List.map Field.enc c.msg.fields))), (.t (T.sl 1 (List.map byteT c.msg.body)))]))] []) = (some (out (.c (.agg [(.t (tI y4.code)), (.t (tI y4.index))]))))) ∧
 (fork (bne y4.code 0)
 (Q (out (.c (.agg [(.t (tI y4.code)), (.t (tI (-6)))]))))
 (Q (out (.c (.agg [(.t (tI 0)), (.t (tI 0))])))))))
 (Q (out (.c (.agg [(.t (tI 0)), (.t (tI 0))])))))
 (Q (out (.c (.agg [(.t (tI 3)), (.t (tI (-5)))])))))
 (Q (out (.c (.agg [(.t (tI 3)), (.t (tI (-5)))])))))
 (Q (out (.c (.agg [(.t (tI 3)), (.t (tI (-5)))])))))))
 (fork (c.kind == 2)
 (fork (bne c.at_ 0)
 (Q (out (.c (.agg [(.t (tI 5)), (.t (tI (-5)))]))))
 (fork (inB c.set 0 63)
 (fork (inB c.clear 0 63)
 (fork (inB c.at_ (-68719476736) 68719476736)
 (fork (c.kind == 1)
 (∃ (y4 : Fault), (((cl 47 [(.c (.agg [(.t (T.sl 2 (List.map Field.enc c.msg.fields))), (.t (T.sl 1 (List.map byteT c.msg.body)))]))] []) = (some (out (.c (.agg [(.t (tI y4.code)), (.t (tI y4.index))]))))) ∧
 (fork (bne y4.code 0)
 (Q (out (.c (.agg [(.t (tI y4.code)), (.t (tI (-6)))]))))
 (Q (out (.c (.agg [(.t (tI 0)), (.t (tI 0))])))))))
 (Q (out (.c (.agg [(.t (tI 0)), (.t (tI 0))])))))
 (Q (out (.c (.agg [(.t (tI 3)), (.t (tI (-5)))])))))
 (Q (out (.c (.agg [(.t (tI 3)), (.t (tI (-5)))])))))
 (Q (out (.c (.agg [(.t (tI 3)), (.t (tI (-5)))]))))))
 (fork (c.kind == 3)
 (fork (bne c.at_ 0)
 (Q (out (.c (.agg [(.t (tI 5)), (.t (tI (-5)))]))))
 (fork (!((c.set == 0) && ((c.clear == 0) && true)))
 (Q (out (.c (.agg [(.t (tI 5)), (.t (tI (-5)))]))))
 (fork (inB c.set 0 63)
 (fork (inB c.clear 0 63)
 (fork (inB c.at_ (-68719476736) 68719476736)
 (fork (c.kind == 1)
 (∃ (y4 : Fault), (((cl 47 [(.c (.agg [(.t (T.sl 2 (List.map Field.enc c.msg.fields))), (.t (T.sl 1 (List.map byteT c.msg.body)))]))] []) = (some (out (.c (.agg [(.t (tI y4.code)), (.t (tI y4.index))]))))) ∧
 (fork (bne y4.code 0)
 (Q (out (.c (.agg [(.t (tI y4.code)), (.t (tI (-6)))]))))
 (Q (out (.c (.agg [(.t (tI 0)), (.t (tI 0))])))))))
 (Q (out (.c (.agg [(.t (tI 0)), (.t (tI 0))])))))
 (Q (out (.c (.agg [(.t (tI 3)), (.t (tI (-5)))])))))
 (Q (out (.c (.agg [(.t (tI 3)), (.t (tI (-5)))])))))
 (Q (out (.c (.agg [(.t (tI 3)), (.t (tI (-5)))])))))))
 (Q (out (.c (.agg [(.t (tI 4)), (.t (tI (-5)))])))))))) := by kernel_rfl
theorem w85 (cl : CallFn) (n : Nat) (m : Msg) (Q : CRes → Prop) : (wpZ S0 (mix D0 cl) (h85 m) n true c85 [m.sv] [] Q) = 
 (((sumRes (cloneS 2 [(svL 2 (List.map Field.enc m.fields))])) = (some ((.c (.one (.own 2000000 2 0 (List.length (List.map Field.enc m.fields)) (List.length (List.map Field.enc m.fields))))), ([], [(.arr 2 (List.map Field.enc m.fields))])))) ∧
 (((sumRes (cloneS 1 [(svL 1 (List.map byteT m.body))])) = (some ((.c (.one (.own 2000000 1 0 (List.length (List.map byteT m.body)) (List.length (List.map byteT m.body))))), ([], [(.arr 1 (List.map byteT m.body))])))) ∧
 ((((0 + (List.length (List.map Field.enc m.fields))) ≤ (List.length (List.map Field.enc m.fields))) ∧
 (((0 + (List.length (List.map byteT m.body))) ≤ (List.length (List.map byteT m.body))) ∧
 True)) ∧
 (Q (out (.c (.agg [(.t (T.sl 2 (List.take (List.length (List.map Field.enc m.fields)) (List.drop 0 (List.map Field.enc m.fields))))), (.t (T.sl 1 (List.take (List.length (List.map byteT m.body)) (List.drop 0 (List.map byteT m.body)))))]))))))) := by kernel_rfl
theorem w84 (cl : CallFn) (n : Nat) (a s h : Int) (E G : List (List T)) (le ce lg cg : Nat) (Q : CRes → Prop) : (wpZ S0 (mix D0 cl) (h84) n false c84 [.c (.one (.ptr 1000000 5 0))] [.box [.t (tI a), .t (tI s), .t (tI h), .own 1000001 6 0 le ce, .own 1000002 2 0 lg cg], .arr 6 E, .arr 2 G] Q) = 
 (Q ((svI (IntKind.wrap .i64 ((IntKind.wrap .i64 (s + 1)) - 1))), ([(.box [none, (some (.t (tI (IntKind.wrap .i64 (s + 1))))), none, none, none]), .keep, .keep], []))) := by kernel_rfl
theorem w71 (cl : CallFn) (n : Nat) (m : Box) (Q : CRes → Prop) : (wpZ S0 (mix D0 cl) (h71 m) n false c71 [m.sv] [] Q) = 
 (((sumRes (cloneS 6 [(svL 6 (List.map Stored.enc m.entries))])) = (some ((.c (.one (.own 2000000 6 0 (List.length (List.map Stored.enc m.entries)) (List.length (List.map Stored.enc m.entries))))), ([], [(.arr 6 (List.map Stored.enc m.entries))])))) ∧
 (((sumRes (cloneS 2 [(svL 2 (List.map GoneE.enc m.gone))])) = (some ((.c (.one (.own 2000000 2 0 (List.length (List.map GoneE.enc m.gone)) (List.length (List.map GoneE.enc m.gone))))), ([], [(.arr 2 (List.map GoneE.enc m.gone))])))) ∧
 ((At S0 (mix D0 cl) n [1, 2, 14, 15] c71l0 [((.s 1), (.sv (.c (.one (.ptr 100 5 0))))), ((.s 2), (.sv (.c (.one (.ptr 200 5 0))))), ((.s 14), (.sv (svI (((List.length (List.map Stored.enc m.entries)) : Nat) : Int)))), ((.s 15), (.sv (svI 0))), ((.c 100 0), (.cell (.t (tI m.nextUid)))), ((.c 100 1), (.cell (.t (tI m.nextSeq)))), ((.c 100 2), (.cell (.t (tI m.horizon)))), ((.c 100 3), (.cell (.own 600 6 0 (List.length (List.map Stored.enc m.entries)) (List.length (List.map Stored.enc m.entries))))), ((.c 100 4), (.cell (.own 900 2 0 (List.length (List.map GoneE.enc m.gone)) (List.length (List.map GoneE.enc m.gone))))), ((.c 200 0), (.cell (.t (tI 0)))), ((.c 200 1), (.cell (.t (tI 0)))), ((.c 200 2), (.cell (.t (tI 0)))), ((.c 200 3), (.cell (.nilsl 6))), ((.c 200 4), (.cell (.nilsl 2))), ((.a 600), (.arr 6 (List.map Stored.enc m.entries))), ((.a 900), (.arr 2 (List.map GoneE.enc m.gone)))] n (.exit 0 [((.s 1), (.sv (.c (.one (.ptr 100 5 0))))), ((.s 2), (.sv (.c (.one (.ptr 200 5 0))))), ((.c 100 0), (.cell (.t (tI m.nextUid)))), ((.c 100 1), (.cell (.t (tI m.nextSeq)))), ((.c 100 2), (.cell (.t (tI m.horizon)))), ((.c 100 3), (.cell (.own 600 6 0 (List.length (List.map Stored.enc m.entries)) (List.length (List.map Stored.enc m.entries))))), ((.c 100 4), (.cell (.own 900 2 0 (List.length (List.map GoneE.enc m.gone)) (List.length (List.map GoneE.enc m.gone))))), ((.c 200 0), (.cell (.t (tI 0)))), ((.c 200 1), (.cell (.t (tI 0)))), ((.c 200 2), (.cell (.t (tI 0)))), ((.c 200 3), (.cell (.nilsl 6))), ((.c 200 4), (.cell (.nilsl 2))), ((.a 600), (.arr 6 (List.map Stored.enc m.entries))), ((.a 900), (.arr 2 (List.map GoneE.enc m.gone)))])) ∧
 (Q ((.c (.agg [(.t (tI m.nextUid)), (.t (tI m.nextSeq)), (.t (tI m.horizon)), (.own 2000000 6 0 (List.length (List.map Stored.enc m.entries)) (List.length (List.map Stored.enc m.entries))), (.own 2000001 2 0 (List.length (List.map GoneE.enc m.gone)) (List.length (List.map GoneE.enc m.gone)))])), ([], [(.arr 6 (List.map Stored.enc m.entries)), (.arr 2 (List.map GoneE.enc m.gone))])))))) := by kernel_rfl
theorem b71_0 (cl : CallFn) (n : Nat) (m : Box) (i : Nat) (Q : Out → Prop) : (wpBody S0 (mix D0 cl) (hb71_0) n [1, 2, 14, 15] c71l0 (C71_0 m i) Q) = 
 (fork (decide (((i : Nat) : Int) < (((List.length (List.map Stored.enc m.entries)) : Nat) : Int)))
 (((0 : Int) ≤ ((i : Nat) : Int)) ∧
 ((i < (List.length (List.map Stored.enc m.entries))) ∧
 (∃ (y5 : Stored), ((((List.map Stored.enc m.entries))[(0 + i)]? = (some [(tI y5.uid), (tI y5.seq), (tI y5.flags), (tI y5.at_), (T.sl 2 (List.map Field.enc y5.msg.fields)), (T.sl 1 (List.map byteT y5.msg.body))])) ∧
 (∃ (y6 : Msg), (((cl 85 [(.c (.agg [(.t (T.sl 2 (List.map Field.enc y5.msg.fields))), (.t (T.sl 1 (List.map byteT y5.msg.body)))]))] []) = (some (out (.c (.agg [(.t (T.sl 2 (List.map Field.enc y6.fields))), (.t (T.sl 1 (List.map byteT y6.body)))]))))) ∧
 (((0 : Int) ≤ ((i : Nat) : Int)) ∧
 ((i < (List.length (List.map Stored.enc m.entries))) ∧
 (∃ (y7 : Stored), ((((List.map Stored.enc m.entries))[(0 + i)]? = (some [(tI y7.uid), (tI y7.seq), (tI y7.flags), (tI y7.at_), (T.sl 2 (List.map Field.enc y7.msg.fields)), (T.sl 1 (List.map byteT y7.msg.body))])) ∧
 (Q (.norm [((.s 1), (.sv (.c (.one (.ptr 100 5 0))))), ((.s 2), (.sv (.c (.one (.ptr 200 5 0))))), ((.s 14), (.sv (svI (((List.length (List.map Stored.enc m.entries)) : Nat) : Int)))), ((.s 15), (.sv (svI (IntKind.wrap .i64 (((i : Nat) : Int) + 1))))), ((.c 100 0), (.cell (.t (tI m.nextUid)))), ((.c 100 1), (.cell (.t (tI m.nextSeq)))), ((.c 100 2), (.cell (.t (tI m.horizon)))), ((.c 100 3), (.cell (.own 600 6 0 (List.length (List.map Stored.enc m.entries)) (List.length (List.map Stored.enc m.entries))))), ((.c 100 4), (.cell (.own 900 2 0 (List.length (List.map GoneE.enc m.gone)) (List.length (List.map GoneE.enc m.gone))))), ((.c 200 0), (.cell (.t (tI 0)))), ((.c 200 1), (.cell (.t (tI 0)))), ((.c 200 2), (.cell (.t (tI 0)))), ((.c 200 3), (.cell (.nilsl 6))), ((.c 200 4), (.cell (.nilsl 2))), ((.a 600), (.arr 6 (List.set (List.map Stored.enc m.entries) (0 + i) [(tI y7.uid), (tI y7.seq), (tI y7.flags), (tI y7.at_), (T.sl 2 (List.map Field.enc y6.fields)), (T.sl 1 (List.map byteT y6.body))]))), ((.a 900), (.arr 2 (List.map GoneE.enc m.gone)))]))))))))))))
 (Q (.exit 0 [((.s 1), (.sv (.c (.one (.ptr 100 5 0))))), ((.s 2), (.sv (.c (.one (.ptr 200 5 0))))), ((.c 100 0), (.cell (.t (tI m.nextUid)))), ((.c 100 1), (.cell (.t (tI m.nextSeq)))), ((.c 100 2), (.cell (.t (tI m.horizon)))), ((.c 100 3), (.cell (.own 600 6 0 (List.length (List.map Stored.enc m.entries)) (List.length (List.map Stored.enc m.entries))))), ((.c 100 4), (.cell (.own 900 2 0 (List.length (List.map GoneE.enc m.gone)) (List.length (List.map GoneE.enc m.gone))))), ((.c 200 0), (.cell (.t (tI 0)))), ((.c 200 1), (.cell (.t (tI 0)))), ((.c 200 2), (.cell (.t (tI 0)))), ((.c 200 3), (.cell (.nilsl 6))), ((.c 200 4), (.cell (.nilsl 2))), ((.a 600), (.arr 6 (List.map Stored.enc m.entries))), ((.a 900), (.arr 2 (List.map GoneE.enc m.gone)))]))) := by kernel_rfl
theorem w105 (cl : CallFn) (n : Nat) (l : List Stored) (i : Nat) (Q : CRes → Prop) : (wpZ S0 (mix D0 cl) (h105) n false c105 [.c (.one (.own 1000000 6 0 (l.map Stored.enc).length (l.map Stored.enc).length)), svI i, svI ((i + 1 : Nat) : Int)] [.arr 6 (l.map Stored.enc)] Q) = 
 (((0 : Int) ≤ ((i : Nat) : Int)) ∧
 (((0 : Int) ≤ (((i + 1) : Nat) : Int)) ∧
 (((0 : Int) ≤ (((List.length (List.map Stored.enc l)) : Nat) : Int)) ∧
 (((i ≤ (i + 1)) ∧
 (((i + 1) ≤ (List.length (List.map Stored.enc l))) ∧
 ((List.length (List.map Stored.enc l)) ≤ (List.length (List.map Stored.enc l))))) ∧
 (fork (((i : Nat) : Int) == (((i + 1) : Nat) : Int))
 (Q ((.c (.one (.own 1000000 6 0 (List.length (List.map Stored.enc l)) (List.length (List.map Stored.enc l))))), ([.keep], [])))
 (((0 : Int) ≤ ((i : Nat) : Int)) ∧
 (((0 ≤ i) ∧
 ((i ≤ (List.length (List.map Stored.enc l))) ∧
 ((List.length (List.map Stored.enc l)) ≤ (List.length (List.map Stored.enc l))))) ∧
 (((0 : Int) ≤ (((i + 1) : Nat) : Int)) ∧
 ((((i + 1) ≤ (List.length (List.map Stored.enc l))) ∧
 (((List.length (List.map Stored.enc l)) ≤ (List.length (List.map Stored.enc l))) ∧
 ((List.length (List.map Stored.enc l)) ≤ (List.length (List.map Stored.enc l))))) ∧
 ((((0 + (i + 1)) + ((List.length (List.map Stored.enc l)) - (i + 1))) ≤ (List.length (List.map Stored.enc l))) ∧
 (((0 + (i - 0)) ≤ (List.length (List.map Stored.enc l))) ∧
 (((decide ((0 = 0) ∧
 ((i - 0) = (List.length (List.map Stored.enc l))))) = false) ∧
 (((decide ((((i - 0) + (List.length (List.take ((List.length (List.map Stored.enc l)) - (i + 1)) (List.drop (0 + (i + 1)) (List.map Stored.enc l))))) ≤ ((List.length (List.map Stored.enc l)) - 0)) ∧
 ((0 + ((i - 0) + (List.length (List.take ((List.length (List.map Stored.enc l)) - (i + 1)) (List.drop (0 + (i + 1)) (List.map Stored.enc l)))))) ≤ (List.length (List.map Stored.enc l))))) = true) ∧
 (((0 : Int) ≤ ((((i - 0) + (List.length (List.take ((List.length (List.map Stored.enc l)) - (i + 1)) (List.drop (0 + (i + 1)) (List.map Stored.enc l))))) : Nat) : Int)) ∧
 (((0 : Int) ≤ (((List.length (List.map Stored.enc l)) : Nat) : Int)) ∧
 (((((i - 0) + (List.length (List.take ((List.length (List.map Stored.enc l)) - (i + 1)) (List.drop (0 + (i + 1)) (List.map Stored.enc l))))) ≤ (List.length (List.map Stored.enc l))) ∧
 (((List.length (List.map Stored.enc l)) ≤ ((List.length (List.map Stored.enc l)) - 0)) ∧
 (((List.length (List.map Stored.enc l)) - 0) ≤ ((List.length (List.map Stored.enc l)) - 0)))) ∧
 ((((0 + ((i - 0) + (List.length (List.take ((List.length (List.map Stored.enc l)) - (i + 1)) (List.drop (0 + (i + 1)) (List.map Stored.enc l)))))) + ((List.length (List.map Stored.enc l)) - ((i - 0) + (List.length (List.take ((List.length (List.map Stored.enc l)) - (i + 1)) (List.drop (0 + (i + 1)) (List.map Stored.enc l))))))) ≤ (List.length (splice (List.map Stored.enc l) (0 + (i - 0)) (List.take ((List.length (List.map Stored.enc l)) - (i + 1)) (List.drop (0 + (i + 1)) (List.map Stored.enc l)))))) ∧
 (Q ((.c (.one (.own 1000000 6 0 ((i - 0) + (List.length (List.take ((List.length (List.map Stored.enc l)) - (i + 1)) (List.drop (0 + (i + 1)) (List.map Stored.enc l))))) ((List.length (List.map Stored.enc l)) - 0)))), ([(.arr 6 (splice (splice (List.map Stored.enc l) (0 + (i - 0)) (List.take ((List.length (List.map Stored.enc l)) - (i + 1)) (List.drop (0 + (i + 1)) (List.map Stored.enc l)))) (0 + ((i - 0) + (List.length (List.take ((List.length (List.map Stored.enc l)) - (i + 1)) (List.drop (0 + (i + 1)) (List.map Stored.enc l)))))) (List.replicate ((List.length (List.map Stored.enc l)) - ((i - 0) + (List.length (List.take ((List.length (List.map Stored.enc l)) - (i + 1)) (List.drop (0 + (i + 1)) (List.map Stored.enc l)))))) [(tI 0), (tI 0), (tI 0), (tI 0), (T.sl 2 []), (T.sl 1 [])])))], [])))))))))))))))))))) := by kernel_rfl
theorem w106 (cl : CallFn) (n : Nat) (l : List GoneE) (Q : CRes → Prop) : (wpZ S0 (mix D0 cl) (h106) n false c106 [.c (.one (.own 1000000 2 0 (l.map GoneE.enc).length (l.map GoneE.enc).length)), svI 0, svI 1] [.arr 2 (l.map GoneE.enc)] Q) = 
 (((0 : Int) ≤ 0) ∧
 (((0 : Int) ≤ 1) ∧
 (((0 : Int) ≤ (((List.length (List.map GoneE.enc l)) : Nat) : Int)) ∧
 (((0 ≤ 1) ∧
 ((1 ≤ (List.length (List.map GoneE.enc l))) ∧
 ((List.length (List.map GoneE.enc l)) ≤ (List.length (List.map GoneE.enc l))))) ∧
 (((0 : Int) ≤ 0) ∧
 (((0 ≤ 0) ∧
 ((0 ≤ (List.length (List.map GoneE.enc l))) ∧
 ((List.length (List.map GoneE.enc l)) ≤ (List.length (List.map GoneE.enc l))))) ∧
 (((0 : Int) ≤ 1) ∧
 (((1 ≤ (List.length (List.map GoneE.enc l))) ∧
 (((List.length (List.map GoneE.enc l)) ≤ (List.length (List.map GoneE.enc l))) ∧
 ((List.length (List.map GoneE.enc l)) ≤ (List.length (List.map GoneE.enc l))))) ∧
 (((1 + ((List.length (List.map GoneE.enc l)) - 1)) ≤ (List.length (List.map GoneE.enc l))) ∧
 ((0 ≤ (List.length (List.map GoneE.enc l))) ∧
 (((decide ((0 = 0) ∧
 (0 = (List.length (List.map GoneE.enc l))))) = false) ∧
 (((decide (((0 + (List.length (List.take ((List.length (List.map GoneE.enc l)) - 1) (List.drop 1 (List.map GoneE.enc l))))) ≤ ((List.length (List.map GoneE.enc l)) - 0)) ∧
 ((0 + (0 + (List.length (List.take ((List.length (List.map GoneE.enc l)) - 1) (List.drop 1 (List.map GoneE.enc l)))))) ≤ (List.length (List.map GoneE.enc l))))) = true) ∧
 (((0 : Int) ≤ (((0 + (List.length (List.take ((List.length (List.map GoneE.enc l)) - 1) (List.drop 1 (List.map GoneE.enc l))))) : Nat) : Int)) ∧
 (((0 : Int) ≤ (((List.length (List.map GoneE.enc l)) : Nat) : Int)) ∧
 ((((0 + (List.length (List.take ((List.length (List.map GoneE.enc l)) - 1) (List.drop 1 (List.map GoneE.enc l))))) ≤ (List.length (List.map GoneE.enc l))) ∧
 (((List.length (List.map GoneE.enc l)) ≤ ((List.length (List.map GoneE.enc l)) - 0)) ∧
 (((List.length (List.map GoneE.enc l)) - 0) ≤ ((List.length (List.map GoneE.enc l)) - 0)))) ∧
 ((((0 + (0 + (List.length (List.take ((List.length (List.map GoneE.enc l)) - 1) (List.drop 1 (List.map GoneE.enc l)))))) + ((List.length (List.map GoneE.enc l)) - (0 + (List.length (List.take ((List.length (List.map GoneE.enc l)) - 1) (List.drop 1 (List.map GoneE.enc l))))))) ≤ (List.length (splice (List.map GoneE.enc l) 0 (List.take ((List.length (List.map GoneE.enc l)) - 1) (List.drop 1 (List.map GoneE.enc l)))))) ∧
 (Q ((.c (.one (.own 1000000 2 0 (0 + (List.length (List.take ((List.length (List.map GoneE.enc l)) - 1) (List.drop 1 (List.map GoneE.enc l))))) ((List.length (List.map GoneE.enc l)) - 0)))), ([(.arr 2 (splice (splice (List.map GoneE.enc l) 0 (List.take ((List.length (List.map GoneE.enc l)) - 1) (List.drop 1 (List.map GoneE.enc l)))) (0 + (0 + (List.length (List.take ((List.length (List.map GoneE.enc l)) - 1) (List.drop 1 (List.map GoneE.enc l)))))) (List.replicate ((List.length (List.map GoneE.enc l)) - (0 + (List.length (List.take ((List.length (List.map GoneE.enc l)) - 1) (List.drop 1 (List.map GoneE.enc l)))))) [(tI 0), (tI 0)])))], []))))))))))))))))))) := by kernel_rfl
theorem w86 (cl : CallFn) (n : Nat) (a s h : Int) (es : List Stored) (gs : List GoneE) (i : Nat) (Q : CRes → Prop) : (wpZ S0 (mix D0 cl) (h86) n false c86 [.c (.one (.ptr 1000000 5 0)), svI i] [.box [.t (tI a), .t (tI s), .t (tI h), .own 1000001 6 0 (es.map Stored.enc).length (es.map Stored.enc).length, .own 1000002 2 0 (gs.map GoneE.enc).length (gs.map GoneE.enc).length], .arr 6 (es.map Stored.enc), .arr 2 (gs.map GoneE.enc)] Q) = 
 (((0 : Int) ≤ ((i : Nat) : Int)) ∧
 ((i < (List.length (List.map Stored.enc es))) ∧
 (∃ (y9 : Stored), ((((List.map Stored.enc es))[(0 + i)]? = (some [(tI y9.uid), (tI y9.seq), (tI y9.flags), (tI y9.at_), (T.sl 2 (List.map Field.enc y9.msg.fields)), (T.sl 1 (List.map byteT y9.msg.body))])) ∧
 (∃ (y10 : Int), (∃ (y11 : Int), (((cl 84 [(.c (.one (.ptr 1000000 5 0)))] [(.box [(.t (tI a)), (.t (tI s)), (.t (tI h)), (.own 1000001 6 0 (List.length (List.map Stored.enc es)) (List.length (List.map Stored.enc es))), (.own 1000002 2 0 (List.length (List.map GoneE.enc gs)) (List.length (List.map GoneE.enc gs)))]), (.arr 6 (List.map Stored.enc es)), (.arr 2 (List.map GoneE.enc gs))]) = (some ((svI y10), ([(.box [none, (some (.t (tI y11))), none, none, none]), .keep, .keep], [])))) ∧
 ((1 ≤ (List.length [[(tI y9.uid), (tI y10)]])) ∧
 (((0 + (List.length (List.map GoneE.enc gs))) ≤ (List.length (List.map GoneE.enc gs))) ∧
 (((decide ((0 = 0) ∧
 ((List.length (List.map GoneE.enc gs)) = (List.length (List.map GoneE.enc gs))))) = true) ∧
 (((((List.length ((List.map GoneE.enc gs) ++ [[(tI y9.uid), (tI y10)]])) * 16) ≤ 140737488355328) ∧
 ((List.length ((List.map GoneE.enc gs) ++ [[(tI y9.uid), (tI y10)]])) ≤ 9223372036854775807)) ∧
 (∃ (y12 : List Stored), (((cl 105 [(.c (.one (.own 1000000 6 0 (List.length (List.map Stored.enc es)) (List.length (List.map Stored.enc es))))), (svI ((i : Nat) : Int)), (svI (IntKind.wrap .i64 (((i : Nat) : Int) + 1)))] [(.arr 6 (List.map Stored.enc es))]) = (some ((.c (.one (.own 1000000 6 0 (List.length y12) ((List.length y12) + 1)))), ([(.arr 6 ((List.map Stored.enc y12) ++ [[(tI 0), (tI 0), (tI 0), (tI 0), (T.sl 2 []), (T.sl 1 [])]]))], [])))) ∧
 (fork (decide ((((List.length ((List.map GoneE.enc gs) ++ [[(tI y9.uid), (tI y10)]])) : Nat) : Int) > 400))
 (((0 : Int) ≤ 0) ∧
 ((0 < (List.length ((List.map GoneE.enc gs) ++ [[(tI y9.uid), (tI y10)]]))) ∧
 (∃ (y13 : GoneE), (((((List.map GoneE.enc gs) ++ [[(tI y9.uid), (tI y10)]]))[0]? = (some [(tI y13.uid), (tI y13.seq)])) ∧
 (∃ (y14 : List GoneE), (((cl 106 [(.c (.one (.own 1000000 2 0 (List.length ((List.map GoneE.enc gs) ++ [[(tI y9.uid), (tI y10)]])) (List.length ((List.map GoneE.enc gs) ++ [[(tI y9.uid), (tI y10)]]))))), (svI 0), (svI 1)] [(.arr 2 ((List.map GoneE.enc gs) ++ [[(tI y9.uid), (tI y10)]]))]) = (some ((.c (.one (.own 1000000 2 0 (List.length y14) ((List.length y14) + 1)))), ([(.arr 2 ((List.map GoneE.enc y14) ++ [[(tI 0), (tI 0)]]))], [])))) ∧
 (Q ((.tup []), ([(.box [none, (some (.t (tI y11))), (some (.t (tI y13.seq))), (some (.own 1000001 6 0 (List.length y12) ((List.length y12) + 1))), (some (.own 2000000 2 0 (List.length y14) ((List.length y14) + 1)))]), (.arr 6 ((List.map Stored.enc y12) ++ [[(tI 0), (tI 0), (tI 0), (tI 0), (T.sl 2 []), (T.sl 1 [])]])), .gone], [(.arr 2 ((List.map GoneE.enc y14) ++ [[(tI 0), (tI 0)]]))])))))))))
 (Q ((.tup []), ([(.box [none, (some (.t (tI y11))), none, (some (.own 1000001 6 0 (List.length y12) ((List.length y12) + 1))), (some (.own 2000000 2 0 (List.length ((List.map GoneE.enc gs) ++ [[(tI y9.uid), (tI y10)]])) (List.length ((List.map GoneE.enc gs) ++ [[(tI y9.uid), (tI y10)]]))))]), (.arr 6 ((List.map Stored.enc y12) ++ [[(tI 0), (tI 0), (tI 0), (tI 0), (T.sl 2 []), (T.sl 1 [])]])), .gone], [(.arr 2 ((List.map GoneE.enc gs) ++ [[(tI y9.uid), (tI y10)]]))]))))))))))))))))) := by kernel_rfl

end Go.Ev

namespace Go.Ev
open Go.Proofs.Ytbempckmbfbjgaa.Code
set_option maxRecDepth 100000
theorem del_eq {α : Type} (L : List α) (i : Nat) (z : α) (h : i < L.length) :
    splice (splice L (0 + (i - 0)) (List.take (L.length - (i + 1)) (List.drop (0 + (i + 1)) L))) (0 + ((i - 0) + (List.take (L.length - (i + 1)) (List.drop (0 + (i + 1)) L)).length)) (List.replicate (L.length - ((i - 0) + (List.take (L.length - (i + 1)) (List.drop (0 + (i + 1)) L)).length)) z) = L.eraseIdx i ++ [z] := by
  simp only [Nat.zero_add, Nat.sub_zero]
  have hD : List.take (L.length - (i + 1)) (List.drop (i + 1) L) = List.drop (i + 1) L := by
    rw [← List.length_drop, List.take_length]
  rw [hD, List.eraseIdx_eq_take_drop_succ]
  have hdl : (List.drop (i + 1) L).length = L.length - (i + 1) := List.length_drop
  have h1 : L.length - (i + (List.drop (i + 1) L).length) = 1 := by omega
  rw [h1]
  have hE : (List.take i L ++ List.drop (i + 1) L).length = i + (List.drop (i + 1) L).length := by rw [List.length_append, List.length_take]; omega
  have e1 : splice L i (List.drop (i + 1) L) = (List.take i L ++ List.drop (i + 1) L) ++ List.drop (i + (List.drop (i + 1) L).length) L := rfl
  rw [e1, ← hE]
  simp only [splice, List.replicate_one, List.length_singleton]
  have hnil : List.drop ((List.take i L ++ List.drop (i + 1) L).length + 1) (List.take i L ++ List.drop (i + 1) L ++ List.drop (List.take i L ++ List.drop (i + 1) L).length L) = [] := List.drop_eq_nil_of_le (by rw [List.length_append, List.length_drop]; omega)
  rw [hnil, List.append_nil, List.take_left]
theorem del_len {α : Type} (L : List α) (i : Nat) (h : i < L.length) : (i - 0) + (List.take (L.length - (i + 1)) (List.drop (0 + (i + 1)) L)).length = (L.eraseIdx i).length := by
  rw [List.length_eraseIdx_of_lt h, List.length_take, List.length_drop]
  omega
theorem map_eraseIdx' {α β : Type} (f : α → β) (l : List α) (i : Nat) : (l.map f).eraseIdx i = (l.eraseIdx i).map f := by
  rw [List.eraseIdx_eq_take_drop_succ, List.eraseIdx_eq_take_drop_succ, List.map_append, List.map_take, List.map_drop]
def tailFault (c : Change) : Fault :=
  if inB c.set 0 63 && (inB c.clear 0 63 && inB c.at_ (-68719476736) 68719476736) then
    if c.kind == 1 then (if (msgFault c.msg).code != 0 then ⟨(msgFault c.msg).code, -6⟩ else ⟨0, 0⟩) else ⟨0, 0⟩
  else ⟨3, -5⟩
def contentB (c : Change) : Bool := decide (c.msg.fields.length + c.msg.body.length > 0)
def changeFault (c : Change) : Fault :=
  if c.kind == 1 then (if c.uid != 0 then ⟨5, -5⟩ else if c.clear != 0 then ⟨5, -5⟩ else tailFault c)
  else if c.kind == 2 then (if c.at_ != 0 then ⟨5, -5⟩ else if contentB c then ⟨5, -5⟩ else tailFault c)
  else if c.kind == 3 then (if c.at_ != 0 then ⟨5, -5⟩ else if contentB c then ⟨5, -5⟩ else if !((c.set == 0) && ((c.clear == 0) && true)) then ⟨5, -5⟩ else tailFault c)
  else ⟨4, -5⟩
section
variable {n d : Nat} {cl : CallFn}
theorem k82 (c : Change) (hs : c.msg.sz ≤ 1000000000) (hd : 9 ≤ d) (hn : 1000000000000 ≤ n) : cz n (d + 2) 82 [c.sv] [] = some (out (changeFault c).sv) := by
  refine run h82 false tab82 rfl ?_
  have c47 := deep (d' := d + 1) (d := 9) (by omega) (k47 (n := n) (d := 7) c.msg (by omega) (by omega) hn)
  have hfl := fsz_len c.msg.fields
  have hms : c.msg.sz = fsz c.msg.fields + c.msg.body.length + 1 := rfl
  rw [w82, wrapI (by omega) (by simp; omega)]
  have tail : ∀ (Q : CRes → Prop), Q (out (tailFault c).sv) → (fork (inB c.set 0 63)
 (fork (inB c.clear 0 63)
 (fork (inB c.at_ (-68719476736) 68719476736)
 (fork (c.kind == 1)
 (∃ (y4 : Fault), (((cz n (d + 1) 47 [(.c (.agg [(.t (T.sl 2 (List.map Field.enc c.msg.fields))), (.t (T.sl 1 (List.map byteT c.msg.body)))]))] []) = (some (out (.c (.agg [(.t (tI y4.code)), (.t (tI y4.index))]))))) ∧
 (fork (bne y4.code 0)
 (Q (out (.c (.agg [(.t (tI y4.code)), (.t (tI (-6)))]))))
 (Q (out (.c (.agg [(.t (tI 0)), (.t (tI 0))])))))))
 (Q (out (.c (.agg [(.t (tI 0)), (.t (tI 0))])))))
 (Q (out (.c (.agg [(.t (tI 3)), (.t (tI (-5)))])))))
 (Q (out (.c (.agg [(.t (tI 3)), (.t (tI (-5)))])))))
 (Q (out (.c (.agg [(.t (tI 3)), (.t (tI (-5)))]))))) := by
    intro Q hQ
    refine fork_iff.2 ⟨fun a1 => fork_iff.2 ⟨fun a2 => fork_iff.2 ⟨fun a3 => fork_iff.2 ⟨fun a4 => ⟨msgFault c.msg, c47, fork_iff.2 ⟨fun a5 => ?_, fun a5 => ?_⟩⟩, fun a4 => ?_⟩, fun a3 => ?_⟩, fun a2 => ?_⟩, fun a1 => ?_⟩
    · simpa only [tailFault, a1, a2, a3, a4, a5, Bool.and_self, if_true] using hQ
    · simpa only [tailFault, a1, a2, a3, a4, a5, Bool.and_self, if_true, Bool.false_eq_true, if_false] using hQ
    · simpa only [tailFault, a1, a2, a3, a4, Bool.and_self, if_true, Bool.false_eq_true, if_false] using hQ
    · simpa only [tailFault, a1, a2, a3, Bool.and_false, Bool.false_eq_true, if_false] using hQ
    · simpa only [tailFault, a1, a2, Bool.false_and, Bool.and_false, Bool.false_eq_true, if_false] using hQ
    · simpa only [tailFault, a1, Bool.false_and, Bool.false_eq_true, if_false] using hQ
  have hcont : ((((List.length (List.map Field.enc c.msg.fields)) : Nat) : Int) + (((List.length (List.map byteT c.msg.body)) : Nat) : Int) > 0) ↔ c.msg.fields.length + c.msg.body.length > 0 := by simp only [List.length_map]; omega
  refine fork_dec.2 ⟨fun b0 => ?_, fun b0 => ?_⟩
  · have hc : contentB c = true := by simp only [contentB]; exact decide_eq_true (hcont.1 b0)
    refine fork_iff.2 ⟨fun b1 => fork_iff.2 ⟨fun b2 => ?_, fun b2 => fork_iff.2 ⟨fun b3 => ?_, fun b3 => tail (· = out (changeFault c).sv) ?_⟩⟩, fun b1 => fork_iff.2 ⟨fun b2 => fork_iff.2 ⟨fun b3 => ?_, fun b3 => ?_⟩, fun b2 => fork_iff.2 ⟨fun b3 => fork_iff.2 ⟨fun b4 => ?_, fun b4 => ?_⟩, fun b3 => ?_⟩⟩⟩
    all_goals simp only [changeFault, *, if_true, Bool.false_eq_true, if_false]
  · have hc : contentB c = false := by simp only [contentB]; exact decide_eq_false (fun h => b0 (hcont.2 h))
    refine fork_iff.2 ⟨fun b1 => fork_iff.2 ⟨fun b2 => ?_, fun b2 => fork_iff.2 ⟨fun b3 => ?_, fun b3 => tail (· = out (changeFault c).sv) ?_⟩⟩, fun b1 => fork_iff.2 ⟨fun b2 => fork_iff.2 ⟨fun b3 => ?_, fun b3 => tail (· = out (changeFault c).sv) ?_⟩, fun b2 => fork_iff.2 ⟨fun b3 => fork_iff.2 ⟨fun b4 => ?_, fun b4 => fork_iff.2 ⟨fun b5 => ?_, fun b5 => tail (· = out (changeFault c).sv) ?_⟩⟩, fun b3 => ?_⟩⟩⟩
    all_goals simp only [changeFault, *, if_true, Bool.false_eq_true, if_false]
theorem k85 (m : Msg) (hm : m.sz ≤ 1000000000) : cz n (d + 2) 85 [m.sv] [] = some (out m.sv) := by
  have h1 := fsz_len m.fields
  unfold Msg.sz at hm
  refine run (h85 m) true tab85 rfl ?_
  rw [w85]
  refine ⟨sumClone (by rw [List.length_map]; omega), sumClone (by rw [List.length_map]; omega), ?_⟩
  rw [List.drop_zero, List.drop_zero, List.take_length, List.take_length]
  exact ⟨⟨zle, zle, trivial⟩, rfl⟩
theorem k84 (a s h : Int) (E G : List (List T)) (le ce lg cg : Nat) (h1 : -1000000000000 ≤ s) (h2 : s ≤ 1000000000000) : cz n (d + 2) 84 [.c (.one (.ptr 1000000 5 0))] [.box [.t (tI a), .t (tI s), .t (tI h), .own 1000001 6 0 le ce, .own 1000002 2 0 lg cg], .arr 6 E, .arr 2 G] = some (svI s, [.box [none, some (.t (tI (s + 1))), none, none, none], .keep, .keep], []) := by
  refine run h84 false tab84 rfl ?_
  rw [w84, wrapI (x := s + 1) (by omega) (by omega), wrapI (by omega) (by omega)]
  have : s + 1 - 1 = s := by omega
  rw [this]
theorem at71 (b : Box) (hs : b.small) (hd : 2 ≤ d) : ∀ (r k m : Nat), b.entries.length = k + r → r < m →
    At S0 (mix D0 (cz n d)) n [1, 2, 14, 15] c71l0 (C71_0 b k) m (.exit 0 [((.s 1), (.sv (.c (.one (.ptr 100 5 0))))), ((.s 2), (.sv (.c (.one (.ptr 200 5 0))))), ((.c 100 0), (.cell (.t (tI b.nextUid)))), ((.c 100 1), (.cell (.t (tI b.nextSeq)))), ((.c 100 2), (.cell (.t (tI b.horizon)))), ((.c 100 3), (.cell (.own 600 6 0 (List.length (List.map Stored.enc b.entries)) (List.length (List.map Stored.enc b.entries))))), ((.c 100 4), (.cell (.own 900 2 0 (List.length (List.map GoneE.enc b.gone)) (List.length (List.map GoneE.enc b.gone))))), ((.c 200 0), (.cell (.t (tI 0)))), ((.c 200 1), (.cell (.t (tI 0)))), ((.c 200 2), (.cell (.t (tI 0)))), ((.c 200 3), (.cell (.nilsl 6))), ((.c 200 4), (.cell (.nilsl 2))), ((.a 600), (.arr 6 (List.map Stored.enc b.entries))), ((.a 900), (.arr 2 (List.map GoneE.enc b.gone)))])
  | r, k, 0, _, hm => by omega
  | r, k, m + 1, he, hm => by
    refine At.step hb71_0 ?_
    have h1 := hs.e
    rw [b71_0]
    cases r with
    | zero =>
      refine fork_dec.2 ⟨fun h => ?_, fun h => rfl⟩
      simp at h; omega
    | succ r =>
      have hg : b.entries[k]? = some (b.entries[k]'(by omega)) := List.getElem?_eq_getElem (by omega)
      have hk : k < (List.map Stored.enc b.entries).length := by rw [List.length_map]; omega
      have hg' : (List.map Stored.enc b.entries)[0 + k]? = some (b.entries[k]'(by omega)).enc := by rw [Nat.zero_add]; exact mget hg
      refine fork_dec.2 ⟨fun _ => ⟨by omega, hk, _, hg', (b.entries[k]'(by omega)).msg, deep hd (k85 (n := n) (d := 0) _ (hs.m _ (List.getElem_mem _))), by omega, hk, _, hg', ?_⟩, fun h => ?_⟩
      · rw [wrap1 (by omega)]
        have e1 : List.set (List.map Stored.enc b.entries) (0 + k) (b.entries[k]'(by omega)).enc = List.map Stored.enc b.entries := by
          rw [Nat.zero_add]
          refine List.ext_getElem? fun j => ?_
          rw [List.getElem?_set]
          split
          · rename_i hj
            subst hj
            exact (mget hg).symm
          · rfl
        have := at71 b hs hd r (k + 1) m (by omega) (by omega)
        simp only [C71_0] at this
        rw [e1]
        exact this
      · simp at h; omega
theorem k71 (b : Box) (hs : b.small) (hn : 1000000000000 ≤ n) (hd : 2 ≤ d) : cz n (d + 2) 71 [b.sv] [] = some (.c (.agg [.t (tI b.nextUid), .t (tI b.nextSeq), .t (tI b.horizon), .own 2000000 6 0 (b.entries.map Stored.enc).length (b.entries.map Stored.enc).length, .own 2000001 2 0 (b.gone.map GoneE.enc).length (b.gone.map GoneE.enc).length]), [], [.arr 6 (b.entries.map Stored.enc), .arr 2 (b.gone.map GoneE.enc)]) := by
  refine run (h71 b) false tab71 rfl ?_
  rw [w71]
  have h1 := hs.e
  have h2 := hs.g
  refine ⟨sumClone (by rw [List.length_map]; omega), sumClone (by rw [List.length_map]; omega), ?_⟩
  exact ⟨at71 (n := n) (d := d + 1) b hs (by omega) b.entries.length 0 n (by omega) (by omega), rfl⟩
def zS : List T := [tI 0, tI 0, tI 0, tI 0, .sl 2 [], .sl 1 []]
theorem k105 (l : List Stored) (i : Nat) (hi : i < l.length) (hl : l.length ≤ 10000000000) : cz n (d + 2) 105 [.c (.one (.own 1000000 6 0 (l.map Stored.enc).length (l.map Stored.enc).length)), svI i, svI ((i + 1 : Nat) : Int)] [.arr 6 (l.map Stored.enc)] = some (.c (.one (.own 1000000 6 0 (l.eraseIdx i).length ((l.eraseIdx i).length + 1))), [.arr 6 ((l.eraseIdx i).map Stored.enc ++ [zS])], []) := by
  refine run h105 false tab105 rfl ?_
  rw [w105]
  have hL : i < (List.map Stored.enc l).length := by rw [List.length_map]; exact hi
  have hD := del_len (List.map Stored.enc l) i hL
  have hX := del_eq (List.map Stored.enc l) i zS hL
  have hE : (List.map Stored.enc l).length = ((List.map Stored.enc l).eraseIdx i).length + 1 := by rw [List.length_eraseIdx_of_lt hL]; omega
  have hE2 : ((List.map Stored.enc l).eraseIdx i).length = (l.eraseIdx i).length := by rw [map_eraseIdx', List.length_map]
  have hX2 : (splice (List.map Stored.enc l) (0 + (i - 0)) (List.take ((List.length (List.map Stored.enc l)) - (i + 1)) (List.drop (0 + (i + 1)) (List.map Stored.enc l)))).length = (List.map Stored.enc l).length := by
    simp only [splice, List.length_append, List.length_take, List.length_drop]; omega
  unfold zS at hX
  rw [hX, hX2, hD]
  refine ⟨by omega, by omega, by omega, ⟨by omega, hL, Nat.le_refl _⟩, fork_iff.2 ⟨fun h => ?_, fun h => ⟨by omega, ⟨by omega, by omega, Nat.le_refl _⟩, by omega, ⟨hL, Nat.le_refl _, Nat.le_refl _⟩, by omega, by omega, ?_, ?_, by omega, by omega, ⟨by omega, by omega, Nat.le_refl _⟩, by omega, ?_⟩⟩⟩
  · rw [beq_iff_eq] at h; omega
  · exact decide_eq_false (by omega)
  · exact decide_eq_true (by omega)
  · rw [hE2, Nat.sub_zero, hE, hE2, map_eraseIdx']
    rfl
theorem k106 (l : List GoneE) (hi : 0 < l.length) (hl : l.length ≤ 10000000000) : cz n (d + 2) 106 [.c (.one (.own 1000000 2 0 (l.map GoneE.enc).length (l.map GoneE.enc).length)), svI 0, svI 1] [.arr 2 (l.map GoneE.enc)] = some (.c (.one (.own 1000000 2 0 (l.eraseIdx 0).length ((l.eraseIdx 0).length + 1))), [.arr 2 ((l.eraseIdx 0).map GoneE.enc ++ [[tI 0, tI 0]])], []) := by
  refine run h106 false tab106 rfl ?_
  rw [w106]
  have hL : 0 < (List.map GoneE.enc l).length := by rw [List.length_map]; exact hi
  have hD := del_len (List.map GoneE.enc l) 0 hL
  have hX := del_eq (List.map GoneE.enc l) 0 [tI 0, tI 0] hL
  have hE : (List.map GoneE.enc l).length = ((List.map GoneE.enc l).eraseIdx 0).length + 1 := by rw [List.length_eraseIdx_of_lt hL]; omega
  have hE2 : ((List.map GoneE.enc l).eraseIdx 0).length = (l.eraseIdx 0).length := by rw [map_eraseIdx', List.length_map]
  have hX2 : (splice (List.map GoneE.enc l) 0 (List.take ((List.length (List.map GoneE.enc l)) - 1) (List.drop 1 (List.map GoneE.enc l)))).length = (List.map GoneE.enc l).length := by
    simp only [splice, List.length_append, List.length_take, List.length_drop]; omega
  simp only [Nat.zero_add, Nat.sub_zero] at hX hD
  simp only [Nat.zero_add, Nat.sub_zero]
  rw [hX, hX2, hD]
  refine ⟨by omega, by omega, by omega, ⟨by omega, hL, Nat.le_refl _⟩, by omega, ⟨by omega, by omega, Nat.le_refl _⟩, by omega, ⟨hL, Nat.le_refl _, Nat.le_refl _⟩, by omega, by omega, ?_, ?_, by omega, by omega, ⟨by omega, by omega, Nat.le_refl _⟩, by omega, ?_⟩
  · exact decide_eq_false (by omega)
  · exact decide_eq_true (by omega)
  · rw [hE2, hE, hE2, map_eraseIdx']
end
end Go.Ev

namespace Go.Ev
open Go.Proofs.Ytbempckmbfbjgaa.Code
set_option maxRecDepth 100000
def h55 : Hints := ⟨[(111, eStored), (127, eStored), (146, eStored), (148, eStored), (113, eStored), (129, eStored), (0, eStored)], [(12, rFault), (23, rInt), (58, (.ex (Box) fun x => .ret (.c (.agg [.t (tI x.nextUid), .t (tI x.nextSeq), .t (tI x.horizon), .own 2000000 6 0 (x.entries.map Stored.enc).length (x.entries.map Stored.enc).length, .own 2000001 2 0 (x.gone.map GoneE.enc).length (x.gone.map GoneE.enc).length]), [], [.arr 6 (x.entries.map Stored.enc), .arr 2 (x.gone.map GoneE.enc)]))), (80, (.ex (Int) fun a => (.ex (Int) fun b => .ret (svI a, [.box [none, some (.t (tI b)), none, none, none], .keep, .keep], [])))), (87, rMsg), (145, (.ex (Int) fun a => (.ex (Int) fun b => .ret (svI a, [.box [none, some (.t (tI b)), none, none, none], .keep, .keep], [])))), (65, (.ex (Int) fun s => (.ex (List Stored) fun es => (.ex (List GoneE) fun gs => (.or (.ret (.tup [], [.box [none, some (.t (tI s)), none, some (.own 1000001 6 0 es.length (es.length + 1)), some (.own 2000000 2 0 (gs.map GoneE.enc).length (gs.map GoneE.enc).length)], .arr 6 (es.map Stored.enc ++ [[tI 0, tI 0, tI 0, tI 0, .sl 2 [], .sl 1 []]]), .gone], [.arr 2 (gs.map GoneE.enc)])) (.ex (Int) fun h => .ret (.tup [], [.box [none, some (.t (tI s)), some (.t (tI h)), some (.own 1000001 6 0 es.length (es.length + 1)), some (.own 2000000 2 0 gs.length (gs.length + 1))], .arr 6 (es.map Stored.enc ++ [[tI 0, tI 0, tI 0, tI 0, .sl 2 [], .sl 1 []]]), .gone], [.arr 2 (gs.map GoneE.enc ++ [[tI 0, tI 0]])])))))))], [], [(90, [true])]⟩
theorem w55 (cl : CallFn) (n : Nat) (m : Box) (c : Change) (Q : CRes → Prop) : (wpZ S0 (mix D0 cl) (h55) n true c55 [m.sv, c.sv] [] Q) = 
 (∃ (y5 : Fault), (((cl 82 [(.c (.agg [(.t (tI c.kind)), (.t (tI c.uid)), (.t (tI c.set)), (.t (tI c.clear)), (.t (tI c.at_)), (.t (T.sl 2 (List.map Field.enc c.msg.fields))), (.t (T.sl 1 (List.map byteT c.msg.body)))]))] []) = (some (out (.c (.agg [(.t (tI y5.code)), (.t (tI y5.index))]))))) ∧
 (fork (bne y5.code 0)
 (True ∧
 (Q (out (.tup [(.agg [(.t (tI 0)), (.t (tI 0)), (.t (tI 0)), (.t (T.sl 6 [])), (.t (T.sl 2 []))]), (.agg [(.t (tI y5.code)), (.t (tI y5.index))])]))))
 (fork (c.kind == 1)
 (∃ (y6 : Int), (((cl 83 [(.c (.agg [(.t (tI m.nextUid)), (.t (tI m.nextSeq)), (.t (tI m.horizon)), (.t (T.sl 6 (List.map Stored.enc m.entries))), (.t (T.sl 2 (List.map GoneE.enc m.gone)))])), (svI c.uid)] []) = (some (out (svI y6)))) ∧
 (fork (m.nextSeq == 1000000)
 (True ∧
 (Q (out (.tup [(.agg [(.t (tI 0)), (.t (tI 0)), (.t (tI 0)), (.t (T.sl 6 [])), (.t (T.sl 2 []))]), (.agg [(.t (tI 1)), (.t (tI (-3)))])]))))
 (fork (m.nextUid == 1000000)
 (True ∧
 (Q (out (.tup [(.agg [(.t (tI 0)), (.t (tI 0)), (.t (tI 0)), (.t (T.sl 6 [])), (.t (T.sl 2 []))]), (.agg [(.t (tI 1)), (.t (tI (-3)))])]))))
 (fork ((((List.length (List.map Stored.enc m.entries)) : Nat) : Int) == 200)
 (True ∧
 (Q (out (.tup [(.agg [(.t (tI 0)), (.t (tI 0)), (.t (tI 0)), (.t (T.sl 6 [])), (.t (T.sl 2 []))]), (.agg [(.t (tI 2)), (.t (tI (-1)))])]))))
 (∃ (y7 : Box), (((cl 71 [(.c (.agg [(.t (tI m.nextUid)), (.t (tI m.nextSeq)), (.t (tI m.horizon)), (.t (T.sl 6 (List.map Stored.enc m.entries))), (.t (T.sl 2 (List.map GoneE.enc m.gone)))]))] []) = (some ((.c (.agg [(.t (tI y7.nextUid)), (.t (tI y7.nextSeq)), (.t (tI y7.horizon)), (.own 2000000 6 0 (List.length (List.map Stored.enc y7.entries)) (List.length (List.map Stored.enc y7.entries))), (.own 2000001 2 0 (List.length (List.map GoneE.enc y7.gone)) (List.length (List.map GoneE.enc y7.gone)))])), ([], [(.arr 6 (List.map Stored.enc y7.entries)), (.arr 2 (List.map GoneE.enc y7.gone))])))) ∧
 (fork (c.kind == 1)
 (∃ (y8 : Int), (∃ (y9 : Int), (((cl 84 [(.c (.one (.ptr 1000000 5 0)))] [(.box [(.t (tI y7.nextUid)), (.t (tI y7.nextSeq)), (.t (tI y7.horizon)), (.own 1000001 6 0 (List.length (List.map Stored.enc y7.entries)) (List.length (List.map Stored.enc y7.entries))), (.own 1000002 2 0 (List.length (List.map GoneE.enc y7.gone)) (List.length (List.map GoneE.enc y7.gone)))]), (.arr 6 (List.map Stored.enc y7.entries)), (.arr 2 (List.map GoneE.enc y7.gone))]) = (some ((svI y8), ([(.box [none, (some (.t (tI y9))), none, none, none]), .keep, .keep], [])))) ∧
 (∃ (y10 : Msg), (((cl 85 [(.c (.agg [(.t (T.sl 2 (List.map Field.enc c.msg.fields))), (.t (T.sl 1 (List.map byteT c.msg.body)))]))] []) = (some (out (.c (.agg [(.t (T.sl 2 (List.map Field.enc y10.fields))), (.t (T.sl 1 (List.map byteT y10.body)))]))))) ∧
 ((1 ≤ (List.length [[(tI y7.nextUid), (tI y8), (tI c.set), (tI c.at_), (T.sl 2 (List.map Field.enc y10.fields)), (T.sl 1 (List.map byteT y10.body))]])) ∧
 (((0 + (List.length (List.map Stored.enc y7.entries))) ≤ (List.length (List.map Stored.enc y7.entries))) ∧
 (((decide ((0 = 0) ∧
 ((List.length (List.map Stored.enc y7.entries)) = (List.length (List.map Stored.enc y7.entries))))) = true) ∧
 (((((List.length ((List.map Stored.enc y7.entries) ++ [[(tI y7.nextUid), (tI y8), (tI c.set), (tI c.at_), (T.sl 2 (List.map Field.enc y10.fields)), (T.sl 1 (List.map byteT y10.body))]])) * 80) ≤ 140737488355328) ∧
 ((List.length ((List.map Stored.enc y7.entries) ++ [[(tI y7.nextUid), (tI y8), (tI c.set), (tI c.at_), (T.sl 2 (List.map Field.enc y10.fields)), (T.sl 1 (List.map byteT y10.body))]])) ≤ 9223372036854775807)) ∧
 ((((0 + (List.length ((List.map Stored.enc y7.entries) ++ [[(tI y7.nextUid), (tI y8), (tI c.set), (tI c.at_), (T.sl 2 (List.map Field.enc y10.fields)), (T.sl 1 (List.map byteT y10.body))]]))) ≤ (List.length ((List.map Stored.enc y7.entries) ++ [[(tI y7.nextUid), (tI y8), (tI c.set), (tI c.at_), (T.sl 2 (List.map Field.enc y10.fields)), (T.sl 1 (List.map byteT y10.body))]]))) ∧
 (((0 + (List.length (List.map GoneE.enc y7.gone))) ≤ (List.length (List.map GoneE.enc y7.gone))) ∧
 True)) ∧
 (Q (out (.tup [(.agg [(.t (tI (IntKind.wrap .i64 (y7.nextUid + 1)))), (.t (tI y9)), (.t (tI y7.horizon)), (.t (T.sl 6 (List.take (List.length ((List.map Stored.enc y7.entries) ++ [[(tI y7.nextUid), (tI y8), (tI c.set), (tI c.at_), (T.sl 2 (List.map Field.enc y10.fields)), (T.sl 1 (List.map byteT y10.body))]])) (List.drop 0 ((List.map Stored.enc y7.entries) ++ [[(tI y7.nextUid), (tI y8), (tI c.set), (tI c.at_), (T.sl 2 (List.map Field.enc y10.fields)), (T.sl 1 (List.map byteT y10.body))]]))))), (.t (T.sl 2 (List.take (List.length (List.map GoneE.enc y7.gone)) (List.drop 0 (List.map GoneE.enc y7.gone)))))]), (.agg [(.t (tI 0)), (.t (tI 0))])])))))))))))))
 (fork (c.kind == 2)
 (((0 : Int) ≤ y6) ∧
 (((Int.toNat y6) < (List.length (List.map Stored.enc y7.entries))) ∧
 (∃ (y8 : Stored), ((((List.map Stored.enc y7.entries))[(0 + (Int.toNat y6))]? = (some [(tI y8.uid), (tI y8.seq), (tI y8.flags), (tI y8.at_), (T.sl 2 (List.map Field.enc y8.msg.fields)), (T.sl 1 (List.map byteT y8.msg.body))])) ∧
 (((0 : Int) ≤ y6) ∧
 (((Int.toNat y6) < (List.length (List.map Stored.enc y7.entries))) ∧
 (∃ (y9 : Stored), ((((List.map Stored.enc y7.entries))[(0 + (Int.toNat y6))]? = (some [(tI y9.uid), (tI y9.seq), (tI y9.flags), (tI y9.at_), (T.sl 2 (List.map Field.enc y9.msg.fields)), (T.sl 1 (List.map byteT y9.msg.body))])) ∧
 (fork (bne (IntKind.wrap .i64 (((BitVec.toNat ((BitVec.ofInt 64 (IntKind.wrap .i64 (((BitVec.toNat ((BitVec.ofInt 64 y8.flags) &&& (~~~(BitVec.ofInt 64 c.clear)))) : Nat) : Int))) ||| (BitVec.ofInt 64 c.set))) : Nat) : Int)) y9.flags)
 (∃ (y10 : Int), (∃ (y11 : Int), (((cl 84 [(.c (.one (.ptr 1000000 5 0)))] [(.box [(.t (tI y7.nextUid)), (.t (tI y7.nextSeq)), (.t (tI y7.horizon)), (.own 1000001 6 0 (List.length (List.map Stored.enc y7.entries)) (List.length (List.map Stored.enc y7.entries))), (.own 1000002 2 0 (List.length (List.map GoneE.enc y7.gone)) (List.length (List.map GoneE.enc y7.gone)))]), (.arr 6 (List.map Stored.enc y7.entries)), (.arr 2 (List.map GoneE.enc y7.gone))]) = (some ((svI y10), ([(.box [none, (some (.t (tI y11))), none, none, none]), .keep, .keep], [])))) ∧
 (((0 : Int) ≤ y6) ∧
 (((Int.toNat y6) < (List.length (List.map Stored.enc y7.entries))) ∧
 (∃ (y12 : Stored), ((((List.map Stored.enc y7.entries))[(0 + (Int.toNat y6))]? = (some [(tI y12.uid), (tI y12.seq), (tI y12.flags), (tI y12.at_), (T.sl 2 (List.map Field.enc y12.msg.fields)), (T.sl 1 (List.map byteT y12.msg.body))])) ∧
 (((0 : Int) ≤ y6) ∧
 (((Int.toNat y6) < (List.length (List.map Stored.enc y7.entries))) ∧
 (∃ (y13 : Stored), ((((List.set (List.map Stored.enc y7.entries) (0 + (Int.toNat y6)) [(tI y12.uid), (tI y12.seq), (tI (IntKind.wrap .i64 (((BitVec.toNat ((BitVec.ofInt 64 (IntKind.wrap .i64 (((BitVec.toNat ((BitVec.ofInt 64 y8.flags) &&& (~~~(BitVec.ofInt 64 c.clear)))) : Nat) : Int))) ||| (BitVec.ofInt 64 c.set))) : Nat) : Int))), (tI y12.at_), (T.sl 2 (List.map Field.enc y12.msg.fields)), (T.sl 1 (List.map byteT y12.msg.body))]))[(0 + (Int.toNat y6))]? = (some [(tI y13.uid), (tI y13.seq), (tI y13.flags), (tI y13.at_), (T.sl 2 (List.map Field.enc y13.msg.fields)), (T.sl 1 (List.map byteT y13.msg.body))])) ∧
 ((((0 + (List.length (List.map Stored.enc y7.entries))) ≤ (List.length (List.set (List.set (List.map Stored.enc y7.entries) (0 + (Int.toNat y6)) [(tI y12.uid), (tI y12.seq), (tI (IntKind.wrap .i64 (((BitVec.toNat ((BitVec.ofInt 64 (IntKind.wrap .i64 (((BitVec.toNat ((BitVec.ofInt 64 y8.flags) &&& (~~~(BitVec.ofInt 64 c.clear)))) : Nat) : Int))) ||| (BitVec.ofInt 64 c.set))) : Nat) : Int))), (tI y12.at_), (T.sl 2 (List.map Field.enc y12.msg.fields)), (T.sl 1 (List.map byteT y12.msg.body))]) (0 + (Int.toNat y6)) [(tI y13.uid), (tI y10), (tI y13.flags), (tI y13.at_), (T.sl 2 (List.map Field.enc y13.msg.fields)), (T.sl 1 (List.map byteT y13.msg.body))]))) ∧
 (((0 + (List.length (List.map GoneE.enc y7.gone))) ≤ (List.length (List.map GoneE.enc y7.gone))) ∧
 True)) ∧
 (Q (out (.tup [(.agg [(.t (tI y7.nextUid)), (.t (tI y11)), (.t (tI y7.horizon)), (.t (T.sl 6 (List.take (List.length (List.map Stored.enc y7.entries)) (List.drop 0 (List.set (List.set (List.map Stored.enc y7.entries) (0 + (Int.toNat y6)) [(tI y12.uid), (tI y12.seq), (tI (IntKind.wrap .i64 (((BitVec.toNat ((BitVec.ofInt 64 (IntKind.wrap .i64 (((BitVec.toNat ((BitVec.ofInt 64 y8.flags) &&& (~~~(BitVec.ofInt 64 c.clear)))) : Nat) : Int))) ||| (BitVec.ofInt 64 c.set))) : Nat) : Int))), (tI y12.at_), (T.sl 2 (List.map Field.enc y12.msg.fields)), (T.sl 1 (List.map byteT y12.msg.body))]) (0 + (Int.toNat y6)) [(tI y13.uid), (tI y10), (tI y13.flags), (tI y13.at_), (T.sl 2 (List.map Field.enc y13.msg.fields)), (T.sl 1 (List.map byteT y13.msg.body))]))))), (.t (T.sl 2 (List.take (List.length (List.map GoneE.enc y7.gone)) (List.drop 0 (List.map GoneE.enc y7.gone)))))]), (.agg [(.t (tI 0)), (.t (tI 0))])])))))))))))))))
 ((((0 + (List.length (List.map Stored.enc y7.entries))) ≤ (List.length (List.map Stored.enc y7.entries))) ∧
 (((0 + (List.length (List.map GoneE.enc y7.gone))) ≤ (List.length (List.map GoneE.enc y7.gone))) ∧
 True)) ∧
 (Q (out (.tup [(.agg [(.t (tI y7.nextUid)), (.t (tI y7.nextSeq)), (.t (tI y7.horizon)), (.t (T.sl 6 (List.take (List.length (List.map Stored.enc y7.entries)) (List.drop 0 (List.map Stored.enc y7.entries))))), (.t (T.sl 2 (List.take (List.length (List.map GoneE.enc y7.gone)) (List.drop 0 (List.map GoneE.enc y7.gone)))))]), (.agg [(.t (tI 0)), (.t (tI 0))])])))))))))))))
 (∃ (y8 : Int), (∃ (y9 : List Stored), (∃ (y10 : List GoneE), ((((cl 86 [(.c (.one (.ptr 1000000 5 0))), (svI y6)] [(.box [(.t (tI y7.nextUid)), (.t (tI y7.nextSeq)), (.t (tI y7.horizon)), (.own 1000001 6 0 (List.length (List.map Stored.enc y7.entries)) (List.length (List.map Stored.enc y7.entries))), (.own 1000002 2 0 (List.length (List.map GoneE.enc y7.gone)) (List.length (List.map GoneE.enc y7.gone)))]), (.arr 6 (List.map Stored.enc y7.entries)), (.arr 2 (List.map GoneE.enc y7.gone))]) = (some ((.tup []), ([(.box [none, (some (.t (tI y8))), none, (some (.own 1000001 6 0 (List.length y9) ((List.length y9) + 1))), (some (.own 2000000 2 0 (List.length (List.map GoneE.enc y10)) (List.length (List.map GoneE.enc y10))))]), (.arr 6 ((List.map Stored.enc y9) ++ [[(tI 0), (tI 0), (tI 0), (tI 0), (T.sl 2 []), (T.sl 1 [])]])), .gone], [(.arr 2 (List.map GoneE.enc y10))])))) ∧
 ((((0 + (List.length y9)) ≤ (List.length ((List.map Stored.enc y9) ++ [[(tI 0), (tI 0), (tI 0), (tI 0), (T.sl 2 []), (T.sl 1 [])]]))) ∧
 (((0 + (List.length (List.map GoneE.enc y10))) ≤ (List.length (List.map GoneE.enc y10))) ∧
 True)) ∧
 (Q (out (.tup [(.agg [(.t (tI y7.nextUid)), (.t (tI y8)), (.t (tI y7.horizon)), (.t (T.sl 6 (List.take (List.length y9) (List.drop 0 ((List.map Stored.enc y9) ++ [[(tI 0), (tI 0), (tI 0), (tI 0), (T.sl 2 []), (T.sl 1 [])]]))))), (.t (T.sl 2 (List.take (List.length (List.map GoneE.enc y10)) (List.drop 0 (List.map GoneE.enc y10)))))]), (.agg [(.t (tI 0)), (.t (tI 0))])]))))) ∨
 (∃ (y11 : Int), (((cl 86 [(.c (.one (.ptr 1000000 5 0))), (svI y6)] [(.box [(.t (tI y7.nextUid)), (.t (tI y7.nextSeq)), (.t (tI y7.horizon)), (.own 1000001 6 0 (List.length (List.map Stored.enc y7.entries)) (List.length (List.map Stored.enc y7.entries))), (.own 1000002 2 0 (List.length (List.map GoneE.enc y7.gone)) (List.length (List.map GoneE.enc y7.gone)))]), (.arr 6 (List.map Stored.enc y7.entries)), (.arr 2 (List.map GoneE.enc y7.gone))]) = (some ((.tup []), ([(.box [none, (some (.t (tI y8))), (some (.t (tI y11))), (some (.own 1000001 6 0 (List.length y9) ((List.length y9) + 1))), (some (.own 2000000 2 0 (List.length y10) ((List.length y10) + 1)))]), (.arr 6 ((List.map Stored.enc y9) ++ [[(tI 0), (tI 0), (tI 0), (tI 0), (T.sl 2 []), (T.sl 1 [])]])), .gone], [(.arr 2 ((List.map GoneE.enc y10) ++ [[(tI 0), (tI 0)]]))])))) ∧
 ((((0 + (List.length y9)) ≤ (List.length ((List.map Stored.enc y9) ++ [[(tI 0), (tI 0), (tI 0), (tI 0), (T.sl 2 []), (T.sl 1 [])]]))) ∧
 (((0 + (List.length y10)) ≤ (List.length ((List.map GoneE.enc y10) ++ [[(tI 0), (tI 0)]]))) ∧
 True)) ∧
 (Q (out (.tup [(.agg [(.t (tI y7.nextUid)), (.t (tI y8)), (.t (tI y11)), (.t (T.sl 6 (List.take (List.length y9) (List.drop 0 ((List.map Stored.enc y9) ++ [[(tI 0), (tI 0), (tI 0), (tI 0), (T.sl 2 []), (T.sl 1 [])]]))))), (.t (T.sl 2 (List.take (List.length y10) (List.drop 0 ((List.map GoneE.enc y10) ++ [[(tI 0), (tI 0)]])))))]), (.agg [(.t (tI 0)), (.t (tI 0))])])))))))))))))))))))
 (∃ (y6 : Int), (((cl 83 [(.c (.agg [(.t (tI m.nextUid)), (.t (tI m.nextSeq)), (.t (tI m.horizon)), (.t (T.sl 6 (List.map Stored.enc m.entries))), (.t (T.sl 2 (List.map GoneE.enc m.gone)))])), (svI c.uid)] []) = (some (out (svI y6)))) ∧
 (fork (m.nextSeq == 1000000)
 (True ∧
 (Q (out (.tup [(.agg [(.t (tI 0)), (.t (tI 0)), (.t (tI 0)), (.t (T.sl 6 [])), (.t (T.sl 2 []))]), (.agg [(.t (tI 1)), (.t (tI (-3)))])]))))
 (fork (decide (y6 < 0))
 (True ∧
 (Q (out (.tup [(.agg [(.t (tI 0)), (.t (tI 0)), (.t (tI 0)), (.t (T.sl 6 [])), (.t (T.sl 2 []))]), (.agg [(.t (tI 6)), (.t (tI (-9)))])]))))
 (∃ (y7 : Box), (((cl 71 [(.c (.agg [(.t (tI m.nextUid)), (.t (tI m.nextSeq)), (.t (tI m.horizon)), (.t (T.sl 6 (List.map Stored.enc m.entries))), (.t (T.sl 2 (List.map GoneE.enc m.gone)))]))] []) = (some ((.c (.agg [(.t (tI y7.nextUid)), (.t (tI y7.nextSeq)), (.t (tI y7.horizon)), (.own 2000000 6 0 (List.length (List.map Stored.enc y7.entries)) (List.length (List.map Stored.enc y7.entries))), (.own 2000001 2 0 (List.length (List.map GoneE.enc y7.gone)) (List.length (List.map GoneE.enc y7.gone)))])), ([], [(.arr 6 (List.map Stored.enc y7.entries)), (.arr 2 (List.map GoneE.enc y7.gone))])))) ∧
 (fork (c.kind == 1)
 (∃ (y8 : Int), (∃ (y9 : Int), (((cl 84 [(.c (.one (.ptr 1000000 5 0)))] [(.box [(.t (tI y7.nextUid)), (.t (tI y7.nextSeq)), (.t (tI y7.horizon)), (.own 1000001 6 0 (List.length (List.map Stored.enc y7.entries)) (List.length (List.map Stored.enc y7.entries))), (.own 1000002 2 0 (List.length (List.map GoneE.enc y7.gone)) (List.length (List.map GoneE.enc y7.gone)))]), (.arr 6 (List.map Stored.enc y7.entries)), (.arr 2 (List.map GoneE.enc y7.gone))]) = (some ((svI y8), ([(.box [none, (some (.t (tI y9))), none, none, none]), .keep, .keep], [])))) ∧
 (∃ (y10 : Msg), (((cl 85 [(.c (.agg [(.t (T.sl 2 (List.map Field.enc c.msg.fields))), (.t (T.sl 1 (List.map byteT c.msg.body)))]))] []) = (some (out (.c (.agg [(.t (T.sl 2 (List.map Field.enc y10.fields))), (.t (T.sl 1 (List.map byteT y10.body)))]))))) ∧
 ((1 ≤ (List.length [[(tI y7.nextUid), (tI y8), (tI c.set), (tI c.at_), (T.sl 2 (List.map Field.enc y10.fields)), (T.sl 1 (List.map byteT y10.body))]])) ∧
 (((0 + (List.length (List.map Stored.enc y7.entries))) ≤ (List.length (List.map Stored.enc y7.entries))) ∧
 (((decide ((0 = 0) ∧
 ((List.length (List.map Stored.enc y7.entries)) = (List.length (List.map Stored.enc y7.entries))))) = true) ∧
 (((((List.length ((List.map Stored.enc y7.entries) ++ [[(tI y7.nextUid), (tI y8), (tI c.set), (tI c.at_), (T.sl 2 (List.map Field.enc y10.fields)), (T.sl 1 (List.map byteT y10.body))]])) * 80) ≤ 140737488355328) ∧
 ((List.length ((List.map Stored.enc y7.entries) ++ [[(tI y7.nextUid), (tI y8), (tI c.set), (tI c.at_), (T.sl 2 (List.map Field.enc y10.fields)), (T.sl 1 (List.map byteT y10.body))]])) ≤ 9223372036854775807)) ∧
 ((((0 + (List.length ((List.map Stored.enc y7.entries) ++ [[(tI y7.nextUid), (tI y8), (tI c.set), (tI c.at_), (T.sl 2 (List.map Field.enc y10.fields)), (T.sl 1 (List.map byteT y10.body))]]))) ≤ (List.length ((List.map Stored.enc y7.entries) ++ [[(tI y7.nextUid), (tI y8), (tI c.set), (tI c.at_), (T.sl 2 (List.map Field.enc y10.fields)), (T.sl 1 (List.map byteT y10.body))]]))) ∧
 (((0 + (List.length (List.map GoneE.enc y7.gone))) ≤ (List.length (List.map GoneE.enc y7.gone))) ∧
 True)) ∧
 (Q (out (.tup [(.agg [(.t (tI (IntKind.wrap .i64 (y7.nextUid + 1)))), (.t (tI y9)), (.t (tI y7.horizon)), (.t (T.sl 6 (List.take (List.length ((List.map Stored.enc y7.entries) ++ [[(tI y7.nextUid), (tI y8), (tI c.set), (tI c.at_), (T.sl 2 (List.map Field.enc y10.fields)), (T.sl 1 (List.map byteT y10.body))]])) (List.drop 0 ((List.map Stored.enc y7.entries) ++ [[(tI y7.nextUid), (tI y8), (tI c.set), (tI c.at_), (T.sl 2 (List.map Field.enc y10.fields)), (T.sl 1 (List.map byteT y10.body))]]))))), (.t (T.sl 2 (List.take (List.length (List.map GoneE.enc y7.gone)) (List.drop 0 (List.map GoneE.enc y7.gone)))))]), (.agg [(.t (tI 0)), (.t (tI 0))])])))))))))))))
 (fork (c.kind == 2)
 (((0 : Int) ≤ y6) ∧
 (((Int.toNat y6) < (List.length (List.map Stored.enc y7.entries))) ∧
 (∃ (y8 : Stored), ((((List.map Stored.enc y7.entries))[(0 + (Int.toNat y6))]? = (some [(tI y8.uid), (tI y8.seq), (tI y8.flags), (tI y8.at_), (T.sl 2 (List.map Field.enc y8.msg.fields)), (T.sl 1 (List.map byteT y8.msg.body))])) ∧
 (((0 : Int) ≤ y6) ∧
 (((Int.toNat y6) < (List.length (List.map Stored.enc y7.entries))) ∧
 (∃ (y9 : Stored), ((((List.map Stored.enc y7.entries))[(0 + (Int.toNat y6))]? = (some [(tI y9.uid), (tI y9.seq), (tI y9.flags), (tI y9.at_), (T.sl 2 (List.map Field.enc y9.msg.fields)), (T.sl 1 (List.map byteT y9.msg.body))])) ∧
 (fork (bne (IntKind.wrap .i64 (((BitVec.toNat ((BitVec.ofInt 64 (IntKind.wrap .i64 (((BitVec.toNat ((BitVec.ofInt 64 y8.flags) &&& (~~~(BitVec.ofInt 64 c.clear)))) : Nat) : Int))) ||| (BitVec.ofInt 64 c.set))) : Nat) : Int)) y9.flags)
 (∃ (y10 : Int), (∃ (y11 : Int), (((cl 84 [(.c (.one (.ptr 1000000 5 0)))] [(.box [(.t (tI y7.nextUid)), (.t (tI y7.nextSeq)), (.t (tI y7.horizon)), (.own 1000001 6 0 (List.length (List.map Stored.enc y7.entries)) (List.length (List.map Stored.enc y7.entries))), (.own 1000002 2 0 (List.length (List.map GoneE.enc y7.gone)) (List.length (List.map GoneE.enc y7.gone)))]), (.arr 6 (List.map Stored.enc y7.entries)), (.arr 2 (List.map GoneE.enc y7.gone))]) = (some ((svI y10), ([(.box [none, (some (.t (tI y11))), none, none, none]), .keep, .keep], [])))) ∧
 (((0 : Int) ≤ y6) ∧
 (((Int.toNat y6) < (List.length (List.map Stored.enc y7.entries))) ∧
 (∃ (y12 : Stored), ((((List.map Stored.enc y7.entries))[(0 + (Int.toNat y6))]? = (some [(tI y12.uid), (tI y12.seq), (tI y12.flags), (tI y12.at_), (T.sl 2 (List.map Field.enc y12.msg.fields)), (T.sl 1 (List.map byteT y12.msg.body))])) ∧
 (((0 : Int) ≤ y6) ∧
 (((Int.toNat y6) < (List.length (List.map Stored.enc y7.entries))) ∧
 (∃ (y13 : Stored), ((((List.set (List.map Stored.enc y7.entries) (0 + (Int.toNat y6)) [(tI y12.uid), (tI y12.seq), (tI (IntKind.wrap .i64 (((BitVec.toNat ((BitVec.ofInt 64 (IntKind.wrap .i64 (((BitVec.toNat ((BitVec.ofInt 64 y8.flags) &&& (~~~(BitVec.ofInt 64 c.clear)))) : Nat) : Int))) ||| (BitVec.ofInt 64 c.set))) : Nat) : Int))), (tI y12.at_), (T.sl 2 (List.map Field.enc y12.msg.fields)), (T.sl 1 (List.map byteT y12.msg.body))]))[(0 + (Int.toNat y6))]? = (some [(tI y13.uid), (tI y13.seq), (tI y13.flags), (tI y13.at_), (T.sl 2 (List.map Field.enc y13.msg.fields)), (T.sl 1 (List.map byteT y13.msg.body))])) ∧
 ((((0 + (List.length (List.map Stored.enc y7.entries))) ≤ (List.length (List.set (List.set (List.map Stored.enc y7.entries) (0 + (Int.toNat y6)) [(tI y12.uid), (tI y12.seq), (tI (IntKind.wrap .i64 (((BitVec.toNat ((BitVec.ofInt 64 (IntKind.wrap .i64 (((BitVec.toNat ((BitVec.ofInt 64 y8.flags) &&& (~~~(BitVec.ofInt 64 c.clear)))) : Nat) : Int))) ||| (BitVec.ofInt 64 c.set))) : Nat) : Int))), (tI y12.at_), (T.sl 2 (List.map Field.enc y12.msg.fields)), (T.sl 1 (List.map byteT y12.msg.body))]) (0 + (Int.toNat y6)) [(tI y13.uid), (tI y10), (tI y13.flags), (tI y13.at_), (T.sl 2 (List.map Field.enc y13.msg.fields)), (T.sl 1 (List.map byteT y13.msg.body))]))) ∧
 (((0 + (List.length (List.map GoneE.enc y7.gone))) ≤ (List.length (List.map GoneE.enc y7.gone))) ∧
 True)) ∧
 (Q (out (.tup [(.agg [(.t (tI y7.nextUid)), (.t (tI y11)), (.t (tI y7.horizon)), (.t (T.sl 6 (List.take (List.length (List.map Stored.enc y7.entries)) (List.drop 0 (List.set (List.set (List.map Stored.enc y7.entries) (0 + (Int.toNat y6)) [(tI y12.uid), (tI y12.seq), (tI (IntKind.wrap .i64 (((BitVec.toNat ((BitVec.ofInt 64 (IntKind.wrap .i64 (((BitVec.toNat ((BitVec.ofInt 64 y8.flags) &&& (~~~(BitVec.ofInt 64 c.clear)))) : Nat) : Int))) ||| (BitVec.ofInt 64 c.set))) : Nat) : Int))), (tI y12.at_), (T.sl 2 (List.map Field.enc y12.msg.fields)), (T.sl 1 (List.map byteT y12.msg.body))]) (0 + (Int.toNat y6)) [(tI y13.uid), (tI y10), (tI y13.flags), (tI y13.at_), (T.sl 2 (List.map Field.enc y13.msg.fields)), (T.sl 1 (List.map byteT y13.msg.body))]))))), (.t (T.sl 2 (List.take (List.length (List.map GoneE.enc y7.gone)) (List.drop 0 (List.map GoneE.enc y7.gone)))))]), (.agg [(.t (tI 0)), (.t (tI 0))])])))))))))))))))
 ((((0 + (List.length (List.map Stored.enc y7.entries))) ≤ (List.length (List.map Stored.enc y7.entries))) ∧
 (((0 + (List.length (List.map GoneE.enc y7.gone))) ≤ (List.length (List.map GoneE.enc y7.gone))) ∧
 True)) ∧
 (Q (out (.tup [(.agg [(.t (tI y7.nextUid)), (.t (tI y7.nextSeq)), (.t (tI y7.horizon)), (.t (T.sl 6 (List.take (List.length (List.map Stored.enc y7.entries)) (List.drop 0 (List.map Stored.enc y7.entries))))), (.t (T.sl 2 (List.take (List.length (List.map GoneE.enc y7.gone)) (List.drop 0 (List.map GoneE.enc y7.gone)))))]), (.agg [(.t (tI 0)), (.t (tI 0))])])))))))))))))
 (∃ (y8 : Int), (∃ (y9 : List Stored), (∃ (y10 : List GoneE), ((((cl 86 [(.c (.one (.ptr 1000000 5 0))), (svI y6)] [(.box [(.t (tI y7.nextUid)), (.t (tI y7.nextSeq)), (.t (tI y7.horizon)), (.own 1000001 6 0 (List.length (List.map Stored.enc y7.entries)) (List.length (List.map Stored.enc y7.entries))), (.own 1000002 2 0 (List.length (List.map GoneE.enc y7.gone)) (List.length (List.map GoneE.enc y7.gone)))]), (.arr 6 (List.map Stored.enc y7.entries)), (.arr 2 (List.map GoneE.enc y7.gone))]) = (some ((.tup []), ([(.box [none, (some (.t (tI y8))), none, (some (.own 1000001 6 0 (List.length y9) ((List.length y9) + 1))), (some (.own 2000000 2 0 (List.length (List.map GoneE.enc y10)) (List.length (List.map GoneE.enc y10))))]), (.arr 6 ((List.map Stored.enc y9) ++ [[(tI 0), (tI 0), (tI 0), (tI 0), (T.sl 2 []), (T.sl 1 [])]])), .gone], [(.arr 2 (List.map GoneE.enc y10))])))) ∧
 ((((0 + (List.length y9)) ≤ (List.length ((List.map Stored.enc y9) ++ [[(tI 0), (tI 0), (tI 0), (tI 0), (T.sl 2 []), (T.sl 1 [])]]))) ∧
 (((0 + (List.length (List.map GoneE.enc y10))) ≤ (List.length (List.map GoneE.enc y10))) ∧
 True)) ∧
 (Q (out (.tup [(.agg [(.t (tI y7.nextUid)), (.t (tI y8)), (.t (tI y7.horizon)), (.t (T.sl 6 (List.take (List.length y9) (List.drop 0 ((List.map Stored.enc y9) ++ [[(tI 0), (tI 0), (tI 0), (tI 0), (T.sl 2 []), (T.sl 1 [])]]))))), (.t (T.sl 2 (List.take (List.length (List.map GoneE.enc y10)) (List.drop 0 (List.map GoneE.enc y10)))))]), (.agg [(.t (tI 0)), (.t (tI 0))])]))))) ∨
 (∃ (y11 : Int), (((cl 86 [(.c (.one (.ptr 1000000 5 0))), (svI y6)] [(.box [(.t (tI y7.nextUid)), (.t (tI y7.nextSeq)), (.t (tI y7.horizon)), (.own 1000001 6 0 (List.length (List.map Stored.enc y7.entries)) (List.length (List.map Stored.enc y7.entries))), (.own 1000002 2 0 (List.length (List.map GoneE.enc y7.gone)) (List.length (List.map GoneE.enc y7.gone)))]), (.arr 6 (List.map Stored.enc y7.entries)), (.arr 2 (List.map GoneE.enc y7.gone))]) = (some ((.tup []), ([(.box [none, (some (.t (tI y8))), (some (.t (tI y11))), (some (.own 1000001 6 0 (List.length y9) ((List.length y9) + 1))), (some (.own 2000000 2 0 (List.length y10) ((List.length y10) + 1)))]), (.arr 6 ((List.map Stored.enc y9) ++ [[(tI 0), (tI 0), (tI 0), (tI 0), (T.sl 2 []), (T.sl 1 [])]])), .gone], [(.arr 2 ((List.map GoneE.enc y10) ++ [[(tI 0), (tI 0)]]))])))) ∧
 ((((0 + (List.length y9)) ≤ (List.length ((List.map Stored.enc y9) ++ [[(tI 0), (tI 0), (tI 0), (tI 0), (T.sl 2 []), (T.sl 1 [])]]))) ∧
 (((0 + (List.length y10)) ≤ (List.length ((List.map GoneE.enc y10) ++ [[(tI 0), (tI 0)]]))) ∧
 True)) ∧
 (Q (out (.tup [(.agg [(.t (tI y7.nextUid)), (.t (tI y8)), (.t (tI y11)), (.t (T.sl 6 (List.take (List.length y9) (List.drop 0 ((List.map Stored.enc y9) ++ [[(tI 0), (tI 0), (tI 0), (tI 0), (T.sl 2 []), (T.sl 1 [])]]))))), (.t (T.sl 2 (List.take (List.length y10) (List.drop 0 ((List.map GoneE.enc y10) ++ [[(tI 0), (tI 0)]])))))]), (.agg [(.t (tI 0)), (.t (tI 0))])])))))))))))))))))))))) := by kernel_rfl

end Go.Ev

namespace Go.Ev
open Go.Proofs.Ytbempckmbfbjgaa.Code
set_option maxRecDepth 100000
section
variable {n d : Nat} {cl : CallFn}
def goneTo (gs : List GoneE) (u s : Int) : List GoneE := if gs.length + 1 > 400 then (gs ++ [(⟨u, s⟩ : GoneE)]).eraseIdx 0 else gs ++ [(⟨u, s⟩ : GoneE)]
def horizonTo (gs : List GoneE) (u s h : Int) : Int := if gs.length + 1 > 400 then (match (gs ++ [(⟨u, s⟩ : GoneE)])[0]? with | some g => g.seq | none => h) else h
theorem k86 (a s h : Int) (es : List Stored) (gs : List GoneE) (i : Nat) (e : Stored) (he : es[i]? = some e) (h1 : -1000000000000 ≤ s) (h2 : s ≤ 1000000000000) (hes : es.length ≤ 1000000000) (hgs : gs.length ≤ 1000000000) (hd : 2 ≤ d) :
    cz n (d + 2) 86 [.c (.one (.ptr 1000000 5 0)), svI i] [.box [.t (tI a), .t (tI s), .t (tI h), .own 1000001 6 0 (es.map Stored.enc).length (es.map Stored.enc).length, .own 1000002 2 0 (gs.map GoneE.enc).length (gs.map GoneE.enc).length], .arr 6 (es.map Stored.enc), .arr 2 (gs.map GoneE.enc)] =
    some (if gs.length + 1 > 400 then (.tup [], [.box [none, some (.t (tI (s + 1))), some (.t (tI (horizonTo gs e.uid s h))), some (.own 1000001 6 0 (es.eraseIdx i).length ((es.eraseIdx i).length + 1)), some (.own 2000000 2 0 (goneTo gs e.uid s).length ((goneTo gs e.uid s).length + 1))], .arr 6 ((es.eraseIdx i).map Stored.enc ++ [zS]), .gone], [.arr 2 ((goneTo gs e.uid s).map GoneE.enc ++ [[tI 0, tI 0]])])
      else (.tup [], [.box [none, some (.t (tI (s + 1))), none, some (.own 1000001 6 0 (es.eraseIdx i).length ((es.eraseIdx i).length + 1)), some (.own 2000000 2 0 ((goneTo gs e.uid s).map GoneE.enc).length ((goneTo gs e.uid s).map GoneE.enc).length)], .arr 6 ((es.eraseIdx i).map Stored.enc ++ [zS]), .gone], [.arr 2 ((goneTo gs e.uid s).map GoneE.enc)])) := by
  have hi : i < es.length := (List.getElem?_eq_some_iff.1 he).1
  refine run h86 false tab86 rfl ?_
  have e1 : (List.map GoneE.enc gs) ++ [[(tI e.uid), (tI s)]] = List.map GoneE.enc (gs ++ [(⟨e.uid, s⟩ : GoneE)]) := by simp
  have hL : (List.map GoneE.enc (gs ++ [(⟨e.uid, s⟩ : GoneE)])).length = gs.length + 1 := by simp
  have c84 := deep (d' := d + 1) (d := 2) (by omega) (k84 (n := n) (d := 0) a s h (es.map Stored.enc) (gs.map GoneE.enc) (es.map Stored.enc).length (es.map Stored.enc).length (gs.map GoneE.enc).length (gs.map GoneE.enc).length h1 h2)
  have c105 := deep (d' := d + 1) (d := 2) (by omega) (k105 (n := n) (d := 0) es i hi (by omega))
  have c106 := deep (d' := d + 1) (d := 2) (by omega) (k106 (n := n) (d := 0) (gs ++ [(⟨e.uid, s⟩ : GoneE)]) (by simp) (by simp; omega))
  rw [w86, wrap1 (by omega)]
  refine ⟨by omega, by rw [List.length_map]; exact hi, e, by rw [Nat.zero_add]; exact mget he, s, s + 1, c84, ?_⟩
  rw [e1, hL]
  refine ⟨by simp, zle, dtrue, ⟨by omega, by omega⟩, es.eraseIdx i, c105, fork_dec.2 ⟨fun h4 => ?_, fun h4 => ?_⟩⟩
  · have h4' : gs.length + 1 > 400 := by omega
    rw [if_pos h4']
    obtain ⟨g0, hg0⟩ : ∃ g0, (gs ++ [(⟨e.uid, s⟩ : GoneE)])[0]? = some g0 := ⟨_, List.getElem?_eq_getElem (by simp)⟩
    rw [hL] at c106
    refine ⟨by omega, by omega, g0, mget hg0, (gs ++ [(⟨e.uid, s⟩ : GoneE)]).eraseIdx 0, c106, ?_⟩
    simp only [goneTo, horizonTo, if_pos h4', hg0]
    rfl
  · have h4' : ¬ gs.length + 1 > 400 := by omega
    rw [if_neg h4']
    simp only [goneTo, if_neg h4', hL]
    rfl

def flagsI (old set clear : Int) : Int := IntKind.wrap .i64 (((BitVec.toNat ((BitVec.ofInt 64 (IntKind.wrap .i64 (((BitVec.toNat ((BitVec.ofInt 64 old) &&& (~~~(BitVec.ofInt 64 clear)))) : Nat) : Int))) ||| (BitVec.ofInt 64 set))) : Nat) : Int)
def zeroBox : Box := ⟨0, 0, 0, [], []⟩
def added (m : Box) (c : Change) : Box := ⟨m.nextUid + 1, m.nextSeq + 1, m.horizon, m.entries ++ [⟨m.nextUid, m.nextSeq, c.set, c.at_, c.msg⟩], m.gone⟩
def flagged (m : Box) (c : Change) (i : Nat) (e : Stored) : Box :=
  if flagsI e.flags c.set c.clear != e.flags then ⟨m.nextUid, m.nextSeq + 1, m.horizon, m.entries.set i ⟨e.uid, m.nextSeq, flagsI e.flags c.set c.clear, e.at_, e.msg⟩, m.gone⟩ else m
def removedBox (m : Box) (i : Nat) (e : Stored) : Box := ⟨m.nextUid, m.nextSeq + 1, horizonTo m.gone e.uid m.nextSeq m.horizon, m.entries.eraseIdx i, goneTo m.gone e.uid m.nextSeq⟩
/-- what apply makes of a mailbox -/
def applyS (m : Box) (c : Change) : Box × Fault :=
  if (changeFault c).code != 0 then (zeroBox, changeFault c) else
  if m.nextSeq == 1000000 then (zeroBox, ⟨1, -3⟩) else
  if c.kind == 1 then
    if m.nextUid == 1000000 then (zeroBox, ⟨1, -3⟩) else
    if m.entries.length == 200 then (zeroBox, ⟨2, -1⟩) else (added m c, ⟨0, 0⟩)
  else if findS m c.uid < 0 then (zeroBox, ⟨6, -9⟩) else
    match m.entries[(findS m c.uid).toNat]? with
    | none => (zeroBox, ⟨0, 0⟩)
    | some e => if c.kind == 2 then (flagged m c (findS m c.uid).toNat e, ⟨0, 0⟩) else (removedBox m (findS m c.uid).toNat e, ⟨0, 0⟩)
theorem idxL_lt {α : Type} {p : α → Bool} : ∀ {l : List α} {i : Nat}, 0 ≤ idxL p l i → idxL p l i < (i + l.length : Nat) ∧ ∃ e, l[(idxL p l i).toNat - i]? = some e ∧ p e = true ∧ i ≤ (idxL p l i).toNat
  | [], i, h => by simp only [idxL] at h; omega
  | x :: l, i, h => by
    by_cases hp : p x = true
    · have e0 : idxL p (x :: l) i = (i : Nat) := by simp only [idxL, if_pos hp]
      rw [e0]
      refine ⟨by simp; omega, x, by simp, hp, by simp⟩
    · have e0 : idxL p (x :: l) i = idxL p l (i + 1) := by simp only [idxL, if_neg hp]
      rw [e0] at h ⊢
      obtain ⟨h1, e, h2, h3, h4⟩ := idxL_lt (l := l) (i := i + 1) h
      refine ⟨by simp only [List.length_cons]; omega, e, ?_, h3, by omega⟩
      have : (idxL p l (i + 1)).toNat - i = ((idxL p l (i + 1)).toNat - (i + 1)) + 1 := by omega
      rw [this, List.getElem?_cons_succ]
      exact h2
theorem findS_lt {m : Box} {u : Int} (h : 0 ≤ findS m u) : ∃ e, m.entries[(findS m u).toNat]? = some e ∧ (e.uid == u) = true := by
  obtain ⟨_, e, h2, h3, _⟩ := idxL_lt h
  exact ⟨e, by rw [Nat.sub_zero] at h2; exact h2, h3⟩
theorem take_append_len {α : Type} (l : List α) (z : List α) (k : Nat) (h : k = l.length) : (List.take k (List.drop 0 (l ++ z))) = l := by subst h; rw [List.drop_zero, List.take_left]
theorem k55 (m : Box) (c : Change) (hs : m.small) (hc : c.msg.sz ≤ 1000000000) (hu : -1000000000000 ≤ m.nextUid ∧ m.nextUid ≤ 1000000000000) (hq : -1000000000000 ≤ m.nextSeq ∧ m.nextSeq ≤ 1000000000000) (hd : 11 ≤ d) (hn : 1000000000000 ≤ n) :
    cz n (d + 2) 55 [m.sv, c.sv] [] = some (out (.tup [(applyS m c).1.cv, (applyS m c).2.cv])) := by
  have hes := hs.e
  have hgs := hs.g
  refine run h55 true tab55 rfl ?_
  have c82 := deep (d' := d + 1) (d := 11) (by omega) (k82 (n := n) (d := 9) c hc (by omega) hn)
  have c83 := deep (d' := d + 1) (d := 6) (by omega) (k83 (n := n) (d := 4) m c.uid (by omega) (by omega) (by omega))
  have c71 := deep (d' := d + 1) (d := 4) (by omega) (k71 (n := n) (d := 2) m hs hn (by omega))
  have c84 := deep (d' := d + 1) (d := 2) (by omega) (k84 (n := n) (d := 0) m.nextUid m.nextSeq m.horizon (m.entries.map Stored.enc) (m.gone.map GoneE.enc) (m.entries.map Stored.enc).length (m.entries.map Stored.enc).length (m.gone.map GoneE.enc).length (m.gone.map GoneE.enc).length hq.1 hq.2)
  have c85 := deep (d' := d + 1) (d := 2) (by omega) (k85 (n := n) (d := 0) c.msg (by omega))
  have hLe : (List.map Stored.enc m.entries).length = m.entries.length := List.length_map ..
  have hLg : (List.map GoneE.enc m.gone).length = m.gone.length := List.length_map ..
  have e1 : (List.map Stored.enc m.entries) ++ [[(tI m.nextUid), (tI m.nextSeq), (tI c.set), (tI c.at_), (T.sl 2 (List.map Field.enc c.msg.fields)), (T.sl 1 (List.map byteT c.msg.body))]] = List.map Stored.enc (m.entries ++ [⟨m.nextUid, m.nextSeq, c.set, c.at_, c.msg⟩]) := by simp
  have e2 : ∀ {α : Type} (l : List α), List.take l.length (List.drop 0 l) = l := fun l => by rw [List.drop_zero, List.take_length]
  rw [w55]
  refine ⟨changeFault c, c82, fork_iff.2 ⟨fun a1 => ⟨trivial, ?_⟩, fun a1 => fork_iff.2 ⟨fun a2 => ⟨_, c83, fork_iff.2 ⟨fun a3 => ⟨trivial, ?_⟩, fun a3 => fork_iff.2 ⟨fun a4 => ⟨trivial, ?_⟩, fun a4 => fork_iff.2 ⟨fun a5 => ⟨trivial, ?_⟩, fun a5 => ⟨m, c71, fork_iff.2 ⟨fun _ => ⟨m.nextSeq, m.nextSeq + 1, c84, c.msg, c85, by simp, zle, dtrue, ?_⟩, fun a6 => tf _ a2 a6⟩⟩⟩⟩⟩⟩, fun a2 => ⟨_, c83, fork_iff.2 ⟨fun a3 => ⟨trivial, ?_⟩, fun a3 => fork_dec.2 ⟨fun a4 => ⟨trivial, ?_⟩, fun a4 => ⟨m, c71, fork_iff.2 ⟨fun a6 => tf _ a6 a2, fun _ => fork_iff.2 ⟨fun a5 => ?_, fun a5 => ?_⟩⟩⟩⟩⟩⟩⟩⟩⟩
  · have hA : applyS m c = (zeroBox, changeFault c) := by simp only [applyS, a1, if_true]
    rw [hA]; rfl
  · have hA : applyS m c = (zeroBox, ⟨1, -3⟩) := by simp only [applyS, a1, a3, Bool.false_eq_true, if_false, if_true]
    rw [hA]; rfl
  · have hA : applyS m c = (zeroBox, ⟨1, -3⟩) := by simp only [applyS, a1, a2, a3, a4, Bool.false_eq_true, if_false, if_true]
    rw [hA]; rfl
  · have a5' : (m.entries.length == 200) = true := by rw [beq_iff_eq] at a5 ⊢; omega
    have hA : applyS m c = (zeroBox, ⟨2, -1⟩) := by simp only [applyS, a1, a2, a3, a4, a5', Bool.false_eq_true, if_false, if_true]
    rw [hA]; rfl
  · have a5' : (m.entries.length == 200) = false := by rw [beq_eq_false_iff_ne] at a5 ⊢; omega
    have hl1 : (m.entries ++ [(⟨m.nextUid, m.nextSeq, c.set, c.at_, c.msg⟩ : Stored)]).length = m.entries.length + 1 := by simp
    rw [e1, wrapI (x := m.nextUid + 1) (by omega) (by omega), e2, e2]
    refine ⟨⟨by rw [List.length_map, hl1]; omega, by rw [List.length_map, hl1]; omega⟩, ⟨zle, zle, trivial⟩, ?_⟩
    have hA : applyS m c = (added m c, ⟨0, 0⟩) := by simp only [applyS, a1, a2, a3, a4, a5', Bool.false_eq_true, if_false, if_true]
    rw [hA]; rfl
  · have hA : applyS m c = (zeroBox, ⟨1, -3⟩) := by simp only [applyS, a1, a3, Bool.false_eq_true, if_false, if_true]
    rw [hA]; rfl
  · have a4' : findS m c.uid < 0 := a4
    have hA : applyS m c = (zeroBox, ⟨6, -9⟩) := by simp only [applyS, a1, a2, a3, a4', Bool.false_eq_true, if_false, if_true]
    rw [hA]; rfl
  · have a4' : ¬ findS m c.uid < 0 := a4
    obtain ⟨e, he, _⟩ := findS_lt (m := m) (u := c.uid) (by omega)
    have hi : (findS m c.uid).toNat < m.entries.length := (List.getElem?_eq_some_iff.1 he).1
    have hg : (List.map Stored.enc m.entries)[0 + (findS m c.uid).toNat]? = some e.enc := by rw [Nat.zero_add]; exact mget he
    refine ⟨by omega, by omega, e, hg, by omega, by omega, e, hg, fork_iff.2 ⟨fun a6 => ⟨m.nextSeq, m.nextSeq + 1, c84, by omega, by omega, e, hg, by omega, by omega, ⟨e.uid, e.seq, flagsI e.flags c.set c.clear, e.at_, e.msg⟩, ?_, ⟨by rw [List.length_set, List.length_set]; omega, zle, trivial⟩, ?_⟩, fun a6 => ⟨⟨zle, zle, trivial⟩, ?_⟩⟩⟩
    · rw [List.getElem?_set, if_pos rfl, if_pos (by omega)]
      rfl
    · have hf : flagsI e.flags c.set c.clear != e.flags := a6
      rw [e2]
      have e3 : List.take (List.map Stored.enc m.entries).length (List.drop 0 (List.set (List.set (List.map Stored.enc m.entries) (0 + (findS m c.uid).toNat) [tI e.uid, tI e.seq, tI (flagsI e.flags c.set c.clear), tI e.at_, T.sl 2 (List.map Field.enc e.msg.fields), T.sl 1 (List.map byteT e.msg.body)]) (0 + (findS m c.uid).toNat) [tI e.uid, tI m.nextSeq, tI (flagsI e.flags c.set c.clear), tI e.at_, T.sl 2 (List.map Field.enc e.msg.fields), T.sl 1 (List.map byteT e.msg.body)])) = List.map Stored.enc (m.entries.set (findS m c.uid).toNat ⟨e.uid, m.nextSeq, flagsI e.flags c.set c.clear, e.at_, e.msg⟩) := by
        rw [List.drop_zero, List.take_of_length_le (by rw [List.length_set, List.length_set]; exact Nat.le_refl _), List.set_set, Nat.zero_add, List.map_set]
      have hA : applyS m c = (⟨m.nextUid, m.nextSeq + 1, m.horizon, m.entries.set (findS m c.uid).toNat ⟨e.uid, m.nextSeq, flagsI e.flags c.set c.clear, e.at_, e.msg⟩, m.gone⟩, ⟨0, 0⟩) := by simp only [applyS, a1, a2, a3, a4', a5, he, Bool.false_eq_true, if_false, if_true, flagged, hf]
      rw [hA]
      exact congrArg (fun x => out (.tup [.agg [.t (tI m.nextUid), .t (tI (m.nextSeq + 1)), .t (tI m.horizon), .t (T.sl 6 x), .t (T.sl 2 (List.map GoneE.enc m.gone))], .agg [.t (tI 0), .t (tI 0)]])) e3
    · have hf : (flagsI e.flags c.set c.clear != e.flags) = false := a6
      rw [e2, e2]
      have hA : applyS m c = (m, ⟨0, 0⟩) := by simp only [applyS, a1, a2, a3, a4', a5, he, Bool.false_eq_true, if_false, if_true, flagged, hf]
      rw [hA]
  · have a4' : ¬ findS m c.uid < 0 := a4
    obtain ⟨e, he, _⟩ := findS_lt (m := m) (u := c.uid) (by omega)
    have hi : (findS m c.uid).toNat < m.entries.length := (List.getElem?_eq_some_iff.1 he).1
    have c86 := deep (d' := d + 1) (d := 4) (by omega) (k86 (n := n) (d := 2) m.nextUid m.nextSeq m.horizon m.entries m.gone (findS m c.uid).toNat e he hq.1 hq.2 hes hgs (by omega))
    rw [Int.toNat_of_nonneg (by omega)] at c86
    refine ⟨m.nextSeq + 1, m.entries.eraseIdx (findS m c.uid).toNat, goneTo m.gone e.uid m.nextSeq, ?_⟩
    have hA : applyS m c = (removedBox m (findS m c.uid).toNat e, ⟨0, 0⟩) := by simp only [applyS, a1, a2, a3, a4', a5, he, Bool.false_eq_true, if_false, if_true]
    rw [hA]
    by_cases h4 : m.gone.length + 1 > 400
    · rw [if_pos h4] at c86
      refine .inr ⟨horizonTo m.gone e.uid m.nextSeq m.horizon, c86, ⟨by simp, by simp, trivial⟩, ?_⟩
      rw [take_append_len _ _ _ (by rw [List.length_map]), take_append_len _ _ _ (by rw [List.length_map])]
      rfl
    · rw [if_neg h4] at c86
      refine .inl ⟨c86, ⟨by simp, zle, trivial⟩, ?_⟩
      rw [take_append_len _ _ _ (by rw [List.length_map]), e2]
      have hh : horizonTo m.gone e.uid m.nextSeq m.horizon = m.horizon := by simp only [horizonTo, if_neg h4]
      simp only [removedBox, Box.cv, hh]
end
end Go.Ev
