/- Quotas, valid mailboxes, the first laws at the evaluator. No condition. -/
import Derived.Test.YtbempckmbfbjgaaBh
import Derived.Test.YtbempckmbfbjgaaBg
import Derived.KernelRfl
set_option linter.unusedVariables false
set_option linter.unusedSimpArgs false
set_option linter.constructorNameAsVariable false
set_option linter.unnecessarySimpa false
namespace Go.Ev
open Go.Proofs.Ytbempckmbfbjgaa.Code
set_option maxRecDepth 100000
def h15 : Hints := ⟨[], [(8, rFault), (15, rBoxF)], [], []⟩
def h44 (bs : List Box) : Hints := ⟨[], [], [(0, (.or (.ex (Fault) fun f => (.ret (.ret [((.s 0), (.sv (.c (.one (.own 1000000 5 0 ((bs.map Box.enc).length) ((bs.map Box.enc).length)))))), ((.s 2), (.sv (.c (.one (.ptr 200 2 0))))), ((.a 1000000), (.arr 5 (bs.map Box.enc))), ((.c 200 0), (.cell (.t (tI f.code)))), ((.c 200 1), (.cell (.t (tI f.index))))]))) (.ret (.exit 0 [((.s 0), (.sv (.c (.one (.own 1000000 5 0 ((bs.map Box.enc).length) ((bs.map Box.enc).length)))))), ((.s 2), (.sv (.c (.one (.ptr 200 2 0))))), ((.a 1000000), (.arr 5 (bs.map Box.enc))), ((.c 200 0), (.cell (.t (tI 0)))), ((.c 200 1), (.cell (.t (tI 0))))]))))], []⟩
def hb44_0  : Hints := ⟨[(15, eBox), (16, eBox)], [(18, rFault)], [], []⟩
abbrev C44_0 (bs : List Box) (i : Nat) : St := [((.s 0), (.sv (.c (.one (.own 1000000 5 0 ((bs.map Box.enc).length) ((bs.map Box.enc).length)))))), ((.s 2), (.sv (.c (.one (.ptr 200 2 0))))), ((.s 10), (.sv (.c (.one (.own 1000000 5 0 ((bs.map Box.enc).length) ((bs.map Box.enc).length)))))), ((.s 11), (.sv (svI ((((bs.map Box.enc).length : Nat) : Int))))), ((.s 12), (.sv (svI ((i : Int))))), ((.a 1000000), (.arr 5 (bs.map Box.enc))), ((.c 200 0), (.cell (.t (tI 0)))), ((.c 200 1), (.cell (.t (tI 0))))]
def h46 : Hints := ⟨[], [], [], []⟩
def h51 (bs : List Box) : Hints := ⟨[], [], [(0, (.ex (Limit) fun x => (.ret (.exit 0 [((.s 2), (.sv (.c (.one (.ptr 200 2 0))))), ((.s 3), (.sv (.c (.one (.ptr 300 2 0))))), ((.c 200 0), (.cell (.t (tI 0)))), ((.c 200 1), (.cell (.t (tI 0)))), ((.c 300 0), (.cell (.t (tI x.bytes)))), ((.c 300 1), (.cell (.t (tI x.messages))))]))))], []⟩
def hb51_1 (bs : List Box) (i : Nat) (x : Limit) : Hints := ⟨[(12, eBox), (13, eBox)], [], [(0, (.ex (Limit) fun x => (.ret (.exit 2 [((.s 2), (.sv (.c (.one (.ptr 200 2 0))))), ((.s 3), (.sv (.c (.one (.ptr 300 2 0))))), ((.s 8), (.sv (.c (.one (.own 1000000 5 0 ((bs.map Box.enc).length) ((bs.map Box.enc).length)))))), ((.s 9), (.sv (svI ((((bs.map Box.enc).length : Nat) : Int))))), ((.s 10), (.sv (svI ((i : Int))))), ((.c 200 0), (.cell (.t (tI 0)))), ((.c 200 1), (.cell (.t (tI 0)))), ((.c 300 0), (.cell (.t (tI x.bytes)))), ((.c 300 1), (.cell (.t (tI x.messages)))), ((.a 1000000), (.arr 5 (bs.map Box.enc)))]))))], []⟩
abbrev C51_1 (bs : List Box) (i : Nat) (x : Limit) : St := [((.s 2), (.sv (.c (.one (.ptr 200 2 0))))), ((.s 3), (.sv (.c (.one (.ptr 300 2 0))))), ((.s 8), (.sv (.c (.one (.own 1000000 5 0 ((bs.map Box.enc).length) ((bs.map Box.enc).length)))))), ((.s 9), (.sv (svI ((((bs.map Box.enc).length : Nat) : Int))))), ((.s 10), (.sv (svI ((i : Int))))), ((.c 200 0), (.cell (.t (tI 0)))), ((.c 200 1), (.cell (.t (tI 0)))), ((.c 300 0), (.cell (.t (tI x.bytes)))), ((.c 300 1), (.cell (.t (tI x.messages)))), ((.a 1000000), (.arr 5 (bs.map Box.enc)))]
def hb51_0  : Hints := ⟨[(19, eStored)], [(24, rLimit)], [], []⟩
abbrev C51_0 (bs : List Box) (i : Nat) (x : Limit) (l : List Stored) (j : Nat) : St := [((.s 2), (.sv (.c (.one (.ptr 200 2 0))))), ((.s 3), (.sv (.c (.one (.ptr 300 2 0))))), ((.s 8), (.sv (.c (.one (.own 1000000 5 0 ((bs.map Box.enc).length) ((bs.map Box.enc).length)))))), ((.s 9), (.sv (svI ((((bs.map Box.enc).length : Nat) : Int))))), ((.s 10), (.sv (svI ((i : Int))))), ((.s 15), (.sv (svL 6 ((l.map Stored.enc))))), ((.s 16), (.sv (svI ((((l.map Stored.enc).length : Nat) : Int))))), ((.s 17), (.sv (svI ((j : Int))))), ((.c 200 0), (.cell (.t (tI 0)))), ((.c 200 1), (.cell (.t (tI 0)))), ((.c 300 0), (.cell (.t (tI x.bytes)))), ((.c 300 1), (.cell (.t (tI x.messages)))), ((.a 1000000), (.arr 5 (bs.map Box.enc)))]
def h14 : Hints := ⟨[], [(12, (.ex (Fault) fun f => .ret (f.sv, [.keep], []))), (17, rFault), (22, rFault), (29, (.ex (Limit) fun x => .ret (x.sv, [.gone], []))), (31, rLimit)], [], []⟩
def h16 : Hints := ⟨[], [(6, (.ex (Fault) fun f => .ret (f.sv, [.keep], []))), (12, (.ex (Limit) fun x => .ret (x.sv, [.gone], [])))], [], []⟩
def h17 (m : Box) (l : Limit) : Hints := ⟨[], [(14, rFault), (19, rFault), (25, (.ex (Limit) fun x => .ret (x.sv, [.gone], [])))], [(0, (.ex (List Int) fun z => (.ret (.exit 0 [((.s 5), (.sv (.c (.one (.ptr 500 2 0))))), ((.s 9), (.sv (.c (.one (.own 900 1 0 ((z.map intE).length) ((z.map intE).length)))))), ((.c 500 0), (.cell (.t (tI 0)))), ((.c 500 1), (.cell (.t (tI 0)))), ((.a 900), (.arr 1 (z.map intE)))]))))], []⟩
def hb17_0  : Hints := ⟨[(31, eStored)], [(38, rLimit)], [], [(52, [true])]⟩
abbrev C17_0 (l x : Limit) (es : List Stored) (acc : List Int) (i : Nat) : St := [((.s 9), (.sv (.c (.one (.own 900 1 0 ((acc.map intE).length) ((acc.map intE).length)))))), ((.a 900), (.arr 1 (acc.map intE))), ((.s 3), (.sv (.c (.one (.ptr 300 2 0))))), ((.s 5), (.sv (.c (.one (.ptr 500 2 0))))), ((.s 8), (.sv (.c (.one (.ptr 800 2 0))))), ((.s 27), (.sv (svL 6 (es.map Stored.enc)))), ((.s 28), (.sv (svI ((((es.map Stored.enc).length : Nat) : Int))))), ((.s 29), (.sv (svI ((i : Int))))), ((.c 300 0), (.cell (.t (tI l.bytes)))), ((.c 300 1), (.cell (.t (tI l.messages)))), ((.c 500 0), (.cell (.t (tI 0)))), ((.c 500 1), (.cell (.t (tI 0)))), ((.c 800 0), (.cell (.t (tI x.bytes)))), ((.c 800 1), (.cell (.t (tI x.messages))))]
theorem w15 (cl : CallFn) (n : Nat) (m : Box) (c : Change) (Q : CRes → Prop) : (wpZ S0 (mix D0 cl) (h15) n true c15 [m.sv, c.sv] [] Q) = 
 (∃ (y5 : Fault), (((cl 54 [(.c (.agg [(.t (tI m.nextUid)), (.t (tI m.nextSeq)), (.t (tI m.horizon)), (.t (T.sl 6 (List.map Stored.enc m.entries))), (.t (T.sl 2 (List.map GoneE.enc m.gone)))]))] []) = (some (out (.c (.agg [(.t (tI y5.code)), (.t (tI y5.index))]))))) ∧
 (fork (bne y5.code 0)
 (True ∧
 (Q (out (.tup [(.agg [(.t (tI 0)), (.t (tI 0)), (.t (tI 0)), (.t (T.sl 6 [])), (.t (T.sl 2 []))]), (.agg [(.t (tI y5.code)), (.t (tI y5.index))])]))))
 (∃ (y6 : Box), (∃ (y7 : Fault), (((cl 55 [(.c (.agg [(.t (tI m.nextUid)), (.t (tI m.nextSeq)), (.t (tI m.horizon)), (.t (T.sl 6 (List.map Stored.enc m.entries))), (.t (T.sl 2 (List.map GoneE.enc m.gone)))])), (.c (.agg [(.t (tI c.kind)), (.t (tI c.uid)), (.t (tI c.set)), (.t (tI c.clear)), (.t (tI c.at_)), (.t (T.sl 2 (List.map Field.enc c.msg.fields))), (.t (T.sl 1 (List.map byteT c.msg.body)))]))] []) = (some (out (.tup [(.agg [(.t (tI y6.nextUid)), (.t (tI y6.nextSeq)), (.t (tI y6.horizon)), (.t (T.sl 6 (List.map Stored.enc y6.entries))), (.t (T.sl 2 (List.map GoneE.enc y6.gone)))]), (.agg [(.t (tI y7.code)), (.t (tI y7.index))])])))) ∧
 (True ∧
 (Q (out (.tup [(.agg [(.t (tI y6.nextUid)), (.t (tI y6.nextSeq)), (.t (tI y6.horizon)), (.t (T.sl 6 (List.map Stored.enc y6.entries))), (.t (T.sl 2 (List.map GoneE.enc y6.gone)))]), (.agg [(.t (tI y7.code)), (.t (tI y7.index))])])))))))))) := by kernel_rfl
theorem w44 (cl : CallFn) (n : Nat) (bs : List Box) (Q : CRes → Prop) : (wpZ S0 (mix D0 cl) (h44 bs) n false c44 [.c (.one (.own 1000000 5 0 (bs.map Box.enc).length (bs.map Box.enc).length))] [.arr 5 (bs.map Box.enc)] Q) = 
 (fork (decide ((((List.length (List.map Box.enc bs)) : Nat) : Int) > 20))
 (Q ((.c (.agg [(.t (tI 2)), (.t (tI (-1)))])), ([.keep], [])))
 ((∃ (y4 : Fault), ((At S0 (mix D0 cl) n [0, 2, 10, 11, 12] c44l0 [((.s 0), (.sv (.c (.one (.own 1000000 5 0 (List.length (List.map Box.enc bs)) (List.length (List.map Box.enc bs))))))), ((.s 2), (.sv (.c (.one (.ptr 200 2 0))))), ((.s 10), (.sv (.c (.one (.own 1000000 5 0 (List.length (List.map Box.enc bs)) (List.length (List.map Box.enc bs))))))), ((.s 11), (.sv (svI (((List.length (List.map Box.enc bs)) : Nat) : Int)))), ((.s 12), (.sv (svI 0))), ((.a 1000000), (.arr 5 (List.map Box.enc bs))), ((.c 200 0), (.cell (.t (tI 0)))), ((.c 200 1), (.cell (.t (tI 0))))] n (.ret [((.s 0), (.sv (.c (.one (.own 1000000 5 0 (List.length (List.map Box.enc bs)) (List.length (List.map Box.enc bs))))))), ((.s 2), (.sv (.c (.one (.ptr 200 2 0))))), ((.a 1000000), (.arr 5 (List.map Box.enc bs))), ((.c 200 0), (.cell (.t (tI y4.code)))), ((.c 200 1), (.cell (.t (tI y4.index))))])) ∧
 (Q ((.c (.agg [(.t (tI y4.code)), (.t (tI y4.index))])), ([.keep], []))))) ∨
 ((At S0 (mix D0 cl) n [0, 2, 10, 11, 12] c44l0 [((.s 0), (.sv (.c (.one (.own 1000000 5 0 (List.length (List.map Box.enc bs)) (List.length (List.map Box.enc bs))))))), ((.s 2), (.sv (.c (.one (.ptr 200 2 0))))), ((.s 10), (.sv (.c (.one (.own 1000000 5 0 (List.length (List.map Box.enc bs)) (List.length (List.map Box.enc bs))))))), ((.s 11), (.sv (svI (((List.length (List.map Box.enc bs)) : Nat) : Int)))), ((.s 12), (.sv (svI 0))), ((.a 1000000), (.arr 5 (List.map Box.enc bs))), ((.c 200 0), (.cell (.t (tI 0)))), ((.c 200 1), (.cell (.t (tI 0))))] n (.exit 0 [((.s 0), (.sv (.c (.one (.own 1000000 5 0 (List.length (List.map Box.enc bs)) (List.length (List.map Box.enc bs))))))), ((.s 2), (.sv (.c (.one (.ptr 200 2 0))))), ((.a 1000000), (.arr 5 (List.map Box.enc bs))), ((.c 200 0), (.cell (.t (tI 0)))), ((.c 200 1), (.cell (.t (tI 0))))])) ∧
 (Q ((.c (.agg [(.t (tI 0)), (.t (tI 0))])), ([.keep], [])))))) := by kernel_rfl
theorem b44_0 (cl : CallFn) (n : Nat) (bs : List Box) (i : Nat) (Q : Out → Prop) : (wpBody S0 (mix D0 cl) (hb44_0) n [0, 2, 10, 11, 12] c44l0 (C44_0 bs i) Q) = 
 (fork (decide (((i : Nat) : Int) < (((List.length (List.map Box.enc bs)) : Nat) : Int)))
 (((0 : Int) ≤ ((i : Nat) : Int)) ∧
 ((i < (List.length (List.map Box.enc bs))) ∧
 (∃ (y5 : Box), ((((List.map Box.enc bs))[(0 + i)]? = (some [(tI y5.nextUid), (tI y5.nextSeq), (tI y5.horizon), (T.sl 6 (List.map Stored.enc y5.entries)), (T.sl 2 (List.map GoneE.enc y5.gone))])) ∧
 (∃ (y6 : Fault), (((cl 54 [(.c (.agg [(.t (tI y5.nextUid)), (.t (tI y5.nextSeq)), (.t (tI y5.horizon)), (.t (T.sl 6 (List.map Stored.enc y5.entries))), (.t (T.sl 2 (List.map GoneE.enc y5.gone)))]))] []) = (some (out (.c (.agg [(.t (tI y6.code)), (.t (tI y6.index))]))))) ∧
 (fork (bne y6.code 0)
 (Q (.ret [((.s 0), (.sv (.c (.one (.own 1000000 5 0 (List.length (List.map Box.enc bs)) (List.length (List.map Box.enc bs))))))), ((.s 2), (.sv (.c (.one (.ptr 200 2 0))))), ((.a 1000000), (.arr 5 (List.map Box.enc bs))), ((.c 200 0), (.cell (.t (tI y6.code)))), ((.c 200 1), (.cell (.t (tI ((i : Nat) : Int)))))]))
 (Q (.norm [((.s 0), (.sv (.c (.one (.own 1000000 5 0 (List.length (List.map Box.enc bs)) (List.length (List.map Box.enc bs))))))), ((.s 2), (.sv (.c (.one (.ptr 200 2 0))))), ((.s 10), (.sv (.c (.one (.own 1000000 5 0 (List.length (List.map Box.enc bs)) (List.length (List.map Box.enc bs))))))), ((.s 11), (.sv (svI (((List.length (List.map Box.enc bs)) : Nat) : Int)))), ((.s 12), (.sv (svI (IntKind.wrap .i64 (((i : Nat) : Int) + 1))))), ((.a 1000000), (.arr 5 (List.map Box.enc bs))), ((.c 200 0), (.cell (.t (tI 0)))), ((.c 200 1), (.cell (.t (tI 0))))])))))))))
 (Q (.exit 0 [((.s 0), (.sv (.c (.one (.own 1000000 5 0 (List.length (List.map Box.enc bs)) (List.length (List.map Box.enc bs))))))), ((.s 2), (.sv (.c (.one (.ptr 200 2 0))))), ((.a 1000000), (.arr 5 (List.map Box.enc bs))), ((.c 200 0), (.cell (.t (tI 0)))), ((.c 200 1), (.cell (.t (tI 0))))]))) := by kernel_rfl
theorem w46 (cl : CallFn) (n : Nat) (l : Limit) (Q : CRes → Prop) : (wpZ S0 (mix D0 cl) (h46) n false c46 [l.sv] [] Q) = 
 (fork (decide (l.bytes < 0))
 (Q (out (.c (.agg [(.t (tI 3)), (.t (tI (-2)))]))))
 (fork (decide (l.bytes > 1099511627776))
 (Q (out (.c (.agg [(.t (tI 3)), (.t (tI (-2)))]))))
 (fork (decide (l.messages < 0))
 (Q (out (.c (.agg [(.t (tI 3)), (.t (tI (-2)))]))))
 (fork (decide (l.messages > 1000000))
 (Q (out (.c (.agg [(.t (tI 3)), (.t (tI (-2)))]))))
 (Q (out (.c (.agg [(.t (tI 0)), (.t (tI 0))])))))))) := by kernel_rfl
theorem w51 (cl : CallFn) (n : Nat) (bs : List Box) (Q : CRes → Prop) : (wpZ S0 (mix D0 cl) (h51 bs) n false c51 [.c (.one (.own 1000000 5 0 (bs.map Box.enc).length (bs.map Box.enc).length))] [.arr 5 (bs.map Box.enc)] Q) = 
 (∃ (y4 : Limit), ((At S0 (mix D0 cl) n [2, 3, 8, 9, 10] c51l1 [((.s 2), (.sv (.c (.one (.ptr 200 2 0))))), ((.s 3), (.sv (.c (.one (.ptr 300 2 0))))), ((.s 8), (.sv (.c (.one (.own 1000000 5 0 (List.length (List.map Box.enc bs)) (List.length (List.map Box.enc bs))))))), ((.s 9), (.sv (svI (((List.length (List.map Box.enc bs)) : Nat) : Int)))), ((.s 10), (.sv (svI 0))), ((.c 200 0), (.cell (.t (tI 0)))), ((.c 200 1), (.cell (.t (tI 0)))), ((.c 300 0), (.cell (.t (tI 0)))), ((.c 300 1), (.cell (.t (tI 0)))), ((.a 1000000), (.arr 5 (List.map Box.enc bs)))] n (.exit 0 [((.s 2), (.sv (.c (.one (.ptr 200 2 0))))), ((.s 3), (.sv (.c (.one (.ptr 300 2 0))))), ((.c 200 0), (.cell (.t (tI 0)))), ((.c 200 1), (.cell (.t (tI 0)))), ((.c 300 0), (.cell (.t (tI y4.bytes)))), ((.c 300 1), (.cell (.t (tI y4.messages))))])) ∧
 (Q ((.c (.agg [(.t (tI y4.bytes)), (.t (tI y4.messages))])), ([.gone], []))))) := by kernel_rfl
theorem b51_1 (cl : CallFn) (n : Nat) (bs : List Box) (i : Nat) (x : Limit) (Q : Out → Prop) : (wpBody S0 (mix D0 cl) (hb51_1 bs i x) n [2, 3, 8, 9, 10] c51l1 (C51_1 bs i x) Q) = 
 (fork (decide (((i : Nat) : Int) < (((List.length (List.map Box.enc bs)) : Nat) : Int)))
 (((0 : Int) ≤ ((i : Nat) : Int)) ∧
 ((i < (List.length (List.map Box.enc bs))) ∧
 (∃ (y6 : Box), ((((List.map Box.enc bs))[(0 + i)]? = (some [(tI y6.nextUid), (tI y6.nextSeq), (tI y6.horizon), (T.sl 6 (List.map Stored.enc y6.entries)), (T.sl 2 (List.map GoneE.enc y6.gone))])) ∧
 (∃ (y7 : Limit), ((At S0 (mix D0 cl) n [2, 3, 8, 9, 10, 15, 16, 17] c51l0 [((.s 2), (.sv (.c (.one (.ptr 200 2 0))))), ((.s 3), (.sv (.c (.one (.ptr 300 2 0))))), ((.s 8), (.sv (.c (.one (.own 1000000 5 0 (List.length (List.map Box.enc bs)) (List.length (List.map Box.enc bs))))))), ((.s 9), (.sv (svI (((List.length (List.map Box.enc bs)) : Nat) : Int)))), ((.s 10), (.sv (svI ((i : Nat) : Int)))), ((.s 15), (.sv (svL 6 (List.map Stored.enc y6.entries)))), ((.s 16), (.sv (svI (((List.length (List.map Stored.enc y6.entries)) : Nat) : Int)))), ((.s 17), (.sv (svI 0))), ((.c 200 0), (.cell (.t (tI 0)))), ((.c 200 1), (.cell (.t (tI 0)))), ((.c 300 0), (.cell (.t (tI x.bytes)))), ((.c 300 1), (.cell (.t (tI x.messages)))), ((.a 1000000), (.arr 5 (List.map Box.enc bs)))] n (.exit 2 [((.s 2), (.sv (.c (.one (.ptr 200 2 0))))), ((.s 3), (.sv (.c (.one (.ptr 300 2 0))))), ((.s 8), (.sv (.c (.one (.own 1000000 5 0 (List.length (List.map Box.enc bs)) (List.length (List.map Box.enc bs))))))), ((.s 9), (.sv (svI (((List.length (List.map Box.enc bs)) : Nat) : Int)))), ((.s 10), (.sv (svI ((i : Nat) : Int)))), ((.c 200 0), (.cell (.t (tI 0)))), ((.c 200 1), (.cell (.t (tI 0)))), ((.c 300 0), (.cell (.t (tI y7.bytes)))), ((.c 300 1), (.cell (.t (tI y7.messages)))), ((.a 1000000), (.arr 5 (List.map Box.enc bs)))])) ∧
 (Q (.norm [((.s 2), (.sv (.c (.one (.ptr 200 2 0))))), ((.s 3), (.sv (.c (.one (.ptr 300 2 0))))), ((.s 8), (.sv (.c (.one (.own 1000000 5 0 (List.length (List.map Box.enc bs)) (List.length (List.map Box.enc bs))))))), ((.s 9), (.sv (svI (((List.length (List.map Box.enc bs)) : Nat) : Int)))), ((.s 10), (.sv (svI (IntKind.wrap .i64 (((i : Nat) : Int) + 1))))), ((.c 200 0), (.cell (.t (tI 0)))), ((.c 200 1), (.cell (.t (tI 0)))), ((.c 300 0), (.cell (.t (tI y7.bytes)))), ((.c 300 1), (.cell (.t (tI y7.messages)))), ((.a 1000000), (.arr 5 (List.map Box.enc bs)))]))))))))
 (Q (.exit 0 [((.s 2), (.sv (.c (.one (.ptr 200 2 0))))), ((.s 3), (.sv (.c (.one (.ptr 300 2 0))))), ((.c 200 0), (.cell (.t (tI 0)))), ((.c 200 1), (.cell (.t (tI 0)))), ((.c 300 0), (.cell (.t (tI x.bytes)))), ((.c 300 1), (.cell (.t (tI x.messages))))]))) := by kernel_rfl
theorem b51_0 (cl : CallFn) (n : Nat) (bs : List Box) (i : Nat) (x : Limit) (l : List Stored) (j : Nat) (Q : Out → Prop) : (wpBody S0 (mix D0 cl) (hb51_0) n [2, 3, 8, 9, 10, 15, 16, 17] c51l0 (C51_0 bs i x l j) Q) = 
 (fork (decide (((j : Nat) : Int) < (((List.length (List.map Stored.enc l)) : Nat) : Int)))
 (((0 : Int) ≤ ((j : Nat) : Int)) ∧
 (∃ (y8 : Stored), ((((List.map Stored.enc l))[j]? = (some [(tI y8.uid), (tI y8.seq), (tI y8.flags), (tI y8.at_), (T.sl 2 (List.map Field.enc y8.msg.fields)), (T.sl 1 (List.map byteT y8.msg.body))])) ∧
 (∃ (y9 : Limit), (((cl 52 [(.c (.agg [(.t (T.sl 2 (List.map Field.enc y8.msg.fields))), (.t (T.sl 1 (List.map byteT y8.msg.body)))]))] []) = (some (out (.c (.agg [(.t (tI y9.bytes)), (.t (tI y9.messages))]))))) ∧
 (Q (.norm [((.s 2), (.sv (.c (.one (.ptr 200 2 0))))), ((.s 3), (.sv (.c (.one (.ptr 300 2 0))))), ((.s 8), (.sv (.c (.one (.own 1000000 5 0 (List.length (List.map Box.enc bs)) (List.length (List.map Box.enc bs))))))), ((.s 9), (.sv (svI (((List.length (List.map Box.enc bs)) : Nat) : Int)))), ((.s 10), (.sv (svI ((i : Nat) : Int)))), ((.s 15), (.sv (svL 6 (List.map Stored.enc l)))), ((.s 16), (.sv (svI (((List.length (List.map Stored.enc l)) : Nat) : Int)))), ((.s 17), (.sv (svI (IntKind.wrap .i64 (((j : Nat) : Int) + 1))))), ((.c 200 0), (.cell (.t (tI 0)))), ((.c 200 1), (.cell (.t (tI 0)))), ((.c 300 0), (.cell (.t (tI (IntKind.wrap .i64 (x.bytes + y9.bytes)))))), ((.c 300 1), (.cell (.t (tI (IntKind.wrap .i64 (x.messages + y9.messages)))))), ((.a 1000000), (.arr 5 (List.map Box.enc bs)))])))))))
 (Q (.exit 2 [((.s 2), (.sv (.c (.one (.ptr 200 2 0))))), ((.s 3), (.sv (.c (.one (.ptr 300 2 0))))), ((.s 8), (.sv (.c (.one (.own 1000000 5 0 (List.length (List.map Box.enc bs)) (List.length (List.map Box.enc bs))))))), ((.s 9), (.sv (svI (((List.length (List.map Box.enc bs)) : Nat) : Int)))), ((.s 10), (.sv (svI ((i : Nat) : Int)))), ((.c 200 0), (.cell (.t (tI 0)))), ((.c 200 1), (.cell (.t (tI 0)))), ((.c 300 0), (.cell (.t (tI x.bytes)))), ((.c 300 1), (.cell (.t (tI x.messages)))), ((.a 1000000), (.arr 5 (List.map Box.enc bs)))]))) := by kernel_rfl
theorem w14 (cl : CallFn) (n : Nat) (bs : List Box) (l : Limit) (m : Msg) (Q : CRes → Prop) : (wpZ S0 (mix D0 cl) (h14) n false c14 [.c (.one (.own 1000000 5 0 (bs.map Box.enc).length (bs.map Box.enc).length)), l.sv, m.sv] [.arr 5 (bs.map Box.enc)] Q) = 
 (∃ (y6 : Fault), (((cl 44 [(.c (.one (.own 1000000 5 0 (List.length (List.map Box.enc bs)) (List.length (List.map Box.enc bs)))))] [(.arr 5 (List.map Box.enc bs))]) = (some ((.c (.agg [(.t (tI y6.code)), (.t (tI y6.index))])), ([.keep], [])))) ∧
 (fork (bne y6.code 0)
 (Q ((.tup [(.one (.t (T.bool false))), (.agg [(.t (tI y6.code)), (.t (tI y6.index))])]), ([.gone], [])))
 (∃ (y7 : Fault), (((cl 46 [(.c (.agg [(.t (tI l.bytes)), (.t (tI l.messages))]))] []) = (some (out (.c (.agg [(.t (tI y7.code)), (.t (tI y7.index))]))))) ∧
 (fork (bne y7.code 0)
 (Q ((.tup [(.one (.t (T.bool false))), (.agg [(.t (tI y7.code)), (.t (tI y7.index))])]), ([.gone], [])))
 (∃ (y8 : Fault), (((cl 47 [(.c (.agg [(.t (T.sl 2 (List.map Field.enc m.fields))), (.t (T.sl 1 (List.map byteT m.body)))]))] []) = (some (out (.c (.agg [(.t (tI y8.code)), (.t (tI y8.index))]))))) ∧
 (fork (bne y8.code 0)
 (Q ((.tup [(.one (.t (T.bool false))), (.agg [(.t (tI y8.code)), (.t (tI (-6)))])]), ([.gone], [])))
 (∃ (y9 : Limit), (((cl 51 [(.c (.one (.own 1000000 5 0 (List.length (List.map Box.enc bs)) (List.length (List.map Box.enc bs)))))] [(.arr 5 (List.map Box.enc bs))]) = (some ((.c (.agg [(.t (tI y9.bytes)), (.t (tI y9.messages))])), ([.gone], [])))) ∧
 (∃ (y10 : Limit), (((cl 52 [(.c (.agg [(.t (T.sl 2 (List.map Field.enc m.fields))), (.t (T.sl 1 (List.map byteT m.body)))]))] []) = (some (out (.c (.agg [(.t (tI y10.bytes)), (.t (tI y10.messages))]))))) ∧
 (fork (withinB (IntKind.wrap .i64 (y9.bytes + y10.bytes)) (IntKind.wrap .i64 (y9.messages + y10.messages)) l.bytes l.messages)
 (Q ((.tup [(.one (.t (T.bool true))), (.agg [(.t (tI 0)), (.t (tI 0))])]), ([.gone], [])))
 (Q ((.tup [(.one (.t (T.bool false))), (.agg [(.t (tI 0)), (.t (tI 0))])]), ([.gone], []))))))))))))))))) := by kernel_rfl
theorem w16 (cl : CallFn) (n : Nat) (bs : List Box) (Q : CRes → Prop) : (wpZ S0 (mix D0 cl) (h16) n false c16 [.c (.one (.own 1000000 5 0 (bs.map Box.enc).length (bs.map Box.enc).length))] [.arr 5 (bs.map Box.enc)] Q) = 
 (∃ (y4 : Fault), (((cl 44 [(.c (.one (.own 1000000 5 0 (List.length (List.map Box.enc bs)) (List.length (List.map Box.enc bs)))))] [(.arr 5 (List.map Box.enc bs))]) = (some ((.c (.agg [(.t (tI y4.code)), (.t (tI y4.index))])), ([.keep], [])))) ∧
 (fork (bne y4.code 0)
 (Q ((.tup [(.agg [(.t (tI 0)), (.t (tI 0))]), (.agg [(.t (tI y4.code)), (.t (tI y4.index))])]), ([.gone], [])))
 (∃ (y5 : Limit), (((cl 51 [(.c (.one (.own 1000000 5 0 (List.length (List.map Box.enc bs)) (List.length (List.map Box.enc bs)))))] [(.arr 5 (List.map Box.enc bs))]) = (some ((.c (.agg [(.t (tI y5.bytes)), (.t (tI y5.messages))])), ([.gone], [])))) ∧
 (Q ((.tup [(.agg [(.t (tI y5.bytes)), (.t (tI y5.messages))]), (.agg [(.t (tI 0)), (.t (tI 0))])]), ([.gone], [])))))))) := by kernel_rfl
theorem w17 (cl : CallFn) (n : Nat) (m : Box) (l : Limit) (Q : CRes → Prop) : (wpZ S0 (mix D0 cl) (h17 m l) n true c17 [m.sv, l.sv] [] Q) = 
 (∃ (y5 : Fault), (((cl 54 [(.c (.agg [(.t (tI m.nextUid)), (.t (tI m.nextSeq)), (.t (tI m.horizon)), (.t (T.sl 6 (List.map Stored.enc m.entries))), (.t (T.sl 2 (List.map GoneE.enc m.gone)))]))] []) = (some (out (.c (.agg [(.t (tI y5.code)), (.t (tI y5.index))]))))) ∧
 (fork (bne y5.code 0)
 (True ∧
 (Q (out (.tup [(.one (.t (T.sl 1 []))), (.agg [(.t (tI y5.code)), (.t (tI y5.index))])]))))
 (∃ (y6 : Fault), (((cl 46 [(.c (.agg [(.t (tI l.bytes)), (.t (tI l.messages))]))] []) = (some (out (.c (.agg [(.t (tI y6.code)), (.t (tI y6.index))]))))) ∧
 (fork (bne y6.code 0)
 (True ∧
 (Q (out (.tup [(.one (.t (T.sl 1 []))), (.agg [(.t (tI y6.code)), (.t (tI y6.index))])]))))
 (∃ (y7 : Limit), (((cl 51 [(.c (.one (.own 1000000 5 0 1 1)))] [(.arr 5 [[(tI m.nextUid), (tI m.nextSeq), (tI m.horizon), (T.sl 6 (List.map Stored.enc m.entries)), (T.sl 2 (List.map GoneE.enc m.gone))]])]) = (some ((.c (.agg [(.t (tI y7.bytes)), (.t (tI y7.messages))])), ([.gone], [])))) ∧
 (∃ (y8 : List Int), ((At S0 (mix D0 cl) n [3, 5, 8, 9, 27, 28, 29] c17l0 [((.s 9), (.sv (.c (.one (.own 900 1 0 0 0))))), ((.a 900), (.arr 1 [])), ((.s 3), (.sv (.c (.one (.ptr 300 2 0))))), ((.s 5), (.sv (.c (.one (.ptr 500 2 0))))), ((.s 8), (.sv (.c (.one (.ptr 800 2 0))))), ((.s 27), (.sv (svL 6 (List.map Stored.enc m.entries)))), ((.s 28), (.sv (svI (((List.length (List.map Stored.enc m.entries)) : Nat) : Int)))), ((.s 29), (.sv (svI 0))), ((.c 300 0), (.cell (.t (tI l.bytes)))), ((.c 300 1), (.cell (.t (tI l.messages)))), ((.c 500 0), (.cell (.t (tI 0)))), ((.c 500 1), (.cell (.t (tI 0)))), ((.c 800 0), (.cell (.t (tI y7.bytes)))), ((.c 800 1), (.cell (.t (tI y7.messages))))] n (.exit 0 [((.s 5), (.sv (.c (.one (.ptr 500 2 0))))), ((.s 9), (.sv (.c (.one (.own 900 1 0 (List.length (List.map intE y8)) (List.length (List.map intE y8))))))), ((.c 500 0), (.cell (.t (tI 0)))), ((.c 500 1), (.cell (.t (tI 0)))), ((.a 900), (.arr 1 (List.map intE y8)))])) ∧
 ((((0 + (List.length (List.map intE y8))) ≤ (List.length (List.map intE y8))) ∧
 True) ∧
 (Q (out (.tup [(.one (.t (T.sl 1 (List.take (List.length (List.map intE y8)) (List.drop 0 (List.map intE y8)))))), (.agg [(.t (tI 0)), (.t (tI 0))])])))))))))))))) := by kernel_rfl
theorem b17_0 (cl : CallFn) (n : Nat) (l x : Limit) (es : List Stored) (acc : List Int) (i : Nat) (Q : Out → Prop) : (wpBody S0 (mix D0 cl) (hb17_0) n [3, 5, 8, 9, 27, 28, 29] c17l0 (C17_0 l x es acc i) Q) = 
 (fork (decide (((i : Nat) : Int) < (((List.length (List.map Stored.enc es)) : Nat) : Int)))
 (((0 : Int) ≤ ((i : Nat) : Int)) ∧
 (∃ (y8 : Stored), ((((List.map Stored.enc es))[i]? = (some [(tI y8.uid), (tI y8.seq), (tI y8.flags), (tI y8.at_), (T.sl 2 (List.map Field.enc y8.msg.fields)), (T.sl 1 (List.map byteT y8.msg.body))])) ∧
 (fork (withinB x.bytes x.messages l.bytes l.messages)
 (Q (.exit 0 [((.s 5), (.sv (.c (.one (.ptr 500 2 0))))), ((.s 9), (.sv (.c (.one (.own 900 1 0 (List.length (List.map intE acc)) (List.length (List.map intE acc))))))), ((.c 500 0), (.cell (.t (tI 0)))), ((.c 500 1), (.cell (.t (tI 0)))), ((.a 900), (.arr 1 (List.map intE acc)))]))
 (∃ (y9 : Limit), (((cl 52 [(.c (.agg [(.t (T.sl 2 (List.map Field.enc y8.msg.fields))), (.t (T.sl 1 (List.map byteT y8.msg.body)))]))] []) = (some (out (.c (.agg [(.t (tI y9.bytes)), (.t (tI y9.messages))]))))) ∧
 ((1 ≤ (List.length [[(tI y8.uid)]])) ∧
 (((0 + (List.length (List.map intE acc))) ≤ (List.length (List.map intE acc))) ∧
 (((decide ((0 = 0) ∧
 ((List.length (List.map intE acc)) = (List.length (List.map intE acc))))) = true) ∧
 (((((List.length ((List.map intE acc) ++ [[(tI y8.uid)]])) * 8) ≤ 140737488355328) ∧
 ((List.length ((List.map intE acc) ++ [[(tI y8.uid)]])) ≤ 9223372036854775807)) ∧
 (((List.length ((List.map intE acc) ++ [[(tI y8.uid)]])) = (List.length ((List.map intE acc) ++ [[(tI y8.uid)]]))) ∧
 (Q (.norm [((.s 9), (.sv (.c (.one (.own 900 1 0 (List.length ((List.map intE acc) ++ [[(tI y8.uid)]])) (List.length ((List.map intE acc) ++ [[(tI y8.uid)]]))))))), ((.a 900), (.arr 1 ((List.map intE acc) ++ [[(tI y8.uid)]]))), ((.s 3), (.sv (.c (.one (.ptr 300 2 0))))), ((.s 5), (.sv (.c (.one (.ptr 500 2 0))))), ((.s 8), (.sv (.c (.one (.ptr 800 2 0))))), ((.s 27), (.sv (svL 6 (List.map Stored.enc es)))), ((.s 28), (.sv (svI (((List.length (List.map Stored.enc es)) : Nat) : Int)))), ((.s 29), (.sv (svI (IntKind.wrap .i64 (((i : Nat) : Int) + 1))))), ((.c 300 0), (.cell (.t (tI l.bytes)))), ((.c 300 1), (.cell (.t (tI l.messages)))), ((.c 500 0), (.cell (.t (tI 0)))), ((.c 500 1), (.cell (.t (tI 0)))), ((.c 800 0), (.cell (.t (tI (IntKind.wrap .i64 (x.bytes + (IntKind.wrap .i64 ((0 : Int) - y9.bytes)))))))), ((.c 800 1), (.cell (.t (tI (IntKind.wrap .i64 (x.messages + (IntKind.wrap .i64 ((0 : Int) - y9.messages))))))))])))))))))))))
 (Q (.exit 0 [((.s 5), (.sv (.c (.one (.ptr 500 2 0))))), ((.s 9), (.sv (.c (.one (.own 900 1 0 (List.length (List.map intE acc)) (List.length (List.map intE acc))))))), ((.c 500 0), (.cell (.t (tI 0)))), ((.c 500 1), (.cell (.t (tI 0)))), ((.a 900), (.arr 1 (List.map intE acc)))]))) := by kernel_rfl

end Go.Ev

namespace Go.Ev
open Go.Proofs.Ytbempckmbfbjgaa.Code
set_option maxRecDepth 100000
def applyV (m : Box) (c : Change) : Box × Fault := if (boxFault m).code != 0 then (zeroBox, boxFault m) else applyS m c
def limitFault (l : Limit) : Fault := if l.bytes < 0 ∨ l.bytes > 1099511627776 ∨ l.messages < 0 ∨ l.messages > 1000000 then ⟨3, -2⟩ else ⟨0, 0⟩
def badB : List Box → Nat → Option Fault
  | [], _ => none
  | b :: l, i => if (boxFault b).code != 0 then some ⟨(boxFault b).code, (i : Nat)⟩ else badB l (i + 1)
def listFault (bs : List Box) : Fault := if bs.length > 20 then ⟨2, -1⟩ else (badB bs 0).getD ⟨0, 0⟩
def sizeE (e : Stored) : Nat := (writeRes e.msg).1.length
def usedE (l : List Stored) : Nat := (l.map sizeE).sum
def usedL (bs : List Box) : Limit := ⟨((bs.map fun b => usedE b.entries).sum : Nat), ((bs.map fun b => b.entries.length).sum : Nat)⟩
theorem writeRes_le (m : Msg) : (writeRes m).1.length ≤ 12000 := by
  unfold writeRes
  split
  · simp
  · rename_i h
    simp only
    unfold msgFault at h
    split at h
    · rename_i h1; exact absurd h1 h
    · split at h
      · simp at h
      · omega
theorem usedE_le (l : List Stored) : usedE l ≤ 12000 * l.length := by
  induction l with
  | nil => simp [usedE]
  | cons e l ih =>
    have := writeRes_le e.msg
    simp only [usedE, List.map_cons, List.sum_cons, List.length_cons, sizeE] at ih ⊢
    omega
def excessL (most : Limit) : List Stored → Limit → List Int
  | [], _ => []
  | e :: l, now => if withinB now.bytes now.messages most.bytes most.messages then [] else e.uid :: excessL most l ⟨now.bytes - sizeE e, now.messages - 1⟩
def excessS (m : Box) (most : Limit) : List Int × Fault :=
  if (boxFault m).code != 0 then ([], boxFault m) else if (limitFault most).code != 0 then ([], limitFault most) else (excessL most m.entries ⟨(usedE m.entries : Nat), (m.entries.length : Nat)⟩, ⟨0, 0⟩)
def fitsS (bs : List Box) (most : Limit) (x : Msg) : Bool × Fault :=
  if (listFault bs).code != 0 then (false, listFault bs) else if (limitFault most).code != 0 then (false, limitFault most) else
  if (msgFault x).code != 0 then (false, ⟨(msgFault x).code, -6⟩) else (withinB ((usedL bs).bytes + ((writeRes x).1.length : Nat)) ((usedL bs).messages + 1) most.bytes most.messages, ⟨0, 0⟩)
def usedS (bs : List Box) : Limit × Fault := if (listFault bs).code != 0 then (⟨0, 0⟩, listFault bs) else (usedL bs, ⟨0, 0⟩)
section
variable {n d : Nat} {cl : CallFn}
theorem headOk_of (m : Box) (h : ((boxFault m).code != 0) = false) : headOk m = true := by
  unfold boxFault at h
  split at h
  · simp at h
  · split at h
    · simp at h
    · split at h
      · assumption
      · simp at h
theorem k15 (m : Box) (c : Change) (hs : m.small) (hc : c.msg.sz ≤ 1000000000) (hd : 13 ≤ d) (hn : 1000000000000 ≤ n) : cz n (d + 2) 15 [m.sv, c.sv] [] = some (out (.tup [(applyV m c).1.cv, (applyV m c).2.cv])) := by
  refine run h15 true tab15 rfl ?_
  rw [w15]
  refine ⟨boxFault m, deep (d := 11) (by omega) (k54 (n := n) (d := 9) m hs (by omega) hn), fork_iff.2 ⟨fun h => ⟨trivial, ?_⟩, fun h => ?_⟩⟩
  · have hA : applyV m c = (zeroBox, boxFault m) := by simp only [applyV, h, if_true]
    rw [hA]; rfl
  · obtain ⟨⟨hu1, hu2⟩, ⟨hq1, hq2⟩, _, _⟩ := headOk_ok (headOk_of m h)
    refine ⟨_, _, deep (d := 13) (by omega) (k55 (n := n) (d := 11) m c hs hc ⟨by omega, by omega⟩ ⟨by omega, by omega⟩ (by omega) hn), trivial, ?_⟩
    have hA : applyV m c = applyS m c := by simp only [applyV, h, Bool.false_eq_true, if_false]
    rw [hA]
theorem k46 (l : Limit) : cz n (d + 2) 46 [l.sv] [] = some (out (limitFault l).sv) := by
  refine run h46 false tab46 rfl ?_
  rw [w46]
  refine fork_dec.2 ⟨fun h => ?_, fun h => fork_dec.2 ⟨fun h' => ?_, fun h' => fork_dec.2 ⟨fun h2 => ?_, fun h2 => fork_dec.2 ⟨fun h3 => ?_, fun h3 => ?_⟩⟩⟩⟩ <;> simp only [limitFault, *, true_or, or_true, if_true, or_false, if_false, or_self]
theorem at44 (bs : List Box) (hs : ∀ b, b ∈ bs → b.small) (hl : bs.length ≤ 1000) (hd : 11 ≤ d) (hn : 1000000000000 ≤ n) : ∀ (suf pre : List Box) (m : Nat), bs = pre ++ suf → suf.length < m →
    At S0 (mix D0 (cz n d)) n [0, 2, 10, 11, 12] c44l0 (C44_0 bs pre.length) m (match badB suf pre.length with
      | some f => .ret [((.s 0), (.sv (.c (.one (.own 1000000 5 0 (List.length (List.map Box.enc bs)) (List.length (List.map Box.enc bs))))))), ((.s 2), (.sv (.c (.one (.ptr 200 2 0))))), ((.a 1000000), (.arr 5 (List.map Box.enc bs))), ((.c 200 0), (.cell (.t (tI f.code)))), ((.c 200 1), (.cell (.t (tI f.index))))]
      | none => .exit 0 [((.s 0), (.sv (.c (.one (.own 1000000 5 0 (List.length (List.map Box.enc bs)) (List.length (List.map Box.enc bs))))))), ((.s 2), (.sv (.c (.one (.ptr 200 2 0))))), ((.a 1000000), (.arr 5 (List.map Box.enc bs))), ((.c 200 0), (.cell (.t (tI 0)))), ((.c 200 1), (.cell (.t (tI 0))))])
  | suf, pre, 0, _, hm => by omega
  | suf, pre, m + 1, he, hm => by
    refine At.step hb44_0 ?_
    rw [b44_0]
    have hlen : bs.length = pre.length + suf.length := by rw [he]; simp
    cases suf with
    | nil =>
      refine fork_dec.2 ⟨fun h => ?_, fun h => rfl⟩
      simp at hlen h; omega
    | cons x suf =>
      simp only [List.length_cons] at hlen hm
      refine fork_dec.2 ⟨fun _ => ⟨by omega, by rw [List.length_map]; omega, x, by rw [Nat.zero_add]; exact mget (by rw [he]; simp), boxFault x, deep hd (k54 (n := n) (d := 9) x (hs x (by rw [he]; simp)) (by omega) hn), fork_iff.2 ⟨fun hx => ?_, fun hx => ?_⟩⟩, fun h => ?_⟩
      · simp only [badB, hx, if_true]
      · simp only [badB, hx, if_false, Bool.false_eq_true]
        rw [wrap1 (by omega)]
        have := at44 bs hs hl hd hn suf (pre ++ [x]) m (by simp [he]) (by omega)
        simp only [List.length_append, List.length_cons, List.length_nil, Nat.zero_add] at this
        exact this
      · simp at h; omega
theorem k44 (bs : List Box) (hs : ∀ b, b ∈ bs → b.small) (hl : bs.length ≤ 1000) (hd : 11 ≤ d) (hn : 1000000000000 ≤ n) : cz n (d + 2) 44 [.c (.one (.own 1000000 5 0 (bs.map Box.enc).length (bs.map Box.enc).length))] [.arr 5 (bs.map Box.enc)] = some ((listFault bs).sv, [.keep], []) := by
  refine run (h44 bs) false tab44 rfl ?_
  rw [w44]
  refine fork_dec.2 ⟨fun h => ?_, fun h => ?_⟩
  · have h' : bs.length > 20 := by simp at h; omega
    simp only [listFault, if_pos h']
  · have h' : ¬ bs.length > 20 := by simp at h; omega
    have hA := at44 (n := n) (d := d + 1) bs hs hl (by omega) hn bs [] n rfl (by omega)
    simp only [listFault, if_neg h']
    simp only [List.length_nil] at hA
    cases hf : badB bs 0 with
    | some f => rw [hf] at hA; exact .inl ⟨f, hA, rfl⟩
    | none => rw [hf] at hA; exact .inr ⟨hA, rfl⟩
theorem at51_0 (bs : List Box) (i : Nat) (l : List Stored) (hs : ∀ e, e ∈ l → e.msg.sz ≤ 1000000000) (hd : 13 ≤ d) (hn : 1000000000000 ≤ n) : ∀ (suf pre : List Stored) (x y : Nat) (m : Nat), l = pre ++ suf → suf.length < m → l.length ≤ 10000000000 → x + 12000 * suf.length ≤ 1000000000000000000 → y + suf.length ≤ 1000000000000000000 →
    At S0 (mix D0 (cz n d)) n [2, 3, 8, 9, 10, 15, 16, 17] c51l0 (C51_0 bs i ⟨x, y⟩ l pre.length) m (.exit 2 (C51_1 bs i ⟨((x + usedE suf : Nat) : Int), ((y + suf.length : Nat) : Int)⟩))
  | suf, pre, x, y, 0, _, hm, _, _, _ => by omega
  | suf, pre, x, y, m + 1, he, hm, hl, hx, hy => by
    refine At.step hb51_0 ?_
    rw [b51_0]
    have hlen : l.length = pre.length + suf.length := by rw [he]; simp
    cases suf with
    | nil =>
      refine fork_dec.2 ⟨fun h => ?_, fun h => rfl⟩
      simp at hlen h; omega
    | cons e suf =>
      simp only [List.length_cons] at hlen hm hx hy
      have hsz := hs e (by rw [he]; simp)
      have hw := writeRes_le e.msg
      have hu := usedE_le suf
      refine fork_dec.2 ⟨fun _ => ⟨by omega, e, mget (by rw [he]; simp), ⟨_, _⟩, deep hd (k52 (n := n) (d := 11) e.msg (by omega) (by omega) hn), ?_⟩, fun h => ?_⟩
      · rw [wrap1 (by omega), wrapI (by simp only; omega) (by simp only; omega), wrapI (by simp only; omega) (by simp only; omega)]
        have := at51_0 bs i l hs hd hn suf (pre ++ [e]) (x + sizeE e) (y + 1) m (by simp [he]) (by omega) hl (by simp only [sizeE]; omega) (by omega)
        have e1 : x + sizeE e + usedE suf = x + usedE (e :: suf) := by simp only [usedE, List.map_cons, List.sum_cons]; omega
        have e2 : y + 1 + suf.length = y + (e :: suf).length := by simp only [List.length_cons]; omega
        rw [e1, e2] at this
        simp only [List.length_append, List.length_cons, List.length_nil, Nat.zero_add] at this ⊢
        exact this
      · simp at h; omega
theorem at51_1 (bs : List Box) (hs : ∀ b, b ∈ bs → b.small) (hd : 13 ≤ d) (hn : 1000000000000 ≤ n) (hl : bs.length ≤ 1000) : ∀ (suf pre : List Box) (x y : Nat) (m : Nat), bs = pre ++ suf → suf.length < m → x + 12000000000000 * suf.length ≤ 1000000000000000000 → y + 1000000000 * suf.length ≤ 1000000000000000000 →
    At S0 (mix D0 (cz n d)) n [2, 3, 8, 9, 10] c51l1 (C51_1 bs pre.length ⟨x, y⟩) m (.exit 0 [((.s 2), (.sv (.c (.one (.ptr 200 2 0))))), ((.s 3), (.sv (.c (.one (.ptr 300 2 0))))), ((.c 200 0), (.cell (.t (tI 0)))), ((.c 200 1), (.cell (.t (tI 0)))), ((.c 300 0), (.cell (.t (tI ((x + (suf.map fun b => usedE b.entries).sum : Nat) : Int))))), ((.c 300 1), (.cell (.t (tI ((y + (suf.map fun b => b.entries.length).sum : Nat) : Int)))))])
  | suf, pre, x, y, 0, _, hm, _, _ => by omega
  | suf, pre, x, y, m + 1, he, hm, hx, hy => by
    refine At.step (hb51_1 bs pre.length ⟨x, y⟩) ?_
    rw [b51_1]
    have hlen : bs.length = pre.length + suf.length := by rw [he]; simp
    cases suf with
    | nil =>
      refine fork_dec.2 ⟨fun h => ?_, fun h => rfl⟩
      simp at hlen h; omega
    | cons b suf =>
      simp only [List.length_cons] at hlen hm hx hy
      have hb := hs b (by rw [he]; simp)
      have hbe := hb.e
      have hu := usedE_le b.entries
      refine fork_dec.2 ⟨fun _ => ⟨by omega, by rw [List.length_map]; omega, b, by rw [Nat.zero_add]; exact mget (by rw [he]; simp), ⟨((x + usedE b.entries : Nat) : Int), ((y + b.entries.length : Nat) : Int)⟩, at51_0 (n := n) (d := d) bs pre.length b.entries hb.m hd hn b.entries [] x y n rfl (by omega) (by omega) (by omega) (by omega), ?_⟩, fun h => ?_⟩
      · rw [wrap1 (by omega)]
        have := at51_1 bs hs hd hn hl suf (pre ++ [b]) (x + usedE b.entries) (y + b.entries.length) m (by simp [he]) (by omega) (by omega) (by omega)
        have e1 : x + usedE b.entries + (suf.map fun b => usedE b.entries).sum = x + ((b :: suf).map fun b => usedE b.entries).sum := by simp only [List.map_cons, List.sum_cons]; omega
        have e2 : y + b.entries.length + (suf.map fun b => b.entries.length).sum = y + ((b :: suf).map fun b => b.entries.length).sum := by simp only [List.map_cons, List.sum_cons]; omega
        rw [e1, e2] at this
        simp only [List.length_append, List.length_cons, List.length_nil, Nat.zero_add] at this ⊢
        exact this
      · simp at h; omega
theorem k51 (bs : List Box) (hs : ∀ b, b ∈ bs → b.small) (hl : bs.length ≤ 1000) (hd : 13 ≤ d) (hn : 1000000000000 ≤ n) : cz n (d + 2) 51 [.c (.one (.own 1000000 5 0 (bs.map Box.enc).length (bs.map Box.enc).length))] [.arr 5 (bs.map Box.enc)] = some ((usedL bs).sv, [.gone], []) := by
  refine run (h51 bs) false tab51 rfl ?_
  rw [w51]
  have := at51_1 (n := n) (d := d + 1) bs hs (by omega) hn hl bs [] 0 0 n rfl (by omega) (by omega) (by omega)
  simp only [Nat.zero_add] at this
  exact ⟨usedL bs, this, rfl⟩
theorem usedL_le (bs : List Box) (hs : ∀ b, b ∈ bs → b.small) : (usedL bs).bytes ≤ 12000000000000 * bs.length ∧ (usedL bs).messages ≤ 1000000000 * bs.length ∧ 0 ≤ (usedL bs).bytes ∧ 0 ≤ (usedL bs).messages := by
  induction bs with
  | nil => simp [usedL]
  | cons b bs ih =>
    have h1 := ih fun x hx => hs x (List.mem_cons_of_mem _ hx)
    have h2 := (hs b List.mem_cons_self).e
    have h3 := usedE_le b.entries
    simp only [usedL, List.map_cons, List.sum_cons, List.length_cons] at h1 ⊢
    omega
theorem k14 (bs : List Box) (l : Limit) (x : Msg) (hs : ∀ b, b ∈ bs → b.small) (hl : bs.length ≤ 1000) (hx : x.sz ≤ 1000000000) (hd : 15 ≤ d) (hn : 1000000000000 ≤ n) : cz n (d + 2) 14 [.c (.one (.own 1000000 5 0 (bs.map Box.enc).length (bs.map Box.enc).length)), l.sv, x.sv] [.arr 5 (bs.map Box.enc)] = some (.tup [.one (.t (.bool (fitsS bs l x).1)), (fitsS bs l x).2.cv], [.gone], []) := by
  refine run h14 false tab14 rfl ?_
  rw [w14]
  have hu := usedL_le bs hs
  have hw := writeRes_le x
  refine ⟨_, deep (d := 13) (by omega) (k44 (n := n) (d := 11) bs hs hl (by omega) hn), fork_iff.2 ⟨fun h1 => ?_, fun h1 => ⟨_, deep (d := 2) (by omega) (k46 (n := n) (d := 0) l), fork_iff.2 ⟨fun h2 => ?_, fun h2 => ⟨_, deep (d := 9) (by omega) (k47 (n := n) (d := 7) x (by omega) (by omega) hn), fork_iff.2 ⟨fun h3 => ?_, fun h3 => ⟨_, deep (d := 15) (by omega) (k51 (n := n) (d := 13) bs hs hl (by omega) hn), ⟨_, _⟩, deep (d := 13) (by omega) (k52 (n := n) (d := 11) x (by omega) (by omega) hn), ?_⟩⟩⟩⟩⟩⟩⟩
  · simp only [fitsS, h1, if_true]
  · simp only [fitsS, h1, h2, if_true, Bool.false_eq_true, if_false]
  · simp only [fitsS, h1, h2, h3, if_true, Bool.false_eq_true, if_false]
  · rw [wrapI (by simp only; omega) (by simp only; omega), wrapI (by simp only; omega) (by simp only; omega)]
    refine fork_iff.2 ⟨fun h4 => ?_, fun h4 => ?_⟩
    · simp only [fitsS, h1, h2, h3, h4, Bool.false_eq_true, if_false]
    · simp only [fitsS, h1, h2, h3, h4, Bool.false_eq_true, if_false]
theorem k16 (bs : List Box) (hs : ∀ b, b ∈ bs → b.small) (hl : bs.length ≤ 1000) (hd : 15 ≤ d) (hn : 1000000000000 ≤ n) : cz n (d + 2) 16 [.c (.one (.own 1000000 5 0 (bs.map Box.enc).length (bs.map Box.enc).length))] [.arr 5 (bs.map Box.enc)] = some (.tup [(usedS bs).1.cv, (usedS bs).2.cv], [.gone], []) := by
  refine run h16 false tab16 rfl ?_
  rw [w16]
  refine ⟨_, deep (d := 13) (by omega) (k44 (n := n) (d := 11) bs hs hl (by omega) hn), fork_iff.2 ⟨fun h1 => ?_, fun h1 => ⟨_, deep (d := 15) (by omega) (k51 (n := n) (d := 13) bs hs hl (by omega) hn), ?_⟩⟩⟩
  · simp only [usedS, h1, if_true]
  · simp only [usedS, h1, Bool.false_eq_true, if_false]
end
end Go.Ev

namespace Go.Ev
open Go.Proofs.Ytbempckmbfbjgaa.Code
set_option maxRecDepth 100000
section
variable {n d : Nat} {cl : CallFn}
theorem at17 (l : Limit) (es : List Stored) (hs : ∀ e, e ∈ es → e.msg.sz ≤ 1000000000) (hd : 13 ≤ d) (hn : 1000000000000 ≤ n) (hl : es.length ≤ 10000000000) : ∀ (suf pre : List Stored) (acc : List Int) (m : Nat), es = pre ++ suf → suf.length < m → acc.length ≤ pre.length →
    At S0 (mix D0 (cz n d)) n [3, 5, 8, 9, 27, 28, 29] c17l0 (C17_0 l ⟨(usedE suf : Nat), (suf.length : Nat)⟩ es acc pre.length) m (.exit 0 [((.s 5), (.sv (.c (.one (.ptr 500 2 0))))), ((.s 9), (.sv (.c (.one (.own 900 1 0 (List.length (List.map intE (acc ++ excessL l suf ⟨(usedE suf : Nat), (suf.length : Nat)⟩))) (List.length (List.map intE (acc ++ excessL l suf ⟨(usedE suf : Nat), (suf.length : Nat)⟩)))))))), ((.c 500 0), (.cell (.t (tI 0)))), ((.c 500 1), (.cell (.t (tI 0)))), ((.a 900), (.arr 1 (List.map intE (acc ++ excessL l suf ⟨(usedE suf : Nat), (suf.length : Nat)⟩))))])
  | suf, pre, acc, 0, _, hm, _ => by omega
  | suf, pre, acc, m + 1, he, hm, ha => by
    refine At.step hb17_0 ?_
    rw [b17_0]
    have hlen : es.length = pre.length + suf.length := by rw [he]; simp
    cases suf with
    | nil =>
      refine fork_dec.2 ⟨fun h => ?_, fun h => ?_⟩
      · simp at hlen h; omega
      · simp only [excessL, List.append_nil]
    | cons e suf =>
      simp only [List.length_cons] at hlen hm
      have hsz := hs e (by rw [he]; simp)
      have hw := writeRes_le e.msg
      have hu := usedE_le (e :: suf)
      have hue : usedE (e :: suf) = sizeE e + usedE suf := by simp only [usedE, List.map_cons, List.sum_cons]
      have hse : sizeE e = (writeRes e.msg).1.length := rfl
      have hac : (List.map intE acc ++ [[tI e.uid]]) = List.map intE (acc ++ [e.uid]) := by simp
      have hal : (List.map intE (acc ++ [e.uid])).length = acc.length + 1 := by simp
      simp only [List.length_cons] at hu
      have hl2 : (e :: suf).length = suf.length + 1 := rfl
      refine fork_dec.2 ⟨fun _ => ⟨by omega, e, mget (by rw [he]; simp), fork_iff.2 ⟨fun hx => ?_, fun hx => ⟨⟨_, _⟩, deep hd (k52 (n := n) (d := 11) e.msg (by omega) (by omega) hn), by simp, zle, dtrue, ⟨by rw [hac]; omega, by rw [hac]; omega⟩, rfl, ?_⟩⟩⟩, fun h => ?_⟩
      · simp only [excessL, hx, if_true, List.append_nil]
      · rw [hac, wrap1 (by omega), wrapI (x := 0 - _) (by simp only; omega) (by simp only; omega), wrapI (by simp only; omega) (by simp only; omega), wrapI (x := 0 - _) (by simp only; omega) (by simp only; omega), wrapI (by simp only; omega) (by simp only; omega)]
        have := at17 l es hs hd hn hl suf (pre ++ [e]) (acc ++ [e.uid]) m (by simp [he]) (by omega) (by simp; omega)
        have e1 : ((usedE (e :: suf) : Nat) : Int) + (0 - (((writeRes e.msg).1.length : Nat) : Int)) = ((usedE suf : Nat) : Int) := by omega
        have e2 : (((e :: suf).length : Nat) : Int) + (0 - 1) = ((suf.length : Nat) : Int) := by simp only [List.length_cons]; omega
        have e3 : excessL l (e :: suf) ⟨(usedE (e :: suf) : Nat), ((e :: suf).length : Nat)⟩ = e.uid :: excessL l suf ⟨(usedE suf : Nat), (suf.length : Nat)⟩ := by
          simp only [excessL, hx, Bool.false_eq_true, if_false]
          have f1 : ((usedE (e :: suf) : Nat) : Int) - ((sizeE e : Nat) : Int) = ((usedE suf : Nat) : Int) := by omega
          have f2 : (((e :: suf).length : Nat) : Int) - 1 = ((suf.length : Nat) : Int) := by simp only [List.length_cons]; omega
          rw [f1, f2]
        rw [e1, e2, e3]
        have e4 : acc ++ e.uid :: excessL l suf ⟨(usedE suf : Nat), (suf.length : Nat)⟩ = acc ++ [e.uid] ++ excessL l suf ⟨(usedE suf : Nat), (suf.length : Nat)⟩ := by simp
        rw [e4]
        simp only [List.length_append, List.length_cons, List.length_nil, Nat.zero_add] at this ⊢
        exact this
      · simp at h; omega
theorem k17 (m : Box) (l : Limit) (hs : m.small) (hd : 15 ≤ d) (hn : 1000000000000 ≤ n) : cz n (d + 2) 17 [m.sv, l.sv] [] = some (out (.tup [.one (.t (.sl 1 ((excessS m l).1.map intE))), (excessS m l).2.cv])) := by
  refine run (h17 m l) true tab17 rfl ?_
  rw [w17]
  have hes := hs.e
  refine ⟨_, deep (d := 11) (by omega) (k54 (n := n) (d := 9) m hs (by omega) hn), fork_iff.2 ⟨fun h1 => ⟨trivial, ?_⟩, fun h1 => ⟨_, deep (d := 2) (by omega) (k46 (n := n) (d := 0) l), fork_iff.2 ⟨fun h2 => ⟨trivial, ?_⟩, fun h2 => ⟨_, deep (d := 15) (by omega) (k51 (n := n) (d := 13) [m] (fun b hb => by rw [List.mem_singleton.1 hb]; exact hs) (by simp) (by omega) hn), excessL l m.entries ⟨(usedE m.entries : Nat), (m.entries.length : Nat)⟩, ?_, ⟨zle, trivial⟩, ?_⟩⟩⟩⟩⟩
  · have hA : excessS m l = ([], boxFault m) := by simp only [excessS, h1, if_true]
    rw [hA]; rfl
  · have hA : excessS m l = ([], limitFault l) := by simp only [excessS, h1, h2, if_true, Bool.false_eq_true, if_false]
    rw [hA]; rfl
  · have := at17 (n := n) (d := d + 1) l m.entries hs.m (by omega) hn (by omega) m.entries [] [] n rfl (by omega) (by simp)
    rw [List.nil_append] at this
    have e1 : usedL [m] = ⟨(usedE m.entries : Nat), (m.entries.length : Nat)⟩ := by simp [usedL]
    rw [e1]
    exact this
  · have hA : excessS m l = (excessL l m.entries ⟨(usedE m.entries : Nat), (m.entries.length : Nat)⟩, ⟨0, 0⟩) := by simp only [excessS, h1, h2, Bool.false_eq_true, if_false]
    rw [hA, List.drop_zero, List.take_length]
end
end Go.Ev

namespace Go.Ev
structure Valid (m : Box) : Prop where
  le : m.entries.length ≤ 200
  lg : m.gone.length ≤ 400
  h : headOk m = true
  eo : ∀ e, e ∈ m.entries → entryOk m e = true ∧ (msgFault e.msg).code = 0
  es : m.entries.Pairwise fun a b => a.uid < b.uid
  go : ∀ g, g ∈ m.gone → (inB g.uid 1 (m.nextUid - 1) && inB g.seq (m.horizon + 1) (m.nextSeq - 1)) = true
  gs : m.gone.Pairwise fun a b => a.seq < b.seq
  gu : m.gone.Pairwise fun a b => a.uid ≠ b.uid
  gn : ∀ g, g ∈ m.gone → ∀ e, e ∈ m.entries → e.uid ≠ g.uid
theorem badE_iff (m : Box) : ∀ (suf pre : List Stored), badE m pre suf = none ↔ (∀ e, e ∈ suf → entryOk m e = true ∧ (msgFault e.msg).code = 0) ∧ (suf.Pairwise fun a b => a.uid < b.uid) ∧ ∀ y, pre.getLast? = some y → ∀ e, e ∈ suf → y.uid < e.uid
  | [], pre => by simp [badE]
  | e :: l, pre => by
    have ih := badE_iff m l (pre ++ [e])
    rw [List.getLast?_concat] at ih
    constructor
    · intro h
      simp only [badE] at h
      split at h
      · rename_i h1
        split at h
        · cases h
        · rename_i h2
          split at h
          · cases h
          · rename_i h3
            obtain ⟨i1, i2, i3⟩ := ih.1 h
            have i3 := i3 e rfl
            have h3' : (msgFault e.msg).code = 0 := by simpa using h3
            refine ⟨fun x hx => ?_, List.pairwise_cons.2 ⟨i3, i2⟩, fun y hy x hx => ?_⟩
            · rcases List.mem_cons.1 hx with rfl | hx
              · exact ⟨h1, h3'⟩
              · exact i1 x hx
            · have hye : y.uid < e.uid := by
                simp only [geLast, hy, decide_eq_true_eq] at h2
                omega
              rcases List.mem_cons.1 hx with rfl | hx
              · exact hye
              · have := i3 x hx; omega
      · cases h
    · rintro ⟨h1, h2, h3⟩
      obtain ⟨h4, h5⟩ := List.pairwise_cons.1 h2
      obtain ⟨h6, h7⟩ := h1 e List.mem_cons_self
      have hg : geLast pre e.uid = false := by
        unfold geLast
        split
        · rename_i y hy
          have := h3 y hy e List.mem_cons_self
          exact decide_eq_false (by omega)
        · rfl
      have hc : ((msgFault e.msg).code != 0) = false := by simp [h7]
      simp only [badE, h6, hg, hc, if_true, Bool.false_eq_true, if_false]
      exact ih.2 ⟨fun x hx => h1 x (List.mem_cons_of_mem _ hx), h5, fun y hy x hx => by injection hy with hy; subst hy; exact h4 x hx⟩
theorem badG_iff (m : Box) : ∀ (r k : Nat), badG m r k = none ↔ ∀ j, k ≤ j → j < k + r → removedS m j = 0
  | 0, k => by
    constructor
    · intro _ j h1 h2; omega
    · intro _; rfl
  | r + 1, k => by
    have ih := badG_iff m r (k + 1)
    simp only [badG]
    constructor
    · intro h j h1 h2
      split at h
      · cases h
      · rename_i h3
        have h3' : removedS m k = 0 := by simpa using h3
        by_cases hj : j = k
        · subst hj; exact h3'
        · exact ih.1 h j (by omega) (by omega)
    · intro h
      have h3 : (removedS m k != 0) = false := by simp [h k (Nat.le_refl _) (by omega)]
      simp only [h3, Bool.false_eq_true, if_false]
      exact ih.2 fun j h1 h2 => h j (by omega) (by omega)
theorem idxL_none_iff {α : Type} {p : α → Bool} {l : List α} {i : Nat} : idxL p l i < 0 ↔ ∀ x, x ∈ l → p x = false := by
  have h := idxL_ge (p := p) (l := l) (i := i)
  constructor
  · intro hn x hx
    have : l.any p = false := by rw [← h]; exact decide_eq_false (by omega)
    rw [List.any_eq_false] at this
    simpa using this x hx
  · intro hn
    have : l.any p = false := by rw [List.any_eq_false]; intro x hx; rw [hn x hx]; simp
    rw [this] at h
    have := of_decide_eq_false h
    omega
theorem findS_neg {m : Box} {u : Int} : findS m u < 0 ↔ ∀ e, e ∈ m.entries → e.uid ≠ u := by
  unfold findS
  rw [idxL_none_iff]
  constructor <;> intro h e he
  · simpa using h e he
  · simpa using h e he
theorem removed_zero (m : Box) (k : Nat) (g : GoneE) (hg : m.gone[k]? = some g) : removedS m k = 0 ↔ (inB g.uid 1 (m.nextUid - 1) && inB g.seq (m.horizon + 1) (m.nextSeq - 1)) = true ∧ (∀ g', 0 < k → m.gone[k - 1]? = some g' → g'.seq < g.seq) ∧ (∀ x, x ∈ m.gone.take k → x.uid ≠ g.uid) ∧ ∀ e, e ∈ m.entries → e.uid ≠ g.uid := by
  simp only [removedS, hg]
  constructor
  · intro h
    split at h
    · rename_i h1
      split at h
      · cases h
      · rename_i h2
        split at h
        · cases h
        · rename_i h3
          simp only [Bool.or_eq_true, not_or, Bool.not_eq_true, List.any_eq_false, decide_eq_false_iff_not] at h3
          refine ⟨h1, fun g' hk hg' => ?_, fun x hx => by simpa using h3.1 x hx, findS_neg.1 (by omega)⟩
          simp only [prevLe, hg', hk, decide_true, Bool.true_and, decide_eq_true_eq, gt_iff_lt] at h2
          omega
    · cases h
  · rintro ⟨h1, h2, h3, h4⟩
    have e2 : prevLe k g m.gone = false := by
      unfold prevLe
      by_cases hk : k > 0
      · simp only [hk, decide_true, Bool.true_and]
        split
        · rename_i g' hg'
          exact decide_eq_false (by have := h2 g' hk hg'; omega)
        · rfl
      · simp [hk]
    have e3 : (m.gone.take k).any (fun x => x.uid == g.uid) = false := by
      rw [List.any_eq_false]
      intro x hx
      simpa using h3 x hx
    have e4 : decide (findS m g.uid ≥ 0) = false := decide_eq_false (by have := findS_neg.2 h4; omega)
    rw [if_pos h1, e2, e3, e4]
    rfl
theorem pairwise_step {α : Type} {f : α → Int} {l : List α} (h : ∀ k x y, 0 < k → l[k - 1]? = some x → l[k]? = some y → f x < f y) : l.Pairwise fun a b => f a < f b := by
  have key : ∀ (d i : Nat) x y, l[i]? = some x → l[i + d + 1]? = some y → f x < f y := by
    intro d
    induction d with
    | zero => intro i x y hx hy; exact h (i + 1) x y (by omega) (by simpa using hx) hy
    | succ d ih =>
      intro i x y hx hy
      have hlt : i + d + 1 < l.length := by have := (List.getElem?_eq_some_iff.1 hy).1; omega
      have h1 := ih i x _ hx (List.getElem?_eq_getElem hlt)
      have h2 := h (i + (d + 1) + 1) _ y (by omega) (by rw [show i + (d + 1) + 1 - 1 = i + d + 1 from by omega]; exact List.getElem?_eq_getElem hlt) hy
      omega
  rw [List.pairwise_iff_getElem]
  intro i j hi hj hij
  obtain ⟨d, rfl⟩ : ∃ d, j = i + d + 1 := ⟨j - i - 1, by omega⟩
  exact key d i _ _ (List.getElem?_eq_getElem hi) (List.getElem?_eq_getElem hj)
theorem boxFault_valid (m : Box) : ((boxFault m).code != 0) = false ↔ Valid m := by
  have h0 : ((boxFault m).code != 0) = false ↔ m.entries.length ≤ 200 ∧ m.gone.length ≤ 400 ∧ headOk m = true ∧ badE m [] m.entries = none ∧ badG m m.gone.length 0 = none := by
    unfold boxFault
    constructor
    · intro h
      split at h
      · simp at h
      · split at h
        · simp at h
        · split at h
          · split at h
            · rename_i f hf
              exfalso
              have : ∀ (suf pre : List Stored) f, badE m pre suf = some f → f.code ≠ 0 := by
                intro suf
                induction suf with
                | nil => intro pre f h; cases h
                | cons e l ih =>
                  intro pre f h
                  simp only [badE] at h
                  split at h
                  · split at h
                    · injection h with h; subst h; exact (by decide : (19 : Int) ≠ 0)
                    · split at h
                      · rename_i h3; injection h with h; subst h; simpa using h3
                      · exact ih _ _ h
                  · injection h with h; subst h; exact (by decide : (3 : Int) ≠ 0)
              have := this _ _ _ hf
              simp at h
              exact this h
            · split at h
              · rename_i f hf
                exfalso
                have : ∀ (r k : Nat) f, badG m r k = some f → f.code ≠ 0 := by
                  intro r
                  induction r with
                  | zero => intro k f h; cases h
                  | succ r ih =>
                    intro k f h
                    simp only [badG] at h
                    split at h
                    · rename_i h3; injection h with h; subst h; simpa using h3
                    · exact ih _ _ h
                have := this _ _ _ hf
                simp at h
                exact this h
              · rename_i h1 h2 h3 _ h4 _ h5
                exact ⟨by omega, by omega, h3, h4, h5⟩
          · simp at h
    · rintro ⟨h1, h2, h3, h4, h5⟩
      rw [if_neg (by omega), if_neg (by omega), if_pos h3, h4, h5]
      rfl
  rw [h0]
  constructor
  · rintro ⟨h1, h2, h3, h4, h5⟩
    obtain ⟨i1, i2, _⟩ := (badE_iff m m.entries []).1 h4
    have h6 := (badG_iff m m.gone.length 0).1 h5
    have h7 : ∀ k g, m.gone[k]? = some g → _ := fun k g hg => (removed_zero m k g hg).1 (h6 k (Nat.zero_le _) (by have := (List.getElem?_eq_some_iff.1 hg).1; omega))
    refine ⟨h1, h2, h3, i1, i2, fun g hg => ?_, pairwise_step fun k x y hk hx hy => (h7 k y hy).2.1 x hk hx, ?_, fun g hg => ?_⟩
    · obtain ⟨k, hk⟩ := List.getElem?_of_mem hg
      exact (h7 k g hk).1
    · rw [List.pairwise_iff_getElem]
      intro i j hi hj hij
      exact (h7 j _ (List.getElem?_eq_getElem hj)).2.2.1 _ (List.mem_take_iff_getElem.2 ⟨i, by omega, rfl⟩)
    · obtain ⟨k, hk⟩ := List.getElem?_of_mem hg
      exact (h7 k g hk).2.2.2
  · intro h
    refine ⟨h.le, h.lg, h.h, (badE_iff m m.entries []).2 ⟨h.eo, h.es, fun y hy => by simp at hy⟩, (badG_iff m m.gone.length 0).2 fun j _ hj => ?_⟩
    have hj' : j < m.gone.length := by omega
    have hg := List.getElem?_eq_getElem hj'
    refine (removed_zero m j _ hg).2 ⟨h.go _ (List.getElem_mem hj'), fun g' hk hg' => ?_, fun x hx => ?_, h.gn _ (List.getElem_mem hj')⟩
    · have hlt : j - 1 < m.gone.length := by omega
      rw [List.getElem?_eq_getElem hlt] at hg'
      injection hg' with hg'
      subst hg'
      exact List.pairwise_iff_getElem.1 h.gs (j - 1) j hlt hj' (by omega)
    · obtain ⟨i, hi, rfl⟩ := List.mem_take_iff_getElem.1 hx
      exact List.pairwise_iff_getElem.1 h.gu i j (by omega) hj' (by omega)
theorem boxFault_zero {m : Box} (h : Valid m) : boxFault m = ⟨0, 0⟩ := by
  have h1 := (badE_iff m m.entries []).2 ⟨h.eo, h.es, fun y hy => by simp at hy⟩
  have h0 := (boxFault_valid m).2 h
  have hle := h.le
  have hlg := h.lg
  unfold boxFault at h0 ⊢
  rw [if_neg (by omega), if_neg (by omega), if_pos h.h, h1] at h0 ⊢
  simp only at h0 ⊢
  split at h0
  · rename_i f hf
    exfalso
    have : ∀ (r k : Nat) f, badG m r k = some f → f.code ≠ 0 := by
      intro r
      induction r with
      | zero => intro k f h; cases h
      | succ r ih =>
        intro k f h
        simp only [badG] at h
        split at h
        · rename_i h3; injection h with h; subst h; simpa using h3
        · exact ih _ _ h
    have := this _ _ _ hf
    simp at h0
    exact this h0
  · rfl
end Go.Ev

namespace Go.Ev
theorem inB_iff {n lo hi : Int} : inB n lo hi = true ↔ lo ≤ n ∧ n ≤ hi := by simp [inB]
theorem entryOk_iff {m : Box} {e : Stored} : entryOk m e = true ↔ (1 ≤ e.uid ∧ e.uid ≤ m.nextUid - 1) ∧ (1 ≤ e.seq ∧ e.seq ≤ m.nextSeq - 1) ∧ (0 ≤ e.flags ∧ e.flags ≤ 63) ∧ (-68719476736 ≤ e.at_ ∧ e.at_ ≤ 68719476736) := by
  simp only [entryOk, Bool.and_eq_true, inB_iff]
theorem headOk_iff {m : Box} : headOk m = true ↔ (1 ≤ m.nextUid ∧ m.nextUid ≤ 1000000) ∧ (1 ≤ m.nextSeq ∧ m.nextSeq ≤ 1000000) ∧ (0 ≤ m.horizon ∧ m.horizon ≤ m.nextSeq - 1) := by
  simp only [headOk, Bool.and_eq_true, inB_iff]
theorem Valid.go' {m : Box} (h : Valid m) {g : GoneE} (hg : g ∈ m.gone) : (1 ≤ g.uid ∧ g.uid ≤ m.nextUid - 1) ∧ (m.horizon + 1 ≤ g.seq ∧ g.seq ≤ m.nextSeq - 1) := by
  have := h.go g hg
  simpa only [Bool.and_eq_true, inB_iff] using this
theorem tail_ok {c : Change} (h : ((tailFault c).code != 0) = false) : (0 ≤ c.set ∧ c.set ≤ 63) ∧ (0 ≤ c.clear ∧ c.clear ≤ 63) ∧ (-68719476736 ≤ c.at_ ∧ c.at_ ≤ 68719476736) ∧ ((c.kind == 1) = true → (msgFault c.msg).code = 0) := by
  unfold tailFault at h
  split at h
  · rename_i h1
    simp only [Bool.and_eq_true, inB_iff] at h1
    refine ⟨h1.1, h1.2.1, h1.2.2, fun hk => ?_⟩
    rw [if_pos hk] at h
    split at h
    · rename_i h2
      exact absurd h2 (by rw [h]; simp)
    · rename_i h2
      simpa using h2
  · simp at h
theorem change_ok {c : Change} (h : ((changeFault c).code != 0) = false) : (0 ≤ c.set ∧ c.set ≤ 63) ∧ (0 ≤ c.clear ∧ c.clear ≤ 63) ∧ (-68719476736 ≤ c.at_ ∧ c.at_ ≤ 68719476736) ∧ ((c.kind == 1) = true → (msgFault c.msg).code = 0) := by
  unfold changeFault at h
  split at h
  · split at h
    · simp at h
    · split at h
      · simp at h
      · exact tail_ok h
  · split at h
    · split at h
      · simp at h
      · split at h
        · simp at h
        · exact tail_ok h
    · split at h
      · split at h
        · simp at h
        · split at h
          · simp at h
          · split at h
            · simp at h
            · exact tail_ok h
      · simp at h
theorem Valid.added {m : Box} {c : Change} (h : Valid m) (hc : ((changeFault c).code != 0) = false) (hk : (c.kind == 1) = true) (h1 : (m.nextSeq == 1000000) = false) (h2 : (m.nextUid == 1000000) = false) (h3 : (m.entries.length == 200) = false) : Valid (added m c) := by
  obtain ⟨c1, c2, c3, c4⟩ := change_ok hc
  have hh := headOk_iff.1 h.h
  have h1' : m.nextSeq ≠ 1000000 := by simpa using h1
  have h2' : m.nextUid ≠ 1000000 := by simpa using h2
  have h3' : m.entries.length ≠ 200 := by simpa using h3
  have hle := h.le
  refine ⟨by simp [Ev.added]; omega, h.lg, headOk_iff.2 (by simp only [Ev.added]; omega), fun e he => ?_, ?_, fun g hg => ?_, h.gs, h.gu, fun g hg e he => ?_⟩
  · simp only [Ev.added, List.mem_append, List.mem_singleton] at he
    rcases he with he | rfl
    · obtain ⟨h4, h5⟩ := h.eo e he
      refine ⟨entryOk_iff.2 ?_, h5⟩
      have := entryOk_iff.1 h4
      simp only [Ev.added]
      omega
    · exact ⟨entryOk_iff.2 (by simp only [Ev.added]; omega), c4 hk⟩
  · simp only [Ev.added]
    refine List.pairwise_append.2 ⟨h.es, List.pairwise_singleton _ _, fun a ha b hb => ?_⟩
    rw [List.mem_singleton] at hb
    subst hb
    have := entryOk_iff.1 (h.eo a ha).1
    simp only
    omega
  · have := h.go' hg
    simp only [Ev.added, Bool.and_eq_true, inB_iff]
    omega
  · simp only [Ev.added, List.mem_append, List.mem_singleton] at he
    rcases he with he | rfl
    · exact h.gn g hg e he
    · have := h.go' (g := g) hg
      simp only
      omega
theorem flagsI_ok {a b c : Int} (ha : 0 ≤ a ∧ a ≤ 63) (hb : 0 ≤ b ∧ b ≤ 63) : 0 ≤ flagsI a b c ∧ flagsI a b c ≤ 63 := by
  have l1 : ∀ x : Int, 0 ≤ x ∧ x ≤ 63 → (BitVec.ofInt 64 x).toNat < 2 ^ 6 := by
    intro x hx
    rw [BitVec.toNat_ofInt]
    omega
  have h1 : ((BitVec.ofInt 64 a) &&& (~~~(BitVec.ofInt 64 c))).toNat < 2 ^ 6 := by
    rw [BitVec.toNat_and]
    exact Nat.lt_of_le_of_lt Nat.and_le_left (l1 a ha)
  have h2 : IntKind.wrap .i64 (((BitVec.toNat ((BitVec.ofInt 64 a) &&& (~~~(BitVec.ofInt 64 c)))) : Nat) : Int) = (((BitVec.toNat ((BitVec.ofInt 64 a) &&& (~~~(BitVec.ofInt 64 c)))) : Nat) : Int) := wrapI (by omega) (by omega)
  have h3 : (BitVec.ofInt 64 (((BitVec.toNat ((BitVec.ofInt 64 a) &&& (~~~(BitVec.ofInt 64 c)))) : Nat) : Int)).toNat < 2 ^ 6 := l1 _ (by omega)
  unfold flagsI
  rw [h2]
  have h4 : ((BitVec.ofInt 64 (((BitVec.toNat ((BitVec.ofInt 64 a) &&& (~~~(BitVec.ofInt 64 c)))) : Nat) : Int)) ||| (BitVec.ofInt 64 b)).toNat < 2 ^ 6 := by
    rw [BitVec.toNat_or]
    exact Nat.or_lt_two_pow h3 (l1 b hb)
  rw [wrapI (by omega) (by omega)]
  omega
theorem mem_set {α : Type} {l : List α} {i : Nat} {x y : α} (h : y ∈ l.set i x) : y = x ∨ y ∈ l := by
  obtain ⟨j, hj⟩ := List.getElem?_of_mem h
  rw [List.getElem?_set] at hj
  split at hj
  · split at hj
    · injection hj with hj; exact .inl hj.symm
    · cases hj
  · exact .inr (List.mem_of_getElem? hj)
theorem pairwise_set {l : List Stored} {i : Nat} {e e' : Stored} (h : l.Pairwise fun a b => a.uid < b.uid) (he : l[i]? = some e) (hu : e'.uid = e.uid) : (l.set i e').Pairwise fun a b => a.uid < b.uid := by
  rw [List.pairwise_iff_getElem] at h ⊢
  have hi : i < l.length := (List.getElem?_eq_some_iff.1 he).1
  have he' : l[i] = e := (List.getElem?_eq_some_iff.1 he).2
  intro j k hj hk hjk
  rw [List.length_set] at hj hk
  have h0 := h j k hj hk hjk
  rw [List.getElem_set, List.getElem_set]
  split
  · rename_i h1
    subst h1
    rw [if_neg (by omega), hu, ← he']
    exact h0
  · split
    · rename_i h2
      subst h2
      rw [hu, ← he']
      exact h0
    · exact h0
theorem Valid.flagged {m : Box} {c : Change} {i : Nat} {e : Stored} (h : Valid m) (hc : ((changeFault c).code != 0) = false) (he : m.entries[i]? = some e) (h1 : (m.nextSeq == 1000000) = false) : Valid (flagged m c i e) := by
  obtain ⟨c1, c2, c3, c4⟩ := change_ok hc
  have hh := headOk_iff.1 h.h
  have h1' : m.nextSeq ≠ 1000000 := by simpa using h1
  have hem := List.mem_of_getElem? he
  have heo := entryOk_iff.1 (h.eo e hem).1
  unfold Ev.flagged
  split
  · have hf := flagsI_ok (c := c.clear) heo.2.2.1 c1
    refine ⟨by rw [List.length_set]; exact h.le, h.lg, headOk_iff.2 (by simp only; omega), fun x hx => ?_, pairwise_set h.es he rfl, fun g hg => ?_, h.gs, h.gu, fun g hg x hx => ?_⟩
    · rcases mem_set hx with rfl | hx
      · exact ⟨entryOk_iff.2 (by simp only; omega), (h.eo e hem).2⟩
      · obtain ⟨h4, h5⟩ := h.eo x hx
        have := entryOk_iff.1 h4
        exact ⟨entryOk_iff.2 (by simp only; omega), h5⟩
    · have := h.go' hg
      simp only [Bool.and_eq_true, inB_iff]
      omega
    · rcases mem_set hx with rfl | hx
      · exact h.gn g hg e hem
      · exact h.gn g hg x hx
  · exact h
theorem erase_ne {l : List Stored} {i : Nat} {e x : Stored} (h : l.Pairwise fun a b => a.uid < b.uid) (he : l[i]? = some e) (hx : x ∈ l.eraseIdx i) : x.uid ≠ e.uid := by
  rw [List.mem_eraseIdx_iff_getElem] at hx
  obtain ⟨j, hj, hji, rfl⟩ := hx
  obtain ⟨hi, rfl⟩ := List.getElem?_eq_some_iff.1 he
  rw [List.pairwise_iff_getElem] at h
  rcases Nat.lt_or_gt_of_ne hji with hlt | hgt
  · have := h j i hj hi hlt; omega
  · have := h i j hi hj hgt; omega
theorem Valid.removed {m : Box} {i : Nat} {e : Stored} (h : Valid m) (he : m.entries[i]? = some e) (h1 : (m.nextSeq == 1000000) = false) : Valid (removedBox m i e) := by
  have hh := headOk_iff.1 h.h
  have h1' : m.nextSeq ≠ 1000000 := by simpa using h1
  have hem := List.mem_of_getElem? he
  have heo := entryOk_iff.1 (h.eo e hem).1
  have hsub := List.eraseIdx_sublist m.entries i
  have hlg := h.lg
  -- the removals with one more
  have g1 : ∀ g, g ∈ m.gone ++ [(⟨e.uid, m.nextSeq⟩ : GoneE)] → (1 ≤ g.uid ∧ g.uid ≤ m.nextUid - 1) ∧ (m.horizon + 1 ≤ g.seq ∧ g.seq ≤ m.nextSeq) ∧ ∀ x, x ∈ m.entries.eraseIdx i → x.uid ≠ g.uid := by
    intro g hg
    rw [List.mem_append, List.mem_singleton] at hg
    rcases hg with hg | rfl
    · have := h.go' hg
      exact ⟨this.1, by omega, fun x hx => h.gn g hg x (hsub.subset hx)⟩
    · exact ⟨by simp only; omega, by simp only; omega, fun x hx => erase_ne h.es he hx⟩
  have g2 : (m.gone ++ [(⟨e.uid, m.nextSeq⟩ : GoneE)]).Pairwise fun a b => a.seq < b.seq := by
    refine List.pairwise_append.2 ⟨h.gs, List.pairwise_singleton _ _, fun a ha b hb => ?_⟩
    rw [List.mem_singleton] at hb
    subst hb
    have := h.go' ha
    simp only
    omega
  have g3 : (m.gone ++ [(⟨e.uid, m.nextSeq⟩ : GoneE)]).Pairwise fun a b => a.uid ≠ b.uid := by
    refine List.pairwise_append.2 ⟨h.gu, List.pairwise_singleton _ _, fun a ha b hb => ?_⟩
    rw [List.mem_singleton] at hb
    subst hb
    exact fun hq => h.gn a ha e hem hq.symm
  have ee : ∀ x, x ∈ m.entries.eraseIdx i → (1 ≤ x.uid ∧ x.uid ≤ m.nextUid - 1) ∧ (1 ≤ x.seq ∧ x.seq ≤ m.nextSeq) ∧ (0 ≤ x.flags ∧ x.flags ≤ 63) ∧ (-68719476736 ≤ x.at_ ∧ x.at_ ≤ 68719476736) ∧ (msgFault x.msg).code = 0 := by
    intro x hx
    obtain ⟨h4, h5⟩ := h.eo x (hsub.subset hx)
    have := entryOk_iff.1 h4
    exact ⟨by omega, by omega, by omega, by omega, h5⟩
  have le : (m.entries.eraseIdx i).length ≤ 200 := Nat.le_trans hsub.length_le h.le
  unfold removedBox goneTo horizonTo
  split
  · rename_i h4
    cases hgn : m.gone ++ [(⟨e.uid, m.nextSeq⟩ : GoneE)] with
    | nil => simp at hgn
    | cons g0 gs =>
      rw [hgn] at g1 g2 g3
      obtain ⟨p1, p2⟩ := List.pairwise_cons.1 g2
      have q0 := g1 g0 List.mem_cons_self
      have hl : gs.length = m.gone.length := by
        have := congrArg List.length hgn
        simp at this
        omega
      refine ⟨le, by simp; omega, headOk_iff.2 (by simp; omega), fun x hx => ?_, h.es.sublist hsub, fun g hg => ?_, ?_, ?_, fun g hg x hx => ?_⟩
      · obtain ⟨a1, a2, a3, a4, a5⟩ := ee x hx
        exact ⟨entryOk_iff.2 ⟨a1, by simp only; omega, a3, a4⟩, a5⟩
      · simp only [List.eraseIdx_cons_zero] at hg
        have := g1 g (List.mem_cons_of_mem _ hg)
        have := p1 g hg
        simp only [List.getElem?_cons_zero, Bool.and_eq_true, inB_iff]
        omega
      · simp only [List.eraseIdx_cons_zero]; exact p2
      · simp only [List.eraseIdx_cons_zero]; exact (List.pairwise_cons.1 g3).2
      · simp only [List.eraseIdx_cons_zero] at hg
        exact (g1 g (List.mem_cons_of_mem _ hg)).2.2 x hx
  · rename_i h4
    refine ⟨le, by simp; omega, headOk_iff.2 (by simp only; omega), fun x hx => ?_, h.es.sublist hsub, fun g hg => ?_, g2, g3, fun g hg x hx => (g1 g hg).2.2 x hx⟩
    · obtain ⟨a1, a2, a3, a4, a5⟩ := ee x hx
      exact ⟨entryOk_iff.2 ⟨a1, by simp only; omega, a3, a4⟩, a5⟩
    · have := g1 g hg
      simp only [Bool.and_eq_true, inB_iff]
      omega
/-- what a change that succeeds makes of a valid mailbox -/
theorem apply_valid {m : Box} {c : Change} (h : ((applyV m c).2.code != 0) = false) : Valid m ∧ Valid (applyV m c).1 := by
  unfold applyV at h ⊢
  split at h
  · rename_i h0
    exact absurd h0 (by rw [h]; simp)
  · rename_i h0
    have hv : Valid m := (boxFault_valid m).1 (by simpa using h0)
    rw [if_neg h0]
    refine ⟨hv, ?_⟩
    unfold applyS at h ⊢
    split at h
    · rename_i h1; exact absurd h1 (by rw [h]; simp)
    · rename_i h1
      rw [if_neg h1]
      have h1 : ((changeFault c).code != 0) = false := by simpa using h1
      split at h
      · simp at h
      · rename_i h2
        rw [if_neg h2]
        have h2 : (m.nextSeq == 1000000) = false := by simpa using h2
        split at h
        · rename_i h3
          rw [if_pos h3]
          split at h
          · simp at h
          · rename_i h4
            rw [if_neg h4]
            split at h
            · simp at h
            · rename_i h5
              rw [if_neg h5]
              exact hv.added h1 h3 h2 (by simpa using h4) (by simpa using h5)
        · rename_i h3
          rw [if_neg h3]
          split at h
          · simp at h
          · rename_i h4
            rw [if_neg h4]
            obtain ⟨e, he, _⟩ := findS_lt (m := m) (u := c.uid) (by omega)
            rw [he] at h ⊢
            simp only at h ⊢
            split
            · exact hv.flagged h1 he h2
            · exact hv.removed he h2
end Go.Ev

namespace Go.Ev
open Go.Proofs.Ytbempckmbfbjgaa.Code
set_option maxRecDepth 100000
def h3 : Hints := ⟨[], [(13, rBool), (20, (.ex (Bool) fun b => (.ex (Fault) fun f => .ret (.tup [.one (.t (.bool b)), f.cv], [.gone], [])))), (27, rBoxF), (41, (.ex (Limit) fun x => (.ex (Fault) fun f => .ret (.tup [x.cv, f.cv], [.gone], []))))], [], []⟩
def h5 : Hints := ⟨[], [(13, rBool), (17, rBytesF), (24, rBoxF), (38, (.ex (Limit) fun x => (.ex (Fault) fun f => .ret (.tup [x.cv, f.cv], [.gone], [])))), (44, (.ex (Limit) fun x => (.ex (Fault) fun f => .ret (.tup [x.cv, f.cv], [.gone], []))))], [], []⟩
def h4 (m : Box) (l : Limit) : Hints := ⟨[], [(12, rBool), (17, rIntsF), (59, rIntsF)], [(0, (.ex (Box) fun b => (.ret (.exit 0 [((.s 2), (.sv (.c (.one (.ptr 200 5 0))))), ((.s 3), (.sv (.c (.one (.ptr 300 2 0))))), ((.c 200 0), (.cell (.t (tI b.nextUid)))), ((.c 200 1), (.cell (.t (tI b.nextSeq)))), ((.c 200 2), (.cell (.t (tI b.horizon)))), ((.c 200 3), (.cell (.t (b.es)))), ((.c 200 4), (.cell (.t (b.gs)))), ((.c 300 0), (.cell (.t (tI l.bytes)))), ((.c 300 1), (.cell (.t (tI l.messages))))]))))], []⟩
def hb4_0  : Hints := ⟨[(46, eInt)], [(49, rBoxF)], [], []⟩
abbrev C4_0 (b : Box) (l : Limit) (us : List Int) (i : Nat) : St := [((.s 2), (.sv (.c (.one (.ptr 200 5 0))))), ((.s 3), (.sv (.c (.one (.ptr 300 2 0))))), ((.s 5), (.sv (svL 1 (us.map intE)))), ((.s 7), (.sv (svI ((i : Int))))), ((.c 200 0), (.cell (.t (tI b.nextUid)))), ((.c 200 1), (.cell (.t (tI b.nextSeq)))), ((.c 200 2), (.cell (.t (tI b.horizon)))), ((.c 200 3), (.cell (.t (b.es)))), ((.c 200 4), (.cell (.t (b.gs)))), ((.c 300 0), (.cell (.t (tI l.bytes)))), ((.c 300 1), (.cell (.t (tI l.messages))))]
theorem w3 (cl : CallFn) (n : Nat) (m : Box) (l : Limit) (x : Msg) (Q : CRes → Prop) : (wpZ S0 (mix D0 cl) (h3) n false c3 [m.sv, l.sv, x.sv] [] Q) = 
 (∃ (y6 : Bool), (((cl 13 [] []) = (some (out (svB y6)))) ∧
 (fork y6
 (∃ (y7 : Bool), (∃ (y8 : Fault), (((cl 14 [(.c (.one (.own 1000000 5 0 1 1))), (.c (.agg [(.t (tI l.bytes)), (.t (tI l.messages))])), (.c (.agg [(.t (T.sl 2 (List.map Field.enc x.fields))), (.t (T.sl 1 (List.map byteT x.body)))]))] [(.arr 5 [[(tI m.nextUid), (tI m.nextSeq), (tI m.horizon), (T.sl 6 (List.map Stored.enc m.entries)), (T.sl 2 (List.map GoneE.enc m.gone))]])]) = (some ((.tup [(.one (.t (T.bool y7))), (.agg [(.t (tI y8.code)), (.t (tI y8.index))])]), ([.gone], [])))) ∧
 (fork y7
 (∃ (y9 : Box), (∃ (y10 : Fault), (((cl 15 [(.c (.agg [(.t (tI m.nextUid)), (.t (tI m.nextSeq)), (.t (tI m.horizon)), (.t (T.sl 6 (List.map Stored.enc m.entries))), (.t (T.sl 2 (List.map GoneE.enc m.gone)))])), (.c (.agg [(.t (tI 1)), (.t (tI 0)), (.t (tI 0)), (.t (tI 0)), (.t (tI 0)), (.t (T.sl 2 (List.map Field.enc x.fields))), (.t (T.sl 1 (List.map byteT x.body)))]))] []) = (some (out (.tup [(.agg [(.t (tI y9.nextUid)), (.t (tI y9.nextSeq)), (.t (tI y9.horizon)), (.t (T.sl 6 (List.map Stored.enc y9.entries))), (.t (T.sl 2 (List.map GoneE.enc y9.gone)))]), (.agg [(.t (tI y10.code)), (.t (tI y10.index))])])))) ∧
 (fork (bne y8.code 0)
 (Q (out (svB true)))
 (fork (bne y10.code 0)
 (Q (out (svB true)))
 (∃ (y11 : Limit), (∃ (y12 : Fault), (((cl 16 [(.c (.one (.own 1000000 5 0 1 1)))] [(.arr 5 [[(tI y9.nextUid), (tI y9.nextSeq), (tI y9.horizon), (T.sl 6 (List.map Stored.enc y9.entries)), (T.sl 2 (List.map GoneE.enc y9.gone))]])]) = (some ((.tup [(.agg [(.t (tI y11.bytes)), (.t (tI y11.messages))]), (.agg [(.t (tI y12.code)), (.t (tI y12.index))])]), ([.gone], [])))) ∧
 (fork (y12.code == 0)
 (fork (decide (y11.bytes ≤ l.bytes))
 (fork (decide (y11.messages ≤ l.messages))
 (Q (out (svB true)))
 (Q (out (svB false))))
 (Q (out (svB false))))
 (Q (out (svB false))))))))))))
 (∃ (y9 : Box), (∃ (y10 : Fault), (((cl 15 [(.c (.agg [(.t (tI m.nextUid)), (.t (tI m.nextSeq)), (.t (tI m.horizon)), (.t (T.sl 6 (List.map Stored.enc m.entries))), (.t (T.sl 2 (List.map GoneE.enc m.gone)))])), (.c (.agg [(.t (tI 1)), (.t (tI 0)), (.t (tI 0)), (.t (tI 0)), (.t (tI 0)), (.t (T.sl 2 (List.map Field.enc x.fields))), (.t (T.sl 1 (List.map byteT x.body)))]))] []) = (some (out (.tup [(.agg [(.t (tI y9.nextUid)), (.t (tI y9.nextSeq)), (.t (tI y9.horizon)), (.t (T.sl 6 (List.map Stored.enc y9.entries))), (.t (T.sl 2 (List.map GoneE.enc y9.gone)))]), (.agg [(.t (tI y10.code)), (.t (tI y10.index))])])))) ∧
 (fork (bne y8.code 0)
 (Q (out (svB true)))
 (fork (bne y10.code 0)
 (Q (out (svB true)))
 (∃ (y11 : Limit), (∃ (y12 : Fault), (((cl 16 [(.c (.one (.own 1000000 5 0 1 1)))] [(.arr 5 [[(tI y9.nextUid), (tI y9.nextSeq), (tI y9.horizon), (T.sl 6 (List.map Stored.enc y9.entries)), (T.sl 2 (List.map GoneE.enc y9.gone))]])]) = (some ((.tup [(.agg [(.t (tI y11.bytes)), (.t (tI y11.messages))]), (.agg [(.t (tI y12.code)), (.t (tI y12.index))])]), ([.gone], [])))) ∧
 (fork (y12.code == 0)
 (fork (decide (y11.bytes ≤ l.bytes))
 (fork (decide (y11.messages ≤ l.messages))
 (Q (out (svB false)))
 (Q (out (svB true))))
 (Q (out (svB true))))
 (Q (out (svB false))))))))))))))))
 (Q (out (svB false)))))) := by kernel_rfl
theorem w5 (cl : CallFn) (n : Nat) (m : Box) (x : Msg) (Q : CRes → Prop) : (wpZ S0 (mix D0 cl) (h5) n false c5 [m.sv, x.sv] [] Q) = 
 (∃ (y5 : Bool), (((cl 13 [] []) = (some (out (svB y5)))) ∧
 (fork y5
 (∃ (y6 : Bytes), (∃ (y7 : Fault), (((cl 18 [(.c (.agg [(.t (T.sl 2 (List.map Field.enc x.fields))), (.t (T.sl 1 (List.map byteT x.body)))]))] []) = (some (out (.tup [(.one (.t (T.sl 1 (List.map byteT y6)))), (.agg [(.t (tI y7.code)), (.t (tI y7.index))])])))) ∧
 (∃ (y8 : Box), (∃ (y9 : Fault), (((cl 15 [(.c (.agg [(.t (tI m.nextUid)), (.t (tI m.nextSeq)), (.t (tI m.horizon)), (.t (T.sl 6 (List.map Stored.enc m.entries))), (.t (T.sl 2 (List.map GoneE.enc m.gone)))])), (.c (.agg [(.t (tI 1)), (.t (tI 0)), (.t (tI 0)), (.t (tI 0)), (.t (tI 0)), (.t (T.sl 2 (List.map Field.enc x.fields))), (.t (T.sl 1 (List.map byteT x.body)))]))] []) = (some (out (.tup [(.agg [(.t (tI y8.nextUid)), (.t (tI y8.nextSeq)), (.t (tI y8.horizon)), (.t (T.sl 6 (List.map Stored.enc y8.entries))), (.t (T.sl 2 (List.map GoneE.enc y8.gone)))]), (.agg [(.t (tI y9.code)), (.t (tI y9.index))])])))) ∧
 (fork (bne y7.code 0)
 (Q (out (svB true)))
 (fork (bne y9.code 0)
 (Q (out (svB true)))
 (∃ (y10 : Limit), (∃ (y11 : Fault), (((cl 16 [(.c (.one (.own 1000000 5 0 1 1)))] [(.arr 5 [[(tI m.nextUid), (tI m.nextSeq), (tI m.horizon), (T.sl 6 (List.map Stored.enc m.entries)), (T.sl 2 (List.map GoneE.enc m.gone))]])]) = (some ((.tup [(.agg [(.t (tI y10.bytes)), (.t (tI y10.messages))]), (.agg [(.t (tI y11.code)), (.t (tI y11.index))])]), ([.gone], [])))) ∧
 (∃ (y12 : Limit), (∃ (y13 : Fault), (((cl 16 [(.c (.one (.own 1000000 5 0 1 1)))] [(.arr 5 [[(tI y8.nextUid), (tI y8.nextSeq), (tI y8.horizon), (T.sl 6 (List.map Stored.enc y8.entries)), (T.sl 2 (List.map GoneE.enc y8.gone))]])]) = (some ((.tup [(.agg [(.t (tI y12.bytes)), (.t (tI y12.messages))]), (.agg [(.t (tI y13.code)), (.t (tI y13.index))])]), ([.gone], [])))) ∧
 (fork (y11.code == 0)
 (fork (y13.code == 0)
 (fork (y12.bytes == (IntKind.wrap .i64 (y10.bytes + (((List.length (List.map byteT y6)) : Nat) : Int))))
 (fork (y12.messages == (IntKind.wrap .i64 (y10.messages + 1)))
 (Q (out (svB true)))
 (Q (out (svB false))))
 (Q (out (svB false))))
 (Q (out (svB false))))
 (Q (out (svB false))))))))))))))))))
 (Q (out (svB false)))))) := by kernel_rfl
theorem w4 (cl : CallFn) (n : Nat) (m : Box) (l : Limit) (Q : CRes → Prop) : (wpZ S0 (mix D0 cl) (h4 m l) n false c4 [m.sv, l.sv] [] Q) = 
 (∃ (y5 : Bool), (((cl 13 [] []) = (some (out (svB y5)))) ∧
 (fork y5
 (∃ (y6 : List Int), (∃ (y7 : Fault), (((cl 17 [(.c (.agg [(.t (tI m.nextUid)), (.t (tI m.nextSeq)), (.t (tI m.horizon)), (.t (T.sl 6 (List.map Stored.enc m.entries))), (.t (T.sl 2 (List.map GoneE.enc m.gone)))])), (.c (.agg [(.t (tI l.bytes)), (.t (tI l.messages))]))] []) = (some (out (.tup [(.one (.t (T.sl 1 (List.map intE y6)))), (.agg [(.t (tI y7.code)), (.t (tI y7.index))])])))) ∧
 (fork (bne y7.code 0)
 (fork ((((List.length (List.map intE y6)) : Nat) : Int) == 0)
 (Q (out (svB true)))
 (fork (y7.code == 0)
 (Q (out (svB true)))
 (Q (out (svB false)))))
 (fork (decide (m.nextSeq > 900000))
 (fork ((((List.length (List.map intE y6)) : Nat) : Int) == 0)
 (Q (out (svB true)))
 (fork (y7.code == 0)
 (Q (out (svB true)))
 (Q (out (svB false)))))
 (∃ (y8 : Box), ((At S0 (mix D0 cl) n [2, 3, 5, 7] c4l0 [((.s 2), (.sv (.c (.one (.ptr 200 5 0))))), ((.s 3), (.sv (.c (.one (.ptr 300 2 0))))), ((.s 5), (.sv (svL 1 (List.map intE y6)))), ((.s 7), (.sv (svI 0))), ((.c 200 0), (.cell (.t (tI m.nextUid)))), ((.c 200 1), (.cell (.t (tI m.nextSeq)))), ((.c 200 2), (.cell (.t (tI m.horizon)))), ((.c 200 3), (.cell (.t (T.sl 6 (List.map Stored.enc m.entries))))), ((.c 200 4), (.cell (.t (T.sl 2 (List.map GoneE.enc m.gone))))), ((.c 300 0), (.cell (.t (tI l.bytes)))), ((.c 300 1), (.cell (.t (tI l.messages))))] n (.exit 0 [((.s 2), (.sv (.c (.one (.ptr 200 5 0))))), ((.s 3), (.sv (.c (.one (.ptr 300 2 0))))), ((.c 200 0), (.cell (.t (tI y8.nextUid)))), ((.c 200 1), (.cell (.t (tI y8.nextSeq)))), ((.c 200 2), (.cell (.t (tI y8.horizon)))), ((.c 200 3), (.cell (.t (T.sl 6 (List.map Stored.enc y8.entries))))), ((.c 200 4), (.cell (.t (T.sl 2 (List.map GoneE.enc y8.gone))))), ((.c 300 0), (.cell (.t (tI l.bytes)))), ((.c 300 1), (.cell (.t (tI l.messages))))])) ∧
 (∃ (y9 : List Int), (∃ (y10 : Fault), (((cl 17 [(.c (.agg [(.t (tI y8.nextUid)), (.t (tI y8.nextSeq)), (.t (tI y8.horizon)), (.t (T.sl 6 (List.map Stored.enc y8.entries))), (.t (T.sl 2 (List.map GoneE.enc y8.gone)))])), (.c (.agg [(.t (tI l.bytes)), (.t (tI l.messages))]))] []) = (some (out (.tup [(.one (.t (T.sl 1 (List.map intE y9)))), (.agg [(.t (tI y10.code)), (.t (tI y10.index))])])))) ∧
 (fork (y10.code == 0)
 (fork ((((List.length (List.map intE y9)) : Nat) : Int) == 0)
 (Q (out (svB true)))
 (Q (out (svB false))))
 (Q (out (svB false))))))))))))))
 (Q (out (svB false)))))) := by kernel_rfl
theorem b4_0 (cl : CallFn) (n : Nat) (b : Box) (l : Limit) (us : List Int) (i : Nat) (Q : Out → Prop) : (wpBody S0 (mix D0 cl) (hb4_0) n [2, 3, 5, 7] c4l0 (C4_0 b l us i) Q) = 
 (fork (decide (((i : Nat) : Int) < (((List.length (List.map intE us)) : Nat) : Int)))
 (((0 : Int) ≤ ((i : Nat) : Int)) ∧
 (∃ (y7 : Int), ((((List.map intE us))[i]? = (some [(tI y7)])) ∧
 (∃ (y8 : Box), (∃ (y9 : Fault), (((cl 15 [(.c (.agg [(.t (tI b.nextUid)), (.t (tI b.nextSeq)), (.t (tI b.horizon)), (.t (T.sl 6 (List.map Stored.enc b.entries))), (.t (T.sl 2 (List.map GoneE.enc b.gone)))])), (.c (.agg [(.t (tI 3)), (.t (tI y7)), (.t (tI 0)), (.t (tI 0)), (.t (tI 0)), (.t (T.sl 2 [])), (.t (T.sl 1 []))]))] []) = (some (out (.tup [(.agg [(.t (tI y8.nextUid)), (.t (tI y8.nextSeq)), (.t (tI y8.horizon)), (.t (T.sl 6 (List.map Stored.enc y8.entries))), (.t (T.sl 2 (List.map GoneE.enc y8.gone)))]), (.agg [(.t (tI y9.code)), (.t (tI y9.index))])])))) ∧
 (fork (bne y9.code 0)
 (Q (.ret [((.s 4), (.sv (svB false)))]))
 (Q (.norm [((.s 2), (.sv (.c (.one (.ptr 200 5 0))))), ((.s 3), (.sv (.c (.one (.ptr 300 2 0))))), ((.s 5), (.sv (svL 1 (List.map intE us)))), ((.s 7), (.sv (svI (IntKind.wrap .i64 (((i : Nat) : Int) + 1))))), ((.c 200 0), (.cell (.t (tI y8.nextUid)))), ((.c 200 1), (.cell (.t (tI y8.nextSeq)))), ((.c 200 2), (.cell (.t (tI y8.horizon)))), ((.c 200 3), (.cell (.t (T.sl 6 (List.map Stored.enc y8.entries))))), ((.c 200 4), (.cell (.t (T.sl 2 (List.map GoneE.enc y8.gone))))), ((.c 300 0), (.cell (.t (tI l.bytes)))), ((.c 300 1), (.cell (.t (tI l.messages))))])))))))))
 (Q (.exit 0 [((.s 2), (.sv (.c (.one (.ptr 200 5 0))))), ((.s 3), (.sv (.c (.one (.ptr 300 2 0))))), ((.c 200 0), (.cell (.t (tI b.nextUid)))), ((.c 200 1), (.cell (.t (tI b.nextSeq)))), ((.c 200 2), (.cell (.t (tI b.horizon)))), ((.c 200 3), (.cell (.t (T.sl 6 (List.map Stored.enc b.entries))))), ((.c 200 4), (.cell (.t (T.sl 2 (List.map GoneE.enc b.gone))))), ((.c 300 0), (.cell (.t (tI l.bytes)))), ((.c 300 1), (.cell (.t (tI l.messages))))]))) := by kernel_rfl

end Go.Ev

namespace Go.Ev
open Go.Proofs.Ytbempckmbfbjgaa.Code
set_option maxRecDepth 100000
theorem ex13 : cz 100000 30 13 [] [] = some (out (svB true)) := by kernel_rfl
end Go.Ev
