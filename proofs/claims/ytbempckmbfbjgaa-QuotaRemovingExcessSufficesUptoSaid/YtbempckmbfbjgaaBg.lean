/- Plain data of the program; functions that are computed at once; headers and messages. No condition. -/
import Derived.Test.YtbempckmbfbjgaaBf
import Derived.Test.YtbempckmbfbjgaaBd
import Derived.KernelRfl
import Derived.IntWalk
set_option linter.unusedVariables false
set_option linter.unusedSimpArgs false
set_option linter.constructorNameAsVariable false
set_option linter.unnecessarySimpa false
namespace Go.Ev
open Go.Proofs.Ytbempckmbfbjgaa.Code
set_option maxRecDepth 100000
abbrev Bytes := List UInt8
abbrev tI (n : Int) : T := .int .i64 n
abbrev svI (n : Int) : SV := .c (.one (.t (.int .i64 n)))
abbrev svB (b : Bool) : SV := .c (.one (.t (.bool b)))
abbrev svY (b : UInt8) : SV := .c (.one (.t (.int .u8 b.toNat)))
abbrev svS (s : Bytes) : SV := .c (.one (.t (.str s)))
abbrev svL (sz : Nat) (es : List (List T)) : SV := .c (.one (.t (.sl sz es)))
structure Field where
  n : Bytes
  v : Bytes
structure Msg where
  fields : List Field
  body : Bytes
structure Stored where
  uid : Int
  seq : Int
  flags : Int
  at_ : Int
  msg : Msg
structure GoneE where
  uid : Int
  seq : Int
  deriving DecidableEq
structure Box where
  nextUid : Int
  nextSeq : Int
  horizon : Int
  entries : List Stored
  gone : List GoneE
structure Fault where
  code : Int
  index : Int
  deriving DecidableEq
structure Seen where
  uid : Int
  flags : Int
  deriving DecidableEq
structure View where
  seq : Int
  seen : List Seen
structure Change where
  kind : Int
  uid : Int
  set : Int
  clear : Int
  at_ : Int
  msg : Msg
structure Limit where
  bytes : Int
  messages : Int
  deriving DecidableEq
deriving instance DecidableEq for Field
deriving instance DecidableEq for Msg
deriving instance DecidableEq for Stored
deriving instance DecidableEq for Box
@[reducible] def Field.enc (f : Field) : List T := [.str f.n, .str f.v]
@[reducible] def Msg.fs (m : Msg) : T := .sl 2 (m.fields.map Field.enc)
@[reducible] def Msg.bd (m : Msg) : T := .sl 1 (m.body.map byteT)
@[reducible] def Stored.enc (s : Stored) : List T := [tI s.uid, tI s.seq, tI s.flags, tI s.at_, s.msg.fs, s.msg.bd]
@[reducible] def Stored.sv (s : Stored) : SV := .c (.agg [.t (tI s.uid), .t (tI s.seq), .t (tI s.flags), .t (tI s.at_), .t s.msg.fs, .t s.msg.bd])
@[reducible] def GoneE.enc (g : GoneE) : List T := [tI g.uid, tI g.seq]
@[reducible] def Seen.enc (g : Seen) : List T := [tI g.uid, tI g.flags]
@[reducible] def intE (n : Int) : List T := [tI n]
@[reducible] def strE (s : Bytes) : List T := [.str s]
@[reducible] def Box.es (b : Box) : T := .sl 6 (b.entries.map Stored.enc)
@[reducible] def Box.gs (b : Box) : T := .sl 2 (b.gone.map GoneE.enc)
@[reducible] def Box.enc (b : Box) : List T := [tI b.nextUid, tI b.nextSeq, tI b.horizon, b.es, b.gs]
@[reducible] def Box.sv (b : Box) : SV := .c (.agg [.t (tI b.nextUid), .t (tI b.nextSeq), .t (tI b.horizon), .t b.es, .t b.gs])
@[reducible] def Msg.sv (m : Msg) : SV := .c (.agg [.t m.fs, .t m.bd])
@[reducible] def Fault.cv (f : Fault) : CV := .agg [.t (tI f.code), .t (tI f.index)]
@[reducible] def Fault.sv (f : Fault) : SV := .c f.cv
@[reducible] def View.cv (v : View) : CV := .agg [.t (tI v.seq), .t (.sl 2 (v.seen.map Seen.enc))]
@[reducible] def Box.cv (b : Box) : CV := .agg [.t (tI b.nextUid), .t (tI b.nextSeq), .t (tI b.horizon), .t b.es, .t b.gs]
@[reducible] def View.sv (v : View) : SV := .c v.cv
@[reducible] def Limit.cv (l : Limit) : CV := .agg [.t (tI l.bytes), .t (tI l.messages)]
@[reducible] def Limit.sv (l : Limit) : SV := .c l.cv
@[reducible] def Change.sv (c : Change) : SV := .c (.agg [.t (tI c.kind), .t (tI c.uid), .t (tI c.set), .t (tI c.clear), .t (tI c.at_), .t c.msg.fs, .t c.msg.bd])
abbrev out (x : SV) : CRes := (x, [], [])
theorem mget {α β : Type} {f : α → β} {l : List α} {i : Nat} {x : α} (h : l[i]? = some x) : (l.map f)[i]? = some (f x) := by rw [List.getElem?_map, h]; rfl

/-! hints -/
def eField : Tel (List T) := .ex Field fun x => .ret x.enc
def eStored : Tel (List T) := .ex Stored fun x => .ret x.enc
def eGone : Tel (List T) := .ex GoneE fun x => .ret x.enc
def eSeen : Tel (List T) := .ex Seen fun x => .ret x.enc
def eInt : Tel (List T) := .ex Int fun x => .ret (intE x)
def eStr : Tel (List T) := .ex Bytes fun x => .ret (strE x)
def eByte : Tel (List T) := .ex UInt8 fun x => .ret (byteT x)
def eBox : Tel (List T) := .ex Box fun x => .ret x.enc
def rFault : Tel CRes := .ex Fault fun x => .ret (out x.sv)
def rInt : Tel CRes := .ex Int fun x => .ret (out (svI x))
def rBool : Tel CRes := .ex Bool fun x => .ret (out (svB x))
def rBytes : Tel CRes := .ex Bytes fun x => .ret (out (svL 1 (x.map byteT)))
def rBytesF : Tel CRes := .ex Bytes fun x => .ex Fault fun f => .ret (out (.tup [.one (.t (.sl 1 (x.map byteT))), f.cv]))
def rMsg : Tel CRes := .ex Msg fun x => .ret (out x.sv)
def rStrs : Tel CRes := .ex (List Bytes) fun x => .ret (out (svL 1 (x.map strE)))
def rStr : Tel CRes := .ex Bytes fun x => .ret (out (svS x))
def rLimit : Tel CRes := .ex Limit fun x => .ret (out x.sv)
def rLimitF : Tel CRes := .ex Limit fun x => .ex Fault fun f => .ret (out (.tup [x.cv, f.cv]))
def rBoolF : Tel CRes := .ex Bool fun x => .ex Fault fun f => .ret (out (.tup [.one (.t (.bool x)), f.cv]))
def rBoxF : Tel CRes := .ex Box fun x => .ex Fault fun f => .ret (out (.tup [x.cv, f.cv]))
def rViewF : Tel CRes := .ex View fun x => .ex Fault fun f => .ret (out (.tup [x.cv, f.cv]))
def rView : Tel CRes := .ex View fun x => .ret (out x.sv)
def rSeens : Tel CRes := .ex (List Seen) fun x => .ret (out (svL 2 (x.map Seen.enc)))
def rIntsF : Tel CRes := .ex (List Int) fun x => .ex Fault fun f => .ret (out (.tup [.one (.t (.sl 1 (x.map intE))), f.cv]))
def rStrsF : Tel CRes := .ex (List Bytes) fun x => .ex Fault fun f => .ret (out (.tup [.one (.t (.sl 1 (x.map strE))), f.cv]))
def rSince : Tel CRes := .ex (List Seen) fun x => .ex (List Int) fun y => .ret (out (.tup [.one (.t (.sl 2 (x.map Seen.enc))), .one (.t (.sl 1 (y.map intE)))]))
def rSinceF : Tel CRes := .ex (List Seen) fun x => .ex (List Int) fun y => .ex Fault fun f => .ret (out (.tup [.one (.t (.sl 2 (x.map Seen.enc))), .one (.t (.sl 1 (y.map intE))), f.cv]))
def rCatch : Tel CRes := .ex View fun x => .ex Bool fun b => .ex Fault fun f => .ret (out (.tup [x.cv, .one (.t (.bool b)), f.cv]))

/-! summaries -/
def cloneS (sz : Nat) : List SV → Option (SV × List Mem)
  | [.c (.one (.t (.sl sz' es)))] => if sz' = sz ∧ es.length ≤ 1000000000 then some (.c (.one (.own (knew 0) sz 0 es.length es.length)), [.arr sz es]) else none
  | _ => none
theorem sumClone {sz : Nat} {es : List (List T)} (h : es.length ≤ 1000000000) : sumRes (cloneS sz [svL sz es]) = some (.c (.one (.own (knew 0) sz 0 es.length es.length)), [], [.arr sz es]) := by
  unfold cloneS
  simp only
  rw [if_pos ⟨trivial, h⟩]
  rfl
def anyS : List SV → Option (SV × List Mem)
  | [.c (.one (.t (.str s))), .c (.one (.t (.str [13, 10, 0])))] => if s.length ≤ 4000000000 then some (svB (s.any fun c => c == 13 || c == 10 || c == 0), []) else none
  | _ => none
theorem sumAny {s : Bytes} (h : s.length ≤ 4000000000) : sumRes (anyS [svS s, svS [13, 10, 0]]) = some (out (svB (s.any fun c => c == 13 || c == 10 || c == 0))) := by
  unfold anyS
  simp only
  rw [if_pos h]
  rfl
def insertS : List SV → Option (SV × List Mem)
  | [.c (.one (.t (.sl 2 es))), .c (.one (.t (.int .i64 i))), .c (.one (.t (.sl 2 [e])))] =>
    if 0 ≤ i ∧ i.toNat ≤ es.length ∧ es.length ≤ 1000000000 then some (.c (.one (.own (knew 0) 2 0 (es.length + 1) (es.length + 1))), [.arr 2 (es.take i.toNat ++ e :: es.drop i.toNat)]) else none
  | _ => none
def S0 : Sum := fun f => match f with
  | 59 => some (cloneS 2)
  | 93 => some (cloneS 6)
  | 94 => some (cloneS 2)
  | 103 => some (cloneS 2)
  | 104 => some (cloneS 1)
  | 123 => some anyS
  | _ => none
def Z0 : FuncId → Bool := fun f => [15, 17, 18, 19, 20, 26, 31, 32, 33, 35, 38, 41, 42, 43, 55, 56, 57, 70, 76, 85, 87, 114].contains f
abbrev cz (n d : Nat) : CallFn := callZ tab S0 Z0 n d

/-! functions that are computed at once -/
def inB (n lo hi : Int) : Bool := decide (n ≥ lo) && decide (n ≤ hi)
def blank (c : UInt8) : Bool := c == 32 || c == 9
def faultD : List SV → List Mem → Option CRes
  | [.c (.one (.t (.int .i64 c))), .c (.one (.t (.int .i64 i)))], [] => some (out (.c (.agg [.t (tI c), .t (tI i)])))
  | _, _ => none
def noneD : List SV → List Mem → Option CRes
  | [], [] => some (out (.c (.agg [.t (tI 0), .t (tI 0)])))
  | _, _ => none
def failedD : List SV → List Mem → Option CRes
  | [.c (.agg [.t (.int .i64 c), .t (.int .i64 _)])], [] => some (out (svB (c != 0)))
  | _, _ => none
def inD : List SV → List Mem → Option CRes
  | [.c (.one (.t (.int .i64 n))), .c (.one (.t (.int .i64 lo))), .c (.one (.t (.int .i64 hi)))], [] => some (out (svB (inB n lo hi)))
  | _, _ => none
def timeD : List SV → List Mem → Option CRes
  | [.c (.one (.t (.int .i64 n)))], [] => some (out (svB (inB n (-68719476736) 68719476736)))
  | _, _ => none
def blankD : List SV → List Mem → Option CRes
  | [.c (.one (.t (.int .u8 n)))], [] => some (out (svB (n == 32 || n == 9)))
  | _, _ => none
def nameB (n : Int) : Bool := decide (n ≥ 33) && decide (n ≤ 126) && n != 58
def nameD : List SV → List Mem → Option CRes
  | [.c (.one (.t (.int .u8 n)))], [] => some (out (svB (nameB n)))
  | _, _ => none
def plusD : List SV → List Mem → Option CRes
  | [.c (.agg [.t (.int .i64 a), .t (.int .i64 b)]), .c (.agg [.t (.int .i64 c), .t (.int .i64 d)])], [] => some (out (.c (.agg [.t (tI (IntKind.wrap .i64 (a + c))), .t (tI (IntKind.wrap .i64 (b + d)))])))
  | _, _ => none
def withinB (a b c d : Int) : Bool := decide (a ≤ c) && decide (b ≤ d)
def withinD : List SV → List Mem → Option CRes
  | [.c (.agg [.t (.int .i64 a), .t (.int .i64 b)]), .c (.agg [.t (.int .i64 c), .t (.int .i64 d)])], [] => some (out (svB (withinB a b c d)))
  | _, _ => none
def knownD : List SV → List Mem → Option CRes
  | [.c (.agg [.t (.int .i64 a), .t (.int .i64 b)])], [] => some (out (svB (inB a 1 1000000 && inB b 0 63)))
  | _, _ => none
def limitB (a b : Int) : Bool := inB a 0 1099511627776 && inB b 0 1000000
def D0 : Det := fun f => match f with
  | 28 => some faultD
  | 30 => some inD
  | 45 => some failedD
  | 48 => some faultD
  | 49 => some withinD
  | 50 => some plusD
  | 53 => some noneD
  | 58 => some knownD
  | 67 => some faultD
  | 79 => some inD
  | 80 => some timeD
  | 112 => some faultD
  | 116 => some nameD
  | 118 => some blankD
  | 122 => some blankD
  | 133 => some inD
  | _ => none
/-- no calls -/
def noCall : CallFn := fun _ _ _ => none
theorem run0 {n d : Nat} {f : FuncId} {fc : FnC} {vs : List SV} {ms : List Mem} {r : CRes} {H : Hints} (z : Bool) (hA : tab f = some fc) (hZ : Z0 f = z) (h : wpZ S0 noCall H n z fc vs ms (· = r)) : cz n (d + 1) f vs ms = some r := by
  have hD : DetOK (fun _ => none) noCall := fun _ _ _ _ _ h => by cases h
  have h0 : CLe noCall (callZ tab S0 Z0 n d) := fun _ _ _ _ h => by cases h
  obtain ⟨q, h1, h2⟩ := wpFn_ok h
  have h3 := evalFn_le h0 (Nat.le_refl n) h1
  simp only [cz, callZ, hA, h3, hZ]
  cases z with
  | false => simp only at h2 ⊢; subst h2; simp
  | true =>
    simp only at h2 ⊢
    unfold fzR
    split at h2
    · rename_i y c hz
      simp only [if_true]
      rw [if_pos (allLe_iff.2 h2.1), h2.2]
    · exact h2.elim
end Go.Ev

namespace Go.Ev
open Go.Proofs.Ytbempckmbfbjgaa.Code
set_option maxRecDepth 100000
theorem w45 (n : Nat) (c i : Int) (Q : CRes → Prop) : (wpZ S0 noCall ⟨[],[],[],[]⟩ n false c45 [.c (.agg [.t (tI c), .t (tI i)])] [] Q) = 
 (fork (bne c 0)
 (Q (out (svB true)))
 (Q (out (svB false)))) := by kernel_rfl
theorem w30 (n : Nat) (a b c : Int) (Q : CRes → Prop) : (wpZ S0 noCall ⟨[],[],[],[]⟩ n false c30 [svI a, svI b, svI c] [] Q) = 
 (fork (decide (a ≥ b))
 (fork (decide (a ≤ c))
 (Q (out (svB true)))
 (Q (out (svB false))))
 (Q (out (svB false)))) := by kernel_rfl
theorem w79 (n : Nat) (a b c : Int) (Q : CRes → Prop) : (wpZ S0 noCall ⟨[],[],[],[]⟩ n false c79 [svI a, svI b, svI c] [] Q) = 
 (fork (decide (a ≥ b))
 (fork (decide (a ≤ c))
 (Q (out (svB true)))
 (Q (out (svB false))))
 (Q (out (svB false)))) := by kernel_rfl
theorem w133 (n : Nat) (a b c : Int) (Q : CRes → Prop) : (wpZ S0 noCall ⟨[],[],[],[]⟩ n false c133 [svI a, svI b, svI c] [] Q) = 
 (fork (decide (a ≥ b))
 (fork (decide (a ≤ c))
 (Q (out (svB true)))
 (Q (out (svB false))))
 (Q (out (svB false)))) := by kernel_rfl
theorem w80 (n : Nat) (a : Int) (Q : CRes → Prop) : (wpZ S0 noCall ⟨[],[],[],[]⟩ n false c80 [svI a] [] Q) = 
 (fork (decide (a ≥ (-68719476736)))
 (fork (decide (a ≤ 68719476736))
 (Q (out (svB true)))
 (Q (out (svB false))))
 (Q (out (svB false)))) := by kernel_rfl
theorem w118 (n : Nat) (a : Int) (Q : CRes → Prop) : (wpZ S0 noCall ⟨[],[],[],[]⟩ n false c118 [.c (.one (.t (.int .u8 a)))] [] Q) = 
 (fork (a == 32)
 (Q (out (svB true)))
 (fork (a == 9)
 (Q (out (svB true)))
 (Q (out (svB false))))) := by kernel_rfl
theorem w122 (n : Nat) (a : Int) (Q : CRes → Prop) : (wpZ S0 noCall ⟨[],[],[],[]⟩ n false c122 [.c (.one (.t (.int .u8 a)))] [] Q) = 
 (fork (a == 32)
 (Q (out (svB true)))
 (fork (a == 9)
 (Q (out (svB true)))
 (Q (out (svB false))))) := by kernel_rfl
theorem w50 (n : Nat) (a b c d : Int) (Q : CRes → Prop) : (wpZ S0 noCall ⟨[],[],[],[]⟩ n false c50 [.c (.agg [.t (tI a), .t (tI b)]), .c (.agg [.t (tI c), .t (tI d)])] [] Q) = 
 (Q (out (.c (.agg [(.t (tI (IntKind.wrap .i64 (a + c)))), (.t (tI (IntKind.wrap .i64 (b + d))))])))) := by kernel_rfl
theorem w49 (n : Nat) (a b c d : Int) (Q : CRes → Prop) : (wpZ S0 noCall ⟨[],[],[],[]⟩ n false c49 [.c (.agg [.t (tI a), .t (tI b)]), .c (.agg [.t (tI c), .t (tI d)])] [] Q) = 
 (fork (((ite (true = true) (ite (c > a) c a) (ite (c < a) c a)) == c) && (((ite (true = true) (ite (d > b) d b) (ite (d < b) d b)) == d) && true))
 (Q (out (svB true)))
 (Q (out (svB false)))) := by kernel_rfl
theorem w58 (n : Nat) (a b : Int) (Q : CRes → Prop) : (wpZ S0 noCall ⟨[],[],[],[]⟩ n false c58 [.c (.agg [.t (tI a), .t (tI b)])] [] Q) = 
 (fork (decide (a ≥ 1))
 (fork (decide (a ≤ 1000000))
 (fork (decide (b ≥ 0))
 (fork (decide (b ≤ 63))
 (Q (out (svB true)))
 (Q (out (svB false))))
 (Q (out (svB false))))
 (Q (out (svB false))))
 (Q (out (svB false)))) := by kernel_rfl
theorem w48 (n : Nat) (a b : Int) (Q : CRes → Prop) : (wpZ S0 noCall ⟨[],[],[],[]⟩ n false c48 [svI a, svI b] [] Q) = 
 (Q (out (.c (.agg [(.t (tI a)), (.t (tI b))])))) := by kernel_rfl
theorem w28 (n : Nat) (a b : Int) (Q : CRes → Prop) : (wpZ S0 noCall ⟨[],[],[],[]⟩ n false c28 [svI a, svI b] [] Q) = 
 (Q (out (.c (.agg [(.t (tI a)), (.t (tI b))])))) := by kernel_rfl
theorem w67 (n : Nat) (a b : Int) (Q : CRes → Prop) : (wpZ S0 noCall ⟨[],[],[],[]⟩ n false c67 [svI a, svI b] [] Q) = 
 (Q (out (.c (.agg [(.t (tI a)), (.t (tI b))])))) := by kernel_rfl
theorem w112 (n : Nat) (a b : Int) (Q : CRes → Prop) : (wpZ S0 noCall ⟨[],[],[],[]⟩ n false c112 [svI a, svI b] [] Q) = 
 (Q (out (.c (.agg [(.t (tI a)), (.t (tI b))])))) := by kernel_rfl
theorem w53 (n : Nat) (Q : CRes → Prop) : (wpZ S0 noCall ⟨[],[],[],[]⟩ n false c53 [] [] Q) = 
 (Q (out (.c (.agg [(.t (tI 0)), (.t (tI 0))])))) := by kernel_rfl
theorem w116 (n : Nat) (a : Int) (Q : CRes → Prop) : (wpZ S0 noCall ⟨[],[],[],[]⟩ n false c116 [.c (.one (.t (.int .u8 a)))] [] Q) = 
 (fork (decide (a ≥ 33))
 (fork (decide (a ≤ 126))
 (fork (bne a 58)
 (Q (out (svB true)))
 (Q (out (svB false))))
 (Q (out (svB false))))
 (Q (out (svB false)))) := by kernel_rfl

end Go.Ev

namespace Go.Ev
open Go.Proofs.Ytbempckmbfbjgaa.Code
set_option maxRecDepth 100000
section
variable {n d : Nat}
theorem d45 (c i : Int) : cz n (d+1) 45 [.c (.agg [.t (tI c), .t (tI i)])] [] = some (out (svB (c != 0))) := run0 (H := ⟨[],[],[],[]⟩) false tab45 rfl (by rw [w45]; refine fork_iff.2 ⟨fun h => ?_, fun h => ?_⟩ <;> rw [h])
theorem d30 (a b c : Int) : cz n (d+1) 30 [svI a, svI b, svI c] [] = some (out (svB (inB a b c))) := run0 (H := ⟨[],[],[],[]⟩) false tab30 rfl (by rw [w30]; simp only [fork_iff]; refine ⟨fun h => ⟨fun h' => ?_, fun h' => ?_⟩, fun h => ?_⟩ <;> simp [inB, *])
theorem d79 (a b c : Int) : cz n (d+1) 79 [svI a, svI b, svI c] [] = some (out (svB (inB a b c))) := run0 (H := ⟨[],[],[],[]⟩) false tab79 rfl (by rw [w79]; simp only [fork_iff]; refine ⟨fun h => ⟨fun h' => ?_, fun h' => ?_⟩, fun h => ?_⟩ <;> simp [inB, *])
theorem d133 (a b c : Int) : cz n (d+1) 133 [svI a, svI b, svI c] [] = some (out (svB (inB a b c))) := run0 (H := ⟨[],[],[],[]⟩) false tab133 rfl (by rw [w133]; simp only [fork_iff]; refine ⟨fun h => ⟨fun h' => ?_, fun h' => ?_⟩, fun h => ?_⟩ <;> simp [inB, *])
theorem d80 (a : Int) : cz n (d+1) 80 [svI a] [] = some (out (svB (inB a (-68719476736) 68719476736))) := run0 (H := ⟨[],[],[],[]⟩) false tab80 rfl (by rw [w80]; simp only [fork_iff]; refine ⟨fun h => ⟨fun h' => ?_, fun h' => ?_⟩, fun h => ?_⟩ <;> simp [inB, *])
theorem d118 (a : Int) : cz n (d+1) 118 [.c (.one (.t (.int .u8 a)))] [] = some (out (svB (a == 32 || a == 9))) := run0 (H := ⟨[],[],[],[]⟩) false tab118 rfl (by rw [w118]; simp only [fork_iff]; refine ⟨fun h => ?_, fun h => ⟨fun h' => ?_, fun h' => ?_⟩⟩ <;> simp only [*, Bool.true_or, Bool.false_or])
theorem d122 (a : Int) : cz n (d+1) 122 [.c (.one (.t (.int .u8 a)))] [] = some (out (svB (a == 32 || a == 9))) := run0 (H := ⟨[],[],[],[]⟩) false tab122 rfl (by rw [w122]; simp only [fork_iff]; refine ⟨fun h => ?_, fun h => ⟨fun h' => ?_, fun h' => ?_⟩⟩ <;> simp only [*, Bool.true_or, Bool.false_or])
theorem d116 (a : Int) : cz n (d+1) 116 [.c (.one (.t (.int .u8 a)))] [] = some (out (svB (nameB a))) := run0 (H := ⟨[],[],[],[]⟩) false tab116 rfl (by rw [w116]; simp only [fork_iff]; refine ⟨fun h => ⟨fun h' => ⟨fun h => ?_, fun h => ?_⟩, fun h' => ?_⟩, fun h => ?_⟩ <;> simp only [nameB, *, Bool.true_and, Bool.false_and])
theorem d50 (a b c e : Int) : cz n (d+1) 50 [.c (.agg [.t (tI a), .t (tI b)]), .c (.agg [.t (tI c), .t (tI e)])] [] = some (out (.c (.agg [.t (tI (IntKind.wrap .i64 (a + c))), .t (tI (IntKind.wrap .i64 (b + e)))]))) := run0 (H := ⟨[],[],[],[]⟩) false tab50 rfl (by rw [w50])
theorem maxeq (a c : Int) : ((ite (true = true) (ite (c > a) c a) (ite (c < a) c a)) == c) = decide (a ≤ c) := by
  simp only [if_true]
  split
  · simp; omega
  · by_cases h : a ≤ c
    · have : a = c := by omega
      simp [this]
    · simp [h]; omega
theorem d49 (a b c e : Int) : cz n (d+1) 49 [.c (.agg [.t (tI a), .t (tI b)]), .c (.agg [.t (tI c), .t (tI e)])] [] = some (out (svB (withinB a b c e))) := run0 (H := ⟨[],[],[],[]⟩) false tab49 rfl (by rw [w49]; rw [maxeq, maxeq, Bool.and_true]; refine fork_iff.2 ⟨fun h => ?_, fun h => ?_⟩ <;> rw [withinB, h])
theorem d58 (a b : Int) : cz n (d+1) 58 [.c (.agg [.t (tI a), .t (tI b)])] [] = some (out (svB (inB a 1 1000000 && inB b 0 63))) := run0 (H := ⟨[],[],[],[]⟩) false tab58 rfl (by rw [w58]; simp only [fork_iff]; refine ⟨fun h => ⟨fun h' => ⟨fun h => ⟨fun h' => ?_, fun h' => ?_⟩, fun h => ?_⟩, fun h' => ?_⟩, fun h => ?_⟩ <;> simp [inB, *])
theorem d48 (a b : Int) : cz n (d+1) 48 [svI a, svI b] [] = some (out (.c (.agg [.t (tI a), .t (tI b)]))) := run0 (H := ⟨[],[],[],[]⟩) false tab48 rfl (by rw [w48])
theorem d28 (a b : Int) : cz n (d+1) 28 [svI a, svI b] [] = some (out (.c (.agg [.t (tI a), .t (tI b)]))) := run0 (H := ⟨[],[],[],[]⟩) false tab28 rfl (by rw [w28])
theorem d67 (a b : Int) : cz n (d+1) 67 [svI a, svI b] [] = some (out (.c (.agg [.t (tI a), .t (tI b)]))) := run0 (H := ⟨[],[],[],[]⟩) false tab67 rfl (by rw [w67])
theorem d112 (a b : Int) : cz n (d+1) 112 [svI a, svI b] [] = some (out (.c (.agg [.t (tI a), .t (tI b)]))) := run0 (H := ⟨[],[],[],[]⟩) false tab112 rfl (by rw [w112])
theorem d53 : cz n (d+1) 53 [] [] = some (out (.c (.agg [.t (tI 0), .t (tI 0)]))) := run0 (H := ⟨[],[],[],[]⟩) false tab53 rfl (by rw [w53])
theorem det_fault {f : Nat} (h : ∀ a b, cz n (d+1) f [svI a, svI b] [] = some (out (.c (.agg [.t (tI a), .t (tI b)])))) : ∀ vs ms r, faultD vs ms = some r → cz n (d+1) f vs ms = some r := by
  intro vs ms r hr
  unfold faultD at hr
  split at hr
  · rw [h]; exact hr
  · cases hr
theorem det_in {f : Nat} (h : ∀ a b c, cz n (d+1) f [svI a, svI b, svI c] [] = some (out (svB (inB a b c)))) : ∀ vs ms r, inD vs ms = some r → cz n (d+1) f vs ms = some r := by
  intro vs ms r hr
  unfold inD at hr
  split at hr
  · rw [h]; exact hr
  · cases hr
theorem det_blank {f : Nat} (h : ∀ a, cz n (d+1) f [.c (.one (.t (.int .u8 a)))] [] = some (out (svB (a == 32 || a == 9)))) : ∀ vs ms r, blankD vs ms = some r → cz n (d+1) f vs ms = some r := by
  intro vs ms r hr
  unfold blankD at hr
  split at hr
  · rw [h]; exact hr
  · cases hr
theorem detOK : DetOK D0 (cz n (d+1)) := by
  intro f F vs ms r hF hr
  unfold D0 at hF
  split at hF <;> first | (injection hF with hF; subst hF) | cases hF
  · exact det_fault d28 vs ms r hr
  · exact det_in d30 vs ms r hr
  · unfold failedD at hr
    split at hr
    · rw [d45]; exact hr
    · cases hr
  · exact det_fault d48 vs ms r hr
  · unfold withinD at hr
    split at hr
    · rw [d49]; exact hr
    · cases hr
  · unfold plusD at hr
    split at hr
    · rw [d50]; exact hr
    · cases hr
  · unfold noneD at hr
    split at hr
    · rw [d53]; exact hr
    · cases hr
  · unfold knownD at hr
    split at hr
    · rw [d58]; exact hr
    · cases hr
  · exact det_fault d67 vs ms r hr
  · exact det_in d79 vs ms r hr
  · unfold timeD at hr
    split at hr
    · rw [d80]; exact hr
    · cases hr
  · exact det_fault d112 vs ms r hr
  · unfold nameD at hr
    split at hr
    · rw [d116]; exact hr
    · cases hr
  · exact det_blank d118 vs ms r hr
  · exact det_blank d122 vs ms r hr
  · exact det_in d133 vs ms r hr
end
/-- a call of a function, by what must hold of its run -/
theorem run {n d : Nat} {f : FuncId} {fc : FnC} {vs : List SV} {ms : List Mem} {r : CRes} (H : Hints) (z : Bool) (hA : tab f = some fc) (hZ : Z0 f = z) (h : wpZ S0 (mix D0 (cz n (d + 1))) H n z fc vs ms (· = r)) : cz n (d + 2) f vs ms = some r := by
  obtain ⟨q, h1, h2⟩ := call_wpZ hA hZ detOK h
  exact h1.trans (congrArg some h2)
/-- deeper -/
theorem deep {n d d' : Nat} {f : FuncId} {vs : List SV} {ms : List Mem} {r : CRes} (hd : d ≤ d') (h : cz n d f vs ms = some r) : cz n d' f vs ms = some r := callZ_le (Nat.le_refl n) hd f vs ms r h
theorem wrapI {x : Int} (h1 : -9223372036854775808 ≤ x) (h2 : x ≤ 9223372036854775807) : IntKind.wrap .i64 x = x := IntWalk.i64_in x ⟨h1, h2⟩
end Go.Ev

namespace Go.Ev
open Go.Proofs.Ytbempckmbfbjgaa.Code
set_option maxRecDepth 100000
def h115 (s : Bytes) : Hints := ⟨[], [], [(0, (.or (.ret (.exit 0 [((.s 1), (.sv (.c (.one (.fn 116 [])))))])) (.ret (.ret [((.s 1), (.sv (.c (.one (.fn 116 []))))), ((.s 4), (.sv (svB (false))))]))))], []⟩
def hb115_0  : Hints := ⟨[], [], [], []⟩
abbrev C115_0 (s : Bytes) (i : Nat) : St := [((.s 0), (.sv (svS (s)))), ((.s 1), (.sv (.c (.one (.fn 116 []))))), ((.s 7), (.sv (svI (((s.length : Nat) : Int))))), ((.s 8), (.sv (svI ((i : Int)))))]
def h107 : Hints := ⟨[], [(12, rBool)], [], []⟩
def h117 : Hints := ⟨[], [(4, rBool)], [], []⟩
def h108 : Hints := ⟨[], [(4, rBool)], [], []⟩
def h109 (s : Bytes) (k : Int) : Hints := ⟨[], [], [(0, (.ex (Int) fun y => (.ret (.exit 0 [((.s 5), (.sv (svI (y))))]))))], []⟩
def hb109_0  : Hints := ⟨[], [], [], []⟩
abbrev C109_0 (s : Bytes) (best i : Int) : St := [((.s 0), (.sv (svS (s)))), ((.s 5), (.sv (svI (best)))), ((.s 6), (.sv (svI (i))))]
def h87 (a b : Bytes) : Hints := ⟨[], [(14, rBool), (24, rBool)], [(0, (.ex (Bytes) fun y => (.ex (List Bytes) fun z => (.ret (.exit 1 [((.s 5), (.sv (.c (.one (.ptr 500 2 0))))), ((.s 6), (.sv (svS (y)))), ((.s 8), (.sv (.c (.one (.own 800 1 0 ((z.map strE).length) ((z.map strE).length)))))), ((.c 500 0), (.cell (.t (tI 0)))), ((.c 500 1), (.cell (.t (tI 0)))), ((.a 800), (.arr 1 (z.map strE)))]))))), (1, (.or (.ex (Int) fun j => (.ret (.ret [((.s 4), (.sv (.c (.one (.nilsl 1))))), ((.s 5), (.sv (.c (.one (.ptr 500 2 0))))), ((.c 500 0), (.cell (.t (tI 1)))), ((.c 500 1), (.cell (.t (tI j))))]))) (.ex (List Bytes) fun z => (.ret (.exit 3 [((.s 5), (.sv (.c (.one (.ptr 500 2 0))))), ((.s 8), (.sv (.c (.one (.own 5400 1 0 (((z.map strE).length)) (((z.map strE).length))))))), ((.c 500 0), (.cell (.t (tI 0)))), ((.c 500 1), (.cell (.t (tI 0)))), ((.a 5400), (.arr 1 (z.map strE)))])))))], [(54, [true])]⟩
def hb87_0  : Hints := ⟨[], [(39, rInt)], [], [(47, [true])]⟩
abbrev C87_0 (rest : Bytes) (k : Int) (acc : List Bytes) : St := [((.s 8), (.sv (.c (.one (.own 800 1 0 ((acc.map strE).length) ((acc.map strE).length)))))), ((.a 800), (.arr 1 (acc.map strE))), ((.s 5), (.sv (.c (.one (.ptr 500 2 0))))), ((.s 6), (.sv (svS (rest)))), ((.s 7), (.sv (svI (k)))), ((.c 500 0), (.cell (.t (tI 0)))), ((.c 500 1), (.cell (.t (tI 0))))]
def hb87_1  : Hints := ⟨[(61, eStr)], [], [], []⟩
abbrev C87_1 (acc : List Bytes) (i : Nat) : St := [((.s 5), (.sv (.c (.one (.ptr 500 2 0))))), ((.s 8), (.sv (.c (.one (.own 5400 1 0 ((acc.map strE).length) ((acc.map strE).length)))))), ((.s 55), (.sv (.c (.one (.own 5400 1 0 ((acc.map strE).length) ((acc.map strE).length)))))), ((.s 56), (.sv (svI ((((acc.map strE).length : Nat) : Int))))), ((.s 57), (.sv (svI ((i : Int))))), ((.c 500 0), (.cell (.t (tI 0)))), ((.c 500 1), (.cell (.t (tI 0)))), ((.a 5400), (.arr 1 (acc.map strE)))]
def h77 (l : List Field) : Hints := ⟨[], [], [(0, (.or (.ex (Fault) fun f => (.ret (.ret [((.s 2), (.sv (.c (.one (.ptr 200 2 0))))), ((.c 200 0), (.cell (.t (tI f.code)))), ((.c 200 1), (.cell (.t (tI f.index))))]))) (.ret (.exit 0 [((.s 2), (.sv (.c (.one (.ptr 200 2 0))))), ((.c 200 0), (.cell (.t (tI 0)))), ((.c 200 1), (.cell (.t (tI 0))))]))))], []⟩
def hb77_0  : Hints := ⟨[(16, eField)], [(23, rStrsF)], [], []⟩
abbrev C77_0 (l : List Field) (i : Nat) : St := [((.s 2), (.sv (.c (.one (.ptr 200 2 0))))), ((.s 11), (.sv (svL 2 (l.map Field.enc)))), ((.s 12), (.sv (svI ((((l.map Field.enc).length : Nat) : Int))))), ((.s 13), (.sv (svI ((i : Int))))), ((.c 200 0), (.cell (.t (tI 0)))), ((.c 200 1), (.cell (.t (tI 0))))]
def h98 (l : Bytes) : Hints := ⟨[], [], [(0, (.or (.ret (.exit 0 [])) (.ex (Int) fun y => (.ret (.ret [((.s 2), (.sv (svI (y))))])))))], []⟩
def hb98_0  : Hints := ⟨[(14, eByte), (29, eByte)], [], [], []⟩
abbrev C98_0 (l : Bytes) (col : Int) (i : Nat) : St := [((.s 0), (.sv (svL 1 (l.map byteT)))), ((.s 3), (.sv (svI (col)))), ((.s 4), (.sv (svI ((i : Int)))))]
def h78 : Hints := ⟨[], [(4, rInt)], [], []⟩
def h56 (m : Msg) : Hints := ⟨[], [], [(0, (.ex (Bytes) fun z => (.ret (.exit 0 [((.s 1), (.sv (.c (.one (.ptr 100 2 0))))), ((.s 3), (.sv (.c (.one (.own 300 1 0 (((z.map byteT).length)) (((z.map byteT).length))))))), ((.c 100 0), (.cell (.t (m.fs)))), ((.c 100 1), (.cell (.t (m.bd)))), ((.a 300), (.arr 1 (z.map byteT)))]))))], [(40, [true]), (43, [true])]⟩
def hb56_1 (m : Msg) (acc : Bytes) (i : Nat) : Hints := ⟨[(15, eField)], [(22, rStrsF)], [(0, (.ex (Bytes) fun z => (.ret (.exit 2 [((.s 1), (.sv (.c (.one (.ptr 100 2 0))))), ((.s 3), (.sv (.c (.one (.own 300 1 0 (((z.map byteT).length)) (((z.map byteT).length))))))), ((.s 11), (.sv (svL 2 (m.fields.map Field.enc)))), ((.s 12), (.sv (svI ((((m.fields.map Field.enc).length : Nat) : Int))))), ((.s 13), (.sv (svI ((i : Int))))), ((.c 100 0), (.cell (.t (m.fs)))), ((.c 100 1), (.cell (.t (m.bd)))), ((.a 300), (.arr 1 (z.map byteT)))]))))], []⟩
abbrev C56_1 (m : Msg) (acc : Bytes) (i : Nat) : St := [((.s 3), (.sv (.c (.one (.own 300 1 0 ((acc.map byteT).length) ((acc.map byteT).length)))))), ((.a 300), (.arr 1 (acc.map byteT))), ((.s 1), (.sv (.c (.one (.ptr 100 2 0))))), ((.s 11), (.sv (svL 2 (m.fields.map Field.enc)))), ((.s 12), (.sv (svI ((((m.fields.map Field.enc).length : Nat) : Int))))), ((.s 13), (.sv (svI ((i : Int))))), ((.c 100 0), (.cell (.t (m.fs)))), ((.c 100 1), (.cell (.t (m.bd))))]
def hb56_0  : Hints := ⟨[(29, eStr)], [], [], [(33, [true]), (35, [true])]⟩
abbrev C56_0 (m : Msg) (acc : Bytes) (i : Int) (ls : List Bytes) (j : Nat) : St := [((.s 3), (.sv (.c (.one (.own 300 1 0 ((acc.map byteT).length) ((acc.map byteT).length)))))), ((.a 300), (.arr 1 (acc.map byteT))), ((.s 1), (.sv (.c (.one (.ptr 100 2 0))))), ((.s 11), (.sv (svL 2 (m.fields.map Field.enc)))), ((.s 12), (.sv (svI ((((m.fields.map Field.enc).length : Nat) : Int))))), ((.s 13), (.sv (svI (i)))), ((.s 25), (.sv (svL 1 (ls.map strE)))), ((.s 26), (.sv (svI ((((ls.map strE).length : Nat) : Int))))), ((.s 27), (.sv (svI ((j : Int))))), ((.c 100 0), (.cell (.t (m.fs)))), ((.c 100 1), (.cell (.t (m.bd))))]
def h47 : Hints := ⟨[], [(6, rFault), (11, rBytes), (17, rFault)], [], []⟩
def h52 : Hints := ⟨[], [(7, rBytesF)], [], []⟩
def h18 : Hints := ⟨[], [(6, rFault), (11, rBytes)], [], []⟩
theorem w115 (cl : CallFn) (n : Nat) (s : Bytes) (Q : CRes → Prop) : (wpZ S0 (mix D0 cl) (h115 s) n false c115 [svS s, .c (.one (.fn 116 []))] [] Q) = 
 (((At S0 (mix D0 cl) n [0, 1, 7, 8] c115l0 [((.s 0), (.sv (svS s))), ((.s 1), (.sv (.c (.one (.fn 116 []))))), ((.s 7), (.sv (svI (((List.length s) : Nat) : Int)))), ((.s 8), (.sv (svI 0)))] n (.exit 0 [((.s 1), (.sv (.c (.one (.fn 116 [])))))])) ∧
 (Q (out (svB true)))) ∨
 ((At S0 (mix D0 cl) n [0, 1, 7, 8] c115l0 [((.s 0), (.sv (svS s))), ((.s 1), (.sv (.c (.one (.fn 116 []))))), ((.s 7), (.sv (svI (((List.length s) : Nat) : Int)))), ((.s 8), (.sv (svI 0)))] n (.ret [((.s 1), (.sv (.c (.one (.fn 116 []))))), ((.s 4), (.sv (svB false)))])) ∧
 (Q (out (svB false))))) := by kernel_rfl
theorem b115_0 (cl : CallFn) (n : Nat) (s : Bytes) (i : Nat) (Q : Out → Prop) : (wpBody S0 (mix D0 cl) (hb115_0) n [0, 1, 7, 8] c115l0 (C115_0 s i) Q) = 
 (fork (decide (((i : Nat) : Int) < (((List.length s) : Nat) : Int)))
 (((0 : Int) ≤ ((i : Nat) : Int)) ∧
 (∃ (y5 : UInt8), (((s)[i]? = (some y5)) ∧
 (fork (nameB (((UInt8.toNat y5) : Nat) : Int))
 (Q (.norm [((.s 0), (.sv (svS s))), ((.s 1), (.sv (.c (.one (.fn 116 []))))), ((.s 7), (.sv (svI (((List.length s) : Nat) : Int)))), ((.s 8), (.sv (svI (IntKind.wrap .i64 (((i : Nat) : Int) + 1)))))]))
 (Q (.ret [((.s 1), (.sv (.c (.one (.fn 116 []))))), ((.s 4), (.sv (svB false)))]))))))
 (Q (.exit 0 [((.s 1), (.sv (.c (.one (.fn 116 [])))))]))) := by kernel_rfl
theorem w107 (cl : CallFn) (n : Nat) (s : Bytes) (Q : CRes → Prop) : (wpZ S0 (mix D0 cl) (h107) n false c107 [svS s] [] Q) = 
 (fork (!(s == []))
 (fork (decide ((((List.length s) : Nat) : Int) ≤ 60))
 (∃ (y4 : Bool), (((cl 115 [(svS s), (.c (.one (.fn 116 [])))] []) = (some (out (svB y4)))) ∧
 (fork y4
 (Q (out (svB true)))
 (Q (out (svB false))))))
 (Q (out (svB false))))
 (Q (out (svB false)))) := by kernel_rfl
theorem w117 (cl : CallFn) (n : Nat) (s : Bytes) (Q : CRes → Prop) : (wpZ S0 (mix D0 cl) (h117) n false c117 [svS s] [] Q) = 
 (∃ (y4 : Bool), (((sumRes (anyS [(svS s), (svS [13, 10, 0])])) = (some (out (svB y4)))) ∧
 (fork y4
 (Q (out (svB true)))
 (Q (out (svB false)))))) := by kernel_rfl
theorem w108 (cl : CallFn) (n : Nat) (s : Bytes) (Q : CRes → Prop) : (wpZ S0 (mix D0 cl) (h108) n false c108 [svS s] [] Q) = 
 (∃ (y4 : Bool), (((cl 117 [(svS s)] []) = (some (out (svB y4)))) ∧
 (fork y4
 (Q (out (svB false)))
 (fork (s == [])
 (Q (out (svB true)))
 (((0 : Int) ≤ 0) ∧
 (∃ (y5 : UInt8), (((s)[0]? = (some y5)) ∧
 (fork (((((UInt8.toNat y5) : Nat) : Int) == 32) || ((((UInt8.toNat y5) : Nat) : Int) == 9))
 (Q (out (svB false)))
 (((0 : Int) ≤ (IntKind.wrap .i64 ((((List.length s) : Nat) : Int) - 1))) ∧
 (∃ (y6 : UInt8), (((s)[(Int.toNat (IntKind.wrap .i64 ((((List.length s) : Nat) : Int) - 1)))]? = (some y6)) ∧
 (fork (((((UInt8.toNat y6) : Nat) : Int) == 32) || ((((UInt8.toNat y6) : Nat) : Int) == 9))
 (Q (out (svB false)))
 (Q (out (svB true))))))))))))))) := by kernel_rfl
theorem w109 (cl : CallFn) (n : Nat) (s : Bytes) (k : Int) (Q : CRes → Prop) : (wpZ S0 (mix D0 cl) (h109 s k) n false c109 [svS s, svI k] [] Q) = 
 (∃ (y5 : Int), ((At S0 (mix D0 cl) n [0, 5, 6] c109l0 [((.s 0), (.sv (svS s))), ((.s 5), (.sv (svI 0))), ((.s 6), (.sv (svI (ite (true = true) (ite ((1 : Int) > k) 1 k) (ite ((1 : Int) < k) 1 k)))))] n (.exit 0 [((.s 5), (.sv (svI y5)))])) ∧
 (Q (out (svI y5))))) := by kernel_rfl
theorem b109_0 (cl : CallFn) (n : Nat) (s : Bytes) (best i : Int) (Q : Out → Prop) : (wpBody S0 (mix D0 cl) (hb109_0) n [0, 5, 6] c109l0 (C109_0 s best i) Q) = 
 (fork (decide (i < (((List.length s) : Nat) : Int)))
 (((0 : Int) ≤ i) ∧
 (∃ (y6 : UInt8), (((s)[(Int.toNat i)]? = (some y6)) ∧
 (fork (((((UInt8.toNat y6) : Nat) : Int) == 32) || ((((UInt8.toNat y6) : Nat) : Int) == 9))
 (((0 : Int) ≤ (IntKind.wrap .i64 (i - 1))) ∧
 (∃ (y7 : UInt8), (((s)[(Int.toNat (IntKind.wrap .i64 (i - 1)))]? = (some y7)) ∧
 (fork (((((UInt8.toNat y7) : Nat) : Int) == 32) || ((((UInt8.toNat y7) : Nat) : Int) == 9))
 (Q (.norm [((.s 0), (.sv (svS s))), ((.s 5), (.sv (svI best))), ((.s 6), (.sv (svI (IntKind.wrap .i64 (i + 1)))))]))
 (fork (decide (best > 0))
 (fork (decide (i > 78))
 (Q (.exit 0 [((.s 5), (.sv (svI best)))]))
 (Q (.norm [((.s 0), (.sv (svS s))), ((.s 5), (.sv (svI i))), ((.s 6), (.sv (svI (IntKind.wrap .i64 (i + 1)))))])))
 (Q (.norm [((.s 0), (.sv (svS s))), ((.s 5), (.sv (svI i))), ((.s 6), (.sv (svI (IntKind.wrap .i64 (i + 1)))))])))))))
 (Q (.norm [((.s 0), (.sv (svS s))), ((.s 5), (.sv (svI best))), ((.s 6), (.sv (svI (IntKind.wrap .i64 (i + 1)))))]))))))
 (Q (.exit 0 [((.s 5), (.sv (svI best)))]))) := by kernel_rfl
theorem w87 (cl : CallFn) (n : Nat) (a b : Bytes) (Q : CRes → Prop) : (wpZ S0 (mix D0 cl) (h87 a b) n true c87 [svS a, svS b] [] Q) = 
 (∃ (y5 : Bool), (((cl 107 [(svS a)] []) = (some (out (svB y5)))) ∧
 (fork y5
 (fork (decide ((((List.length b) : Nat) : Int) > 4000))
 (True ∧
 (Q (out (.tup [(.one (.t (T.sl 1 []))), (.agg [(.t (tI 1)), (.t (tI (-1)))])]))))
 (∃ (y6 : Bool), (((cl 108 [(svS b)] []) = (some (out (svB y6)))) ∧
 (fork y6
 ((((List.length a) + 2) ≤ 9223372036854775807) ∧
 ((((List.length (a ++ [58, 32])) + (List.length b)) ≤ 9223372036854775807) ∧
 (∃ (y7 : Bytes), (∃ (y8 : List Bytes), ((At S0 (mix D0 cl) n [5, 6, 7, 8] c87l0 [((.s 8), (.sv (.c (.one (.own 800 1 0 0 0))))), ((.a 800), (.arr 1 [])), ((.s 5), (.sv (.c (.one (.ptr 500 2 0))))), ((.s 6), (.sv (svS ((a ++ [58, 32]) ++ b)))), ((.s 7), (.sv (svI (IntKind.wrap .i64 ((((List.length a) : Nat) : Int) + 2))))), ((.c 500 0), (.cell (.t (tI 0)))), ((.c 500 1), (.cell (.t (tI 0))))] n (.exit 1 [((.s 5), (.sv (.c (.one (.ptr 500 2 0))))), ((.s 6), (.sv (svS y7))), ((.s 8), (.sv (.c (.one (.own 800 1 0 (List.length (List.map strE y8)) (List.length (List.map strE y8))))))), ((.c 500 0), (.cell (.t (tI 0)))), ((.c 500 1), (.cell (.t (tI 0)))), ((.a 800), (.arr 1 (List.map strE y8)))])) ∧
 ((1 ≤ (List.length [[(T.str y7)]])) ∧
 (((0 + (List.length (List.map strE y8))) ≤ (List.length (List.map strE y8))) ∧
 (((decide ((0 = 0) ∧
 ((List.length (List.map strE y8)) = (List.length (List.map strE y8))))) = true) ∧
 (((((List.length ((List.map strE y8) ++ [[(T.str y7)]])) * 16) ≤ 140737488355328) ∧
 ((List.length ((List.map strE y8) ++ [[(T.str y7)]])) ≤ 9223372036854775807)) ∧
 ((∃ (y9 : Int), ((At S0 (mix D0 cl) n [5, 8, 55, 56, 57] c87l1 [((.s 5), (.sv (.c (.one (.ptr 500 2 0))))), ((.s 8), (.sv (.c (.one (.own 5400 1 0 (List.length ((List.map strE y8) ++ [[(T.str y7)]])) (List.length ((List.map strE y8) ++ [[(T.str y7)]]))))))), ((.s 55), (.sv (.c (.one (.own 5400 1 0 (List.length ((List.map strE y8) ++ [[(T.str y7)]])) (List.length ((List.map strE y8) ++ [[(T.str y7)]]))))))), ((.s 56), (.sv (svI (((List.length ((List.map strE y8) ++ [[(T.str y7)]])) : Nat) : Int)))), ((.s 57), (.sv (svI 0))), ((.c 500 0), (.cell (.t (tI 0)))), ((.c 500 1), (.cell (.t (tI 0)))), ((.a 5400), (.arr 1 ((List.map strE y8) ++ [[(T.str y7)]])))] n (.ret [((.s 4), (.sv (.c (.one (.nilsl 1))))), ((.s 5), (.sv (.c (.one (.ptr 500 2 0))))), ((.c 500 0), (.cell (.t (tI 1)))), ((.c 500 1), (.cell (.t (tI y9))))])) ∧
 (True ∧
 (Q (out (.tup [(.one (.t (T.sl 1 []))), (.agg [(.t (tI 1)), (.t (tI y9))])])))))) ∨
 (∃ (y9 : List Bytes), ((At S0 (mix D0 cl) n [5, 8, 55, 56, 57] c87l1 [((.s 5), (.sv (.c (.one (.ptr 500 2 0))))), ((.s 8), (.sv (.c (.one (.own 5400 1 0 (List.length ((List.map strE y8) ++ [[(T.str y7)]])) (List.length ((List.map strE y8) ++ [[(T.str y7)]]))))))), ((.s 55), (.sv (.c (.one (.own 5400 1 0 (List.length ((List.map strE y8) ++ [[(T.str y7)]])) (List.length ((List.map strE y8) ++ [[(T.str y7)]]))))))), ((.s 56), (.sv (svI (((List.length ((List.map strE y8) ++ [[(T.str y7)]])) : Nat) : Int)))), ((.s 57), (.sv (svI 0))), ((.c 500 0), (.cell (.t (tI 0)))), ((.c 500 1), (.cell (.t (tI 0)))), ((.a 5400), (.arr 1 ((List.map strE y8) ++ [[(T.str y7)]])))] n (.exit 3 [((.s 5), (.sv (.c (.one (.ptr 500 2 0))))), ((.s 8), (.sv (.c (.one (.own 5400 1 0 (List.length (List.map strE y9)) (List.length (List.map strE y9))))))), ((.c 500 0), (.cell (.t (tI 0)))), ((.c 500 1), (.cell (.t (tI 0)))), ((.a 5400), (.arr 1 (List.map strE y9)))])) ∧
 ((((0 + (List.length (List.map strE y9))) ≤ (List.length (List.map strE y9))) ∧
 True) ∧
 (Q (out (.tup [(.one (.t (T.sl 1 (List.take (List.length (List.map strE y9)) (List.drop 0 (List.map strE y9)))))), (.agg [(.t (tI 0)), (.t (tI 0))])]))))))))))))))))
 (True ∧
 (Q (out (.tup [(.one (.t (T.sl 1 []))), (.agg [(.t (tI 11)), (.t (tI (-1)))])]))))))))
 (True ∧
 (Q (out (.tup [(.one (.t (T.sl 1 []))), (.agg [(.t (tI 10)), (.t (tI (-1)))])]))))))) := by kernel_rfl
theorem b87_0 (cl : CallFn) (n : Nat) (rest : Bytes) (k : Int) (acc : List Bytes) (Q : Out → Prop) : (wpBody S0 (mix D0 cl) (hb87_0) n [5, 6, 7, 8] c87l0 (C87_0 rest k acc) Q) = 
 (fork (decide ((((List.length rest) : Nat) : Int) > 78))
 (∃ (y6 : Int), (((cl 109 [(svS rest), (svI k)] []) = (some (out (svI y6)))) ∧
 (fork (y6 == 0)
 (Q (.exit 1 [((.s 5), (.sv (.c (.one (.ptr 500 2 0))))), ((.s 6), (.sv (svS rest))), ((.s 8), (.sv (.c (.one (.own 800 1 0 (List.length (List.map strE acc)) (List.length (List.map strE acc))))))), ((.c 500 0), (.cell (.t (tI 0)))), ((.c 500 1), (.cell (.t (tI 0)))), ((.a 800), (.arr 1 (List.map strE acc)))]))
 (((0 : Int) ≤ y6) ∧
 (((0 ≤ (Int.toNat y6)) ∧
 ((Int.toNat y6) ≤ (List.length rest))) ∧
 ((1 ≤ (List.length [[(T.str (List.drop 0 (List.take (Int.toNat y6) rest)))]])) ∧
 (((0 + (List.length (List.map strE acc))) ≤ (List.length (List.map strE acc))) ∧
 (((decide ((0 = 0) ∧
 ((List.length (List.map strE acc)) = (List.length (List.map strE acc))))) = true) ∧
 (((((List.length ((List.map strE acc) ++ [[(T.str (List.drop 0 (List.take (Int.toNat y6) rest)))]])) * 16) ≤ 140737488355328) ∧
 ((List.length ((List.map strE acc) ++ [[(T.str (List.drop 0 (List.take (Int.toNat y6) rest)))]])) ≤ 9223372036854775807)) ∧
 (((0 : Int) ≤ y6) ∧
 ((((Int.toNat y6) ≤ (List.length rest)) ∧
 ((List.length rest) ≤ (List.length rest))) ∧
 (((List.length ((List.map strE acc) ++ [[(T.str (List.drop 0 (List.take (Int.toNat y6) rest)))]])) = (List.length ((List.map strE acc) ++ [[(T.str (List.drop 0 (List.take (Int.toNat y6) rest)))]]))) ∧
 (Q (.norm [((.s 8), (.sv (.c (.one (.own 800 1 0 (List.length ((List.map strE acc) ++ [[(T.str (List.drop 0 (List.take (Int.toNat y6) rest)))]])) (List.length ((List.map strE acc) ++ [[(T.str (List.drop 0 (List.take (Int.toNat y6) rest)))]]))))))), ((.a 800), (.arr 1 ((List.map strE acc) ++ [[(T.str (List.drop 0 (List.take (Int.toNat y6) rest)))]]))), ((.s 5), (.sv (.c (.one (.ptr 500 2 0))))), ((.s 6), (.sv (svS (List.drop (Int.toNat y6) (List.take (List.length rest) rest))))), ((.s 7), (.sv (svI 0))), ((.c 500 0), (.cell (.t (tI 0)))), ((.c 500 1), (.cell (.t (tI 0))))]))))))))))))))
 (Q (.exit 1 [((.s 5), (.sv (.c (.one (.ptr 500 2 0))))), ((.s 6), (.sv (svS rest))), ((.s 8), (.sv (.c (.one (.own 800 1 0 (List.length (List.map strE acc)) (List.length (List.map strE acc))))))), ((.c 500 0), (.cell (.t (tI 0)))), ((.c 500 1), (.cell (.t (tI 0)))), ((.a 800), (.arr 1 (List.map strE acc)))]))) := by kernel_rfl
theorem b87_1 (cl : CallFn) (n : Nat) (acc : List Bytes) (i : Nat) (Q : Out → Prop) : (wpBody S0 (mix D0 cl) (hb87_1) n [5, 8, 55, 56, 57] c87l1 (C87_1 acc i) Q) = 
 (fork (decide (((i : Nat) : Int) < (((List.length (List.map strE acc)) : Nat) : Int)))
 (((0 : Int) ≤ ((i : Nat) : Int)) ∧
 ((i < (List.length (List.map strE acc))) ∧
 (∃ (y5 : Bytes), ((((List.map strE acc))[(0 + i)]? = (some [(T.str y5)])) ∧
 (fork (decide ((((List.length y5) : Nat) : Int) > 998))
 (Q (.ret [((.s 4), (.sv (.c (.one (.nilsl 1))))), ((.s 5), (.sv (.c (.one (.ptr 500 2 0))))), ((.c 500 0), (.cell (.t (tI 1)))), ((.c 500 1), (.cell (.t (tI ((i : Nat) : Int)))))]))
 (Q (.norm [((.s 5), (.sv (.c (.one (.ptr 500 2 0))))), ((.s 8), (.sv (.c (.one (.own 5400 1 0 (List.length (List.map strE acc)) (List.length (List.map strE acc))))))), ((.s 55), (.sv (.c (.one (.own 5400 1 0 (List.length (List.map strE acc)) (List.length (List.map strE acc))))))), ((.s 56), (.sv (svI (((List.length (List.map strE acc)) : Nat) : Int)))), ((.s 57), (.sv (svI (IntKind.wrap .i64 (((i : Nat) : Int) + 1))))), ((.c 500 0), (.cell (.t (tI 0)))), ((.c 500 1), (.cell (.t (tI 0)))), ((.a 5400), (.arr 1 (List.map strE acc)))])))))))
 (Q (.exit 3 [((.s 5), (.sv (.c (.one (.ptr 500 2 0))))), ((.s 8), (.sv (.c (.one (.own 5400 1 0 (List.length (List.map strE acc)) (List.length (List.map strE acc))))))), ((.c 500 0), (.cell (.t (tI 0)))), ((.c 500 1), (.cell (.t (tI 0)))), ((.a 5400), (.arr 1 (List.map strE acc)))]))) := by kernel_rfl
theorem w77 (cl : CallFn) (n : Nat) (l : List Field) (Q : CRes → Prop) : (wpZ S0 (mix D0 cl) (h77 l) n false c77 [svL 2 (l.map Field.enc)] [] Q) = 
 (fork (decide ((((List.length (List.map Field.enc l)) : Nat) : Int) > 60))
 (Q (out (.c (.agg [(.t (tI 2)), (.t (tI (-1)))]))))
 ((∃ (y4 : Fault), ((At S0 (mix D0 cl) n [2, 11, 12, 13] c77l0 [((.s 2), (.sv (.c (.one (.ptr 200 2 0))))), ((.s 11), (.sv (svL 2 (List.map Field.enc l)))), ((.s 12), (.sv (svI (((List.length (List.map Field.enc l)) : Nat) : Int)))), ((.s 13), (.sv (svI 0))), ((.c 200 0), (.cell (.t (tI 0)))), ((.c 200 1), (.cell (.t (tI 0))))] n (.ret [((.s 2), (.sv (.c (.one (.ptr 200 2 0))))), ((.c 200 0), (.cell (.t (tI y4.code)))), ((.c 200 1), (.cell (.t (tI y4.index))))])) ∧
 (Q (out (.c (.agg [(.t (tI y4.code)), (.t (tI y4.index))])))))) ∨
 ((At S0 (mix D0 cl) n [2, 11, 12, 13] c77l0 [((.s 2), (.sv (.c (.one (.ptr 200 2 0))))), ((.s 11), (.sv (svL 2 (List.map Field.enc l)))), ((.s 12), (.sv (svI (((List.length (List.map Field.enc l)) : Nat) : Int)))), ((.s 13), (.sv (svI 0))), ((.c 200 0), (.cell (.t (tI 0)))), ((.c 200 1), (.cell (.t (tI 0))))] n (.exit 0 [((.s 2), (.sv (.c (.one (.ptr 200 2 0))))), ((.c 200 0), (.cell (.t (tI 0)))), ((.c 200 1), (.cell (.t (tI 0))))])) ∧
 (Q (out (.c (.agg [(.t (tI 0)), (.t (tI 0))]))))))) := by kernel_rfl
theorem b77_0 (cl : CallFn) (n : Nat) (l : List Field) (i : Nat) (Q : Out → Prop) : (wpBody S0 (mix D0 cl) (hb77_0) n [2, 11, 12, 13] c77l0 (C77_0 l i) Q) = 
 (fork (decide (((i : Nat) : Int) < (((List.length (List.map Field.enc l)) : Nat) : Int)))
 (((0 : Int) ≤ ((i : Nat) : Int)) ∧
 (∃ (y5 : Field), ((((List.map Field.enc l))[i]? = (some [(T.str y5.n), (T.str y5.v)])) ∧
 (∃ (y6 : List Bytes), (∃ (y7 : Fault), (((cl 87 [(svS y5.n), (svS y5.v)] []) = (some (out (.tup [(.one (.t (T.sl 1 (List.map strE y6)))), (.agg [(.t (tI y7.code)), (.t (tI y7.index))])])))) ∧
 (fork (bne y7.code 0)
 (Q (.ret [((.s 2), (.sv (.c (.one (.ptr 200 2 0))))), ((.c 200 0), (.cell (.t (tI y7.code)))), ((.c 200 1), (.cell (.t (tI ((i : Nat) : Int)))))]))
 (Q (.norm [((.s 2), (.sv (.c (.one (.ptr 200 2 0))))), ((.s 11), (.sv (svL 2 (List.map Field.enc l)))), ((.s 12), (.sv (svI (((List.length (List.map Field.enc l)) : Nat) : Int)))), ((.s 13), (.sv (svI (IntKind.wrap .i64 (((i : Nat) : Int) + 1))))), ((.c 200 0), (.cell (.t (tI 0)))), ((.c 200 1), (.cell (.t (tI 0))))])))))))))
 (Q (.exit 0 [((.s 2), (.sv (.c (.one (.ptr 200 2 0))))), ((.c 200 0), (.cell (.t (tI 0)))), ((.c 200 1), (.cell (.t (tI 0))))]))) := by kernel_rfl
theorem w98 (cl : CallFn) (n : Nat) (l : Bytes) (Q : CRes → Prop) : (wpZ S0 (mix D0 cl) (h98 l) n false c98 [svL 1 (l.map byteT)] [] Q) = 
 (((At S0 (mix D0 cl) n [0, 3, 4] c98l0 [((.s 0), (.sv (svL 1 (List.map byteT l)))), ((.s 3), (.sv (svI 0))), ((.s 4), (.sv (svI 0)))] n (.exit 0 [])) ∧
 (Q (out (svI 0)))) ∨
 (∃ (y4 : Int), ((At S0 (mix D0 cl) n [0, 3, 4] c98l0 [((.s 0), (.sv (svL 1 (List.map byteT l)))), ((.s 3), (.sv (svI 0))), ((.s 4), (.sv (svI 0)))] n (.ret [((.s 2), (.sv (svI y4)))])) ∧
 (Q (out (svI y4)))))) := by kernel_rfl
theorem b98_0 (cl : CallFn) (n : Nat) (l : Bytes) (col : Int) (i : Nat) (Q : Out → Prop) : (wpBody S0 (mix D0 cl) (hb98_0) n [0, 3, 4] c98l0 (C98_0 l col i) Q) = 
 (fork (decide (((i : Nat) : Int) < (((List.length (List.map byteT l)) : Nat) : Int)))
 (((0 : Int) ≤ ((i : Nat) : Int)) ∧
 (∃ (y6 : UInt8), ((((List.map byteT l))[i]? = (some [(T.int .u8 (((UInt8.toNat y6) : Nat) : Int))])) ∧
 (fork ((((UInt8.toNat y6) : Nat) : Int) == 13)
 (fork (decide ((IntKind.wrap .i64 (((i : Nat) : Int) + 1)) < (((List.length (List.map byteT l)) : Nat) : Int)))
 (((0 : Int) ≤ (IntKind.wrap .i64 (((i : Nat) : Int) + 1))) ∧
 (∃ (y7 : UInt8), ((((List.map byteT l))[(Int.toNat (IntKind.wrap .i64 (((i : Nat) : Int) + 1)))]? = (some [(T.int .u8 (((UInt8.toNat y7) : Nat) : Int))])) ∧
 (fork ((((UInt8.toNat y7) : Nat) : Int) == 10)
 (Q (.norm [((.s 0), (.sv (svL 1 (List.map byteT l)))), ((.s 3), (.sv (svI 0))), ((.s 4), (.sv (svI (IntKind.wrap .i64 ((IntKind.wrap .i64 (((i : Nat) : Int) + 1)) + 1)))))]))
 (fork ((((UInt8.toNat y6) : Nat) : Int) == 13)
 (Q (.ret [((.s 2), (.sv (svI 11)))]))
 (fork ((((UInt8.toNat y6) : Nat) : Int) == 10)
 (Q (.ret [((.s 2), (.sv (svI 11)))]))
 (fork (decide ((IntKind.wrap .i64 (col + 1)) > 998))
 (Q (.ret [((.s 2), (.sv (svI 1)))]))
 (Q (.norm [((.s 0), (.sv (svL 1 (List.map byteT l)))), ((.s 3), (.sv (svI (IntKind.wrap .i64 (col + 1))))), ((.s 4), (.sv (svI (IntKind.wrap .i64 (((i : Nat) : Int) + 1)))))])))))))))
 (fork ((((UInt8.toNat y6) : Nat) : Int) == 13)
 (Q (.ret [((.s 2), (.sv (svI 11)))]))
 (fork ((((UInt8.toNat y6) : Nat) : Int) == 10)
 (Q (.ret [((.s 2), (.sv (svI 11)))]))
 (fork (decide ((IntKind.wrap .i64 (col + 1)) > 998))
 (Q (.ret [((.s 2), (.sv (svI 1)))]))
 (Q (.norm [((.s 0), (.sv (svL 1 (List.map byteT l)))), ((.s 3), (.sv (svI (IntKind.wrap .i64 (col + 1))))), ((.s 4), (.sv (svI (IntKind.wrap .i64 (((i : Nat) : Int) + 1)))))]))))))
 (fork ((((UInt8.toNat y6) : Nat) : Int) == 13)
 (Q (.ret [((.s 2), (.sv (svI 11)))]))
 (fork ((((UInt8.toNat y6) : Nat) : Int) == 10)
 (Q (.ret [((.s 2), (.sv (svI 11)))]))
 (fork (decide ((IntKind.wrap .i64 (col + 1)) > 998))
 (Q (.ret [((.s 2), (.sv (svI 1)))]))
 (Q (.norm [((.s 0), (.sv (svL 1 (List.map byteT l)))), ((.s 3), (.sv (svI (IntKind.wrap .i64 (col + 1))))), ((.s 4), (.sv (svI (IntKind.wrap .i64 (((i : Nat) : Int) + 1)))))])))))))))
 (Q (.exit 0 []))) := by kernel_rfl
theorem w78 (cl : CallFn) (n : Nat) (l : Bytes) (Q : CRes → Prop) : (wpZ S0 (mix D0 cl) (h78) n false c78 [svL 1 (l.map byteT)] [] Q) = 
 (∃ (y4 : Int), (((cl 98 [(svL 1 (List.map byteT l))] []) = (some (out (svI y4)))) ∧
 (fork (y4 == 11)
 (Q (out (.c (.agg [(.t (tI 11)), (.t (tI (-5)))]))))
 (fork (y4 == 1)
 (Q (out (.c (.agg [(.t (tI 1)), (.t (tI (-6)))]))))
 (Q (out (.c (.agg [(.t (tI 0)), (.t (tI 0))])))))))) := by kernel_rfl
theorem w56 (cl : CallFn) (n : Nat) (m : Msg) (Q : CRes → Prop) : (wpZ S0 (mix D0 cl) (h56 m) n true c56 [m.sv] [] Q) = 
 (∃ (y4 : Bytes), ((At S0 (mix D0 cl) n [1, 3, 11, 12, 13] c56l1 [((.s 3), (.sv (.c (.one (.own 300 1 0 0 0))))), ((.a 300), (.arr 1 [])), ((.s 1), (.sv (.c (.one (.ptr 100 2 0))))), ((.s 11), (.sv (svL 2 (List.map Field.enc m.fields)))), ((.s 12), (.sv (svI (((List.length (List.map Field.enc m.fields)) : Nat) : Int)))), ((.s 13), (.sv (svI 0))), ((.c 100 0), (.cell (.t (T.sl 2 (List.map Field.enc m.fields))))), ((.c 100 1), (.cell (.t (T.sl 1 (List.map byteT m.body)))))] n (.exit 0 [((.s 1), (.sv (.c (.one (.ptr 100 2 0))))), ((.s 3), (.sv (.c (.one (.own 300 1 0 (List.length (List.map byteT y4)) (List.length (List.map byteT y4))))))), ((.c 100 0), (.cell (.t (T.sl 2 (List.map Field.enc m.fields))))), ((.c 100 1), (.cell (.t (T.sl 1 (List.map byteT m.body))))), ((.a 300), (.arr 1 (List.map byteT y4)))])) ∧
 ((2 ≤ 2) ∧
 (((0 + (List.length (List.map byteT y4))) ≤ (List.length (List.map byteT y4))) ∧
 (((decide ((0 = 0) ∧
 ((List.length (List.map byteT y4)) = (List.length (List.map byteT y4))))) = true) ∧
 (((((List.length ((List.map byteT y4) ++ [[(T.int .u8 13)], [(T.int .u8 10)]])) * 1) ≤ 140737488355328) ∧
 ((List.length ((List.map byteT y4) ++ [[(T.int .u8 13)], [(T.int .u8 10)]])) ≤ 9223372036854775807)) ∧
 (((0 + (List.length ((List.map byteT y4) ++ [[(T.int .u8 13)], [(T.int .u8 10)]]))) ≤ (List.length ((List.map byteT y4) ++ [[(T.int .u8 13)], [(T.int .u8 10)]]))) ∧
 (((decide ((0 = 0) ∧
 ((List.length ((List.map byteT y4) ++ [[(T.int .u8 13)], [(T.int .u8 10)]])) = (List.length ((List.map byteT y4) ++ [[(T.int .u8 13)], [(T.int .u8 10)]]))))) = true) ∧
 (((((List.length (((List.map byteT y4) ++ [[(T.int .u8 13)], [(T.int .u8 10)]]) ++ (List.map byteT m.body))) * 1) ≤ 140737488355328) ∧
 ((List.length (((List.map byteT y4) ++ [[(T.int .u8 13)], [(T.int .u8 10)]]) ++ (List.map byteT m.body))) ≤ 9223372036854775807)) ∧
 ((((0 + (List.length (((List.map byteT y4) ++ [[(T.int .u8 13)], [(T.int .u8 10)]]) ++ (List.map byteT m.body)))) ≤ (List.length (((List.map byteT y4) ++ [[(T.int .u8 13)], [(T.int .u8 10)]]) ++ (List.map byteT m.body)))) ∧
 True) ∧
 (Q (out (svL 1 (List.take (List.length (((List.map byteT y4) ++ [[(T.int .u8 13)], [(T.int .u8 10)]]) ++ (List.map byteT m.body))) (List.drop 0 (((List.map byteT y4) ++ [[(T.int .u8 13)], [(T.int .u8 10)]]) ++ (List.map byteT m.body))))))))))))))))) := by kernel_rfl
theorem b56_1 (cl : CallFn) (n : Nat) (m : Msg) (acc : Bytes) (i : Nat) (Q : Out → Prop) : (wpBody S0 (mix D0 cl) (hb56_1 m acc i) n [1, 3, 11, 12, 13] c56l1 (C56_1 m acc i) Q) = 
 (fork (decide (((i : Nat) : Int) < (((List.length (List.map Field.enc m.fields)) : Nat) : Int)))
 (((0 : Int) ≤ ((i : Nat) : Int)) ∧
 (∃ (y6 : Field), ((((List.map Field.enc m.fields))[i]? = (some [(T.str y6.n), (T.str y6.v)])) ∧
 (∃ (y7 : List Bytes), (∃ (y8 : Fault), (((cl 87 [(svS y6.n), (svS y6.v)] []) = (some (out (.tup [(.one (.t (T.sl 1 (List.map strE y7)))), (.agg [(.t (tI y8.code)), (.t (tI y8.index))])])))) ∧
 (((List.length (List.map byteT acc)) = (List.length (List.map byteT acc))) ∧
 (∃ (y9 : Bytes), ((At S0 (mix D0 cl) n [1, 3, 11, 12, 13, 25, 26, 27] c56l0 [((.s 3), (.sv (.c (.one (.own 300 1 0 (List.length (List.map byteT acc)) (List.length (List.map byteT acc))))))), ((.a 300), (.arr 1 (List.map byteT acc))), ((.s 1), (.sv (.c (.one (.ptr 100 2 0))))), ((.s 11), (.sv (svL 2 (List.map Field.enc m.fields)))), ((.s 12), (.sv (svI (((List.length (List.map Field.enc m.fields)) : Nat) : Int)))), ((.s 13), (.sv (svI ((i : Nat) : Int)))), ((.s 25), (.sv (svL 1 (List.map strE y7)))), ((.s 26), (.sv (svI (((List.length (List.map strE y7)) : Nat) : Int)))), ((.s 27), (.sv (svI 0))), ((.c 100 0), (.cell (.t (T.sl 2 (List.map Field.enc m.fields))))), ((.c 100 1), (.cell (.t (T.sl 1 (List.map byteT m.body)))))] n (.exit 2 [((.s 1), (.sv (.c (.one (.ptr 100 2 0))))), ((.s 3), (.sv (.c (.one (.own 300 1 0 (List.length (List.map byteT y9)) (List.length (List.map byteT y9))))))), ((.s 11), (.sv (svL 2 (List.map Field.enc m.fields)))), ((.s 12), (.sv (svI (((List.length (List.map Field.enc m.fields)) : Nat) : Int)))), ((.s 13), (.sv (svI ((i : Nat) : Int)))), ((.c 100 0), (.cell (.t (T.sl 2 (List.map Field.enc m.fields))))), ((.c 100 1), (.cell (.t (T.sl 1 (List.map byteT m.body))))), ((.a 300), (.arr 1 (List.map byteT y9)))])) ∧
 (((List.length (List.map byteT y9)) = (List.length (List.map byteT y9))) ∧
 (Q (.norm [((.s 3), (.sv (.c (.one (.own 300 1 0 (List.length (List.map byteT y9)) (List.length (List.map byteT y9))))))), ((.a 300), (.arr 1 (List.map byteT y9))), ((.s 1), (.sv (.c (.one (.ptr 100 2 0))))), ((.s 11), (.sv (svL 2 (List.map Field.enc m.fields)))), ((.s 12), (.sv (svI (((List.length (List.map Field.enc m.fields)) : Nat) : Int)))), ((.s 13), (.sv (svI (IntKind.wrap .i64 (((i : Nat) : Int) + 1))))), ((.c 100 0), (.cell (.t (T.sl 2 (List.map Field.enc m.fields))))), ((.c 100 1), (.cell (.t (T.sl 1 (List.map byteT m.body)))))]))))))))))))
 (Q (.exit 0 [((.s 1), (.sv (.c (.one (.ptr 100 2 0))))), ((.s 3), (.sv (.c (.one (.own 300 1 0 (List.length (List.map byteT acc)) (List.length (List.map byteT acc))))))), ((.c 100 0), (.cell (.t (T.sl 2 (List.map Field.enc m.fields))))), ((.c 100 1), (.cell (.t (T.sl 1 (List.map byteT m.body))))), ((.a 300), (.arr 1 (List.map byteT acc)))]))) := by kernel_rfl
theorem b56_0 (cl : CallFn) (n : Nat) (m : Msg) (acc : Bytes) (i : Int) (ls : List Bytes) (j : Nat) (Q : Out → Prop) : (wpBody S0 (mix D0 cl) (hb56_0) n [1, 3, 11, 12, 13, 25, 26, 27] c56l0 (C56_0 m acc i ls j) Q) = 
 (fork (decide (((j : Nat) : Int) < (((List.length (List.map strE ls)) : Nat) : Int)))
 (((0 : Int) ≤ ((j : Nat) : Int)) ∧
 (∃ (y8 : Bytes), ((((List.map strE ls))[j]? = (some [(T.str y8)])) ∧
 (((0 + (List.length (List.map byteT acc))) ≤ (List.length (List.map byteT acc))) ∧
 (((decide ((0 = 0) ∧
 ((List.length (List.map byteT acc)) = (List.length (List.map byteT acc))))) = true) ∧
 (((((List.length ((List.map byteT acc) ++ (List.map byteT y8))) * 1) ≤ 140737488355328) ∧
 ((List.length ((List.map byteT acc) ++ (List.map byteT y8))) ≤ 9223372036854775807)) ∧
 ((2 ≤ 2) ∧
 (((0 + (List.length ((List.map byteT acc) ++ (List.map byteT y8)))) ≤ (List.length ((List.map byteT acc) ++ (List.map byteT y8)))) ∧
 (((decide ((0 = 0) ∧
 ((List.length ((List.map byteT acc) ++ (List.map byteT y8))) = (List.length ((List.map byteT acc) ++ (List.map byteT y8)))))) = true) ∧
 (((((List.length (((List.map byteT acc) ++ (List.map byteT y8)) ++ [[(T.int .u8 13)], [(T.int .u8 10)]])) * 1) ≤ 140737488355328) ∧
 ((List.length (((List.map byteT acc) ++ (List.map byteT y8)) ++ [[(T.int .u8 13)], [(T.int .u8 10)]])) ≤ 9223372036854775807)) ∧
 (((List.length (((List.map byteT acc) ++ (List.map byteT y8)) ++ [[(T.int .u8 13)], [(T.int .u8 10)]])) = (List.length (((List.map byteT acc) ++ (List.map byteT y8)) ++ [[(T.int .u8 13)], [(T.int .u8 10)]]))) ∧
 (Q (.norm [((.s 3), (.sv (.c (.one (.own 300 1 0 (List.length (((List.map byteT acc) ++ (List.map byteT y8)) ++ [[(T.int .u8 13)], [(T.int .u8 10)]])) (List.length (((List.map byteT acc) ++ (List.map byteT y8)) ++ [[(T.int .u8 13)], [(T.int .u8 10)]]))))))), ((.a 300), (.arr 1 (((List.map byteT acc) ++ (List.map byteT y8)) ++ [[(T.int .u8 13)], [(T.int .u8 10)]]))), ((.s 1), (.sv (.c (.one (.ptr 100 2 0))))), ((.s 11), (.sv (svL 2 (List.map Field.enc m.fields)))), ((.s 12), (.sv (svI (((List.length (List.map Field.enc m.fields)) : Nat) : Int)))), ((.s 13), (.sv (svI i))), ((.s 25), (.sv (svL 1 (List.map strE ls)))), ((.s 26), (.sv (svI (((List.length (List.map strE ls)) : Nat) : Int)))), ((.s 27), (.sv (svI (IntKind.wrap .i64 (((j : Nat) : Int) + 1))))), ((.c 100 0), (.cell (.t (T.sl 2 (List.map Field.enc m.fields))))), ((.c 100 1), (.cell (.t (T.sl 1 (List.map byteT m.body)))))])))))))))))))
 (Q (.exit 2 [((.s 1), (.sv (.c (.one (.ptr 100 2 0))))), ((.s 3), (.sv (.c (.one (.own 300 1 0 (List.length (List.map byteT acc)) (List.length (List.map byteT acc))))))), ((.s 11), (.sv (svL 2 (List.map Field.enc m.fields)))), ((.s 12), (.sv (svI (((List.length (List.map Field.enc m.fields)) : Nat) : Int)))), ((.s 13), (.sv (svI i))), ((.c 100 0), (.cell (.t (T.sl 2 (List.map Field.enc m.fields))))), ((.c 100 1), (.cell (.t (T.sl 1 (List.map byteT m.body))))), ((.a 300), (.arr 1 (List.map byteT acc)))]))) := by kernel_rfl
theorem w47 (cl : CallFn) (n : Nat) (m : Msg) (Q : CRes → Prop) : (wpZ S0 (mix D0 cl) (h47) n false c47 [m.sv] [] Q) = 
 (∃ (y4 : Fault), (((cl 77 [(svL 2 (List.map Field.enc m.fields))] []) = (some (out (.c (.agg [(.t (tI y4.code)), (.t (tI y4.index))]))))) ∧
 (fork (bne y4.code 0)
 (Q (out (.c (.agg [(.t (tI y4.code)), (.t (tI y4.index))]))))
 (∃ (y5 : Bytes), (((cl 56 [(.c (.agg [(.t (T.sl 2 (List.map Field.enc m.fields))), (.t (T.sl 1 (List.map byteT m.body)))]))] []) = (some (out (svL 1 (List.map byteT y5))))) ∧
 (fork (decide ((((List.length (List.map byteT y5)) : Nat) : Int) > 12000))
 (Q (out (.c (.agg [(.t (tI 1)), (.t (tI (-4)))]))))
 (∃ (y6 : Fault), (((cl 78 [(svL 1 (List.map byteT m.body))] []) = (some (out (.c (.agg [(.t (tI y6.code)), (.t (tI y6.index))]))))) ∧
 (Q (out (.c (.agg [(.t (tI y6.code)), (.t (tI y6.index))])))))))))))) := by kernel_rfl
theorem w52 (cl : CallFn) (n : Nat) (m : Msg) (Q : CRes → Prop) : (wpZ S0 (mix D0 cl) (h52) n false c52 [m.sv] [] Q) = 
 (∃ (y4 : Bytes), (∃ (y5 : Fault), (((cl 18 [(.c (.agg [(.t (T.sl 2 (List.map Field.enc m.fields))), (.t (T.sl 1 (List.map byteT m.body)))]))] []) = (some (out (.tup [(.one (.t (T.sl 1 (List.map byteT y4)))), (.agg [(.t (tI y5.code)), (.t (tI y5.index))])])))) ∧
 (Q (out (.c (.agg [(.t (tI (((List.length (List.map byteT y4)) : Nat) : Int))), (.t (tI 1))]))))))) := by kernel_rfl
theorem w18 (cl : CallFn) (n : Nat) (m : Msg) (Q : CRes → Prop) : (wpZ S0 (mix D0 cl) (h18) n true c18 [m.sv] [] Q) = 
 (∃ (y4 : Fault), (((cl 47 [(.c (.agg [(.t (T.sl 2 (List.map Field.enc m.fields))), (.t (T.sl 1 (List.map byteT m.body)))]))] []) = (some (out (.c (.agg [(.t (tI y4.code)), (.t (tI y4.index))]))))) ∧
 (fork (bne y4.code 0)
 (True ∧
 (Q (out (.tup [(.one (.t (T.sl 1 []))), (.agg [(.t (tI y4.code)), (.t (tI y4.index))])]))))
 (∃ (y5 : Bytes), (((cl 56 [(.c (.agg [(.t (T.sl 2 (List.map Field.enc m.fields))), (.t (T.sl 1 (List.map byteT m.body)))]))] []) = (some (out (svL 1 (List.map byteT y5))))) ∧
 (True ∧
 (Q (out (.tup [(.one (.t (T.sl 1 (List.map byteT y5)))), (.agg [(.t (tI 0)), (.t (tI 0))])]))))))))) := by kernel_rfl

end Go.Ev

namespace Go.Ev
open Go.Proofs.Ytbempckmbfbjgaa.Code
set_option maxRecDepth 100000
theorem wrap1 {i : Nat} (h : i < 4611686018427387904) : IntKind.wrap .i64 ((i : Int) + 1) = ((i + 1 : Nat) : Int) := by
  rw [wrapI (by omega) (by omega)]; omega
theorem fork_dec {p : Prop} [Decidable p] {t e : Prop} : fork (decide p) t e ↔ (p → t) ∧ (¬ p → e) := by
  rw [fork_iff, decide_eq_true_eq, decide_eq_false_iff_not]
theorem blank_int (y : UInt8) : ((((UInt8.toNat y) : Nat) : Int) == 32 || (((UInt8.toNat y) : Nat) : Int) == 9) = blank y := by
  have h : ∀ k : UInt8, ((((UInt8.toNat y) : Nat) : Int) == ((UInt8.toNat k : Nat) : Int)) = (y == k) := by
    intro k
    rw [Bool.eq_iff_iff, beq_iff_eq, beq_iff_eq, ← UInt8.toNat_inj]
    omega
  have h1 := h 32
  have h2 := h 9
  have e1 : ((UInt8.toNat 32 : Nat) : Int) = 32 := rfl
  have e2 : ((UInt8.toNat 9 : Nat) : Int) = 9 := rfl
  rw [e1] at h1
  rw [e2] at h2
  rw [h1, h2]
  rfl
theorem byte_eq (y k : UInt8) : ((((UInt8.toNat y) : Nat) : Int) == ((UInt8.toNat k : Nat) : Int)) = (y == k) := by
  rw [Bool.eq_iff_iff, beq_iff_eq, beq_iff_eq, ← UInt8.toNat_inj]
  omega
section
variable {n d : Nat} {cl : CallFn}
def nb (b : UInt8) : Bool := nameB b.toNat
theorem at115 (s : Bytes) (hs : s.length < 4611686018427387904) : ∀ (suf pre : Bytes) (m : Nat), s = pre ++ suf → suf.length < m →
    At S0 (mix D0 cl) n [0, 1, 7, 8] c115l0 (C115_0 s pre.length) m (if suf.all nb then .exit 0 [((.s 1), (.sv (.c (.one (.fn 116 [])))))] else .ret [((.s 1), (.sv (.c (.one (.fn 116 []))))), ((.s 4), (.sv (svB false)))])
  | suf, pre, 0, _, hm => by omega
  | suf, pre, m + 1, he, hm => by
    refine At.step hb115_0 ?_
    rw [b115_0]
    cases suf with
    | nil =>
      refine fork_iff.2 ⟨fun h => ?_, fun h => rfl⟩
      simp [he] at h
    | cons x suf =>
      refine fork_iff.2 ⟨fun _ => ⟨by omega, x, by simp [he], ?_⟩, fun h => ?_⟩
      · refine fork_iff.2 ⟨fun h => ?_, fun h => ?_⟩
        · have hl : pre.length < 4611686018427387904 := by simp [he] at hs; omega
          rw [wrap1 hl]
          have := at115 s hs suf (pre ++ [x]) m (by simp [he]) (by simp at hm; omega)
          simp only [List.length_append, List.length_cons, List.length_nil, Nat.zero_add] at this
          have hx : nb x = true := h
          simp only [List.all_cons, hx, Bool.true_and]
          exact this
        · have hx : nb x = false := h
          simp [hx]
      · simp [he] at h
        omega
theorem k115 (s : Bytes) (hs : s.length < 4611686018427387904) (hn : s.length < n) : cz n (d+2) 115 [svS s, .c (.one (.fn 116 []))] [] = some (out (svB (s.all nb))) := by
  refine run (h115 s) false tab115 rfl ?_
  rw [w115]
  have h := at115 (n := n) (cl := cz n (d+1)) s hs s [] n rfl hn
  cases ha : s.all nb with
  | true => rw [ha] at h; exact .inl ⟨h, rfl⟩
  | false => rw [ha] at h; exact .inr ⟨h, rfl⟩
def nameOk (s : Bytes) : Bool := !(s == []) && (decide (s.length ≤ 60) && s.all nb)
theorem k107 (s : Bytes) (hs : s.length < 4611686018427387904) (hn : s.length < n) : cz n (d+3) 107 [svS s] [] = some (out (svB (nameOk s))) := by
  refine run h107 false tab107 rfl ?_
  rw [w107]
  refine fork_iff.2 ⟨fun h1 => fork_dec.2 ⟨fun h2 => ⟨_, k115 s hs hn, fork_iff.2 ⟨fun h3 => ?_, fun h3 => ?_⟩⟩, fun h2 => ?_⟩, fun h1 => ?_⟩
  · have h2' : s.length ≤ 60 := by omega
    simp only [nameOk, h1, h2', h3, decide_true, Bool.and_self]
  · simp only [nameOk, h3, Bool.and_false]
  · have h2' : ¬ s.length ≤ 60 := by omega
    simp only [nameOk, h2', decide_false, Bool.false_and, Bool.and_false]
  · simp only [nameOk, h1, Bool.false_and]
def endsB (s : Bytes) : Bool := s.any fun c => c == 13 || c == 10 || c == 0
theorem k117 (s : Bytes) (hs : s.length ≤ 4000000000) : cz n (d+2) 117 [svS s] [] = some (out (svB (endsB s))) := by
  refine run h117 false tab117 rfl ?_
  rw [w117]
  refine ⟨_, sumAny hs, fork_iff.2 ⟨fun h => ?_, fun h => ?_⟩⟩ <;> simp [endsB, h]
def valueOk (s : Bytes) : Bool := !endsB s && match s with
  | [] => true
  | x :: r => !blank x && !blank (r.getLastD x)
theorem getLastD_get (x : UInt8) (r : Bytes) : (x :: r)[(x :: r).length - 1]? = some (r.getLastD x) := by
  induction r generalizing x with
  | nil => rfl
  | cons y r ih =>
    rw [List.getLastD_cons]
    exact ih y
theorem k108 (s : Bytes) (hs : s.length ≤ 4000000000) : cz n (d+3) 108 [svS s] [] = some (out (svB (valueOk s))) := by
  refine run h108 false tab108 rfl ?_
  rw [w108]
  refine ⟨_, k117 s hs, fork_iff.2 ⟨fun h1 => ?_, fun h1 => fork_iff.2 ⟨fun h2 => ?_, fun h2 => ?_⟩⟩⟩
  · simp [valueOk, h1]
  · have : s = [] := by simpa using h2
    subst this
    rfl
  · cases s with
    | nil => simp at h2
    | cons x r =>
      refine ⟨by omega, x, rfl, ?_⟩
      rw [blank_int]
      have hw : IntKind.wrap .i64 ((((x :: r).length : Nat) : Int) - 1) = (r.length : Int) := by
        rw [wrapI (by omega) (by omega)]
        simp
      refine fork_iff.2 ⟨fun h3 => ?_, fun h3 => ⟨by rw [hw]; omega, r.getLastD x, ?_, ?_⟩⟩
      · simp only [valueOk, h3, Bool.not_true, Bool.false_and, Bool.and_false]
      · rw [hw]
        exact getLastD_get x r
      · rw [blank_int]
        refine fork_iff.2 ⟨fun h4 => ?_, fun h4 => ?_⟩ <;> simp only [valueOk, h1, h3, h4, Bool.not_true, Bool.not_false, Bool.and_true, Bool.and_false]

/-! the point where a line is cut -/
def pointL : UInt8 → Bytes → Nat → Nat → Nat
  | _, [], _, best => best
  | p, x :: r, i, best => if !blank x || blank p then pointL x r (i + 1) best else if best > 0 ∧ i > 78 then best else pointL x r (i + 1) i
def pointS (s : Bytes) (k : Nat) : Nat := match s.drop (max k 1 - 1) with
  | [] => 0
  | p :: suf => pointL p suf (max k 1) 0
theorem pointL_le : ∀ (suf : Bytes) (p : UInt8) (i best : Nat), pointL p suf i best ≤ max best (i + suf.length - 1)
  | [], p, i, best => by simp only [pointL]; omega
  | x :: r, p, i, best => by
    simp only [pointL, List.length_cons]
    have h1 := pointL_le r x (i + 1) best
    have h2 := pointL_le r x (i + 1) i
    split
    · omega
    · split
      · omega
      · omega
theorem pointS_le (s : Bytes) (k : Nat) : pointS s k ≤ s.length - 1 ∨ pointS s k = 0 := by
  unfold pointS
  split
  · exact .inr rfl
  · rename_i p suf h
    have := pointL_le suf p (max k 1) 0
    have hl : (s.drop (max k 1 - 1)).length = suf.length + 1 := by rw [h]; rfl
    rw [List.length_drop] at hl
    omega
theorem at109 (s : Bytes) (hs : s.length < 4611686018427387904) : ∀ (suf : Bytes) (p : UInt8) (pre : Bytes) (best m : Nat), s = pre ++ p :: suf → suf.length < m →
    At S0 (mix D0 cl) n [0, 5, 6] c109l0 (C109_0 s best ((pre.length + 1 : Nat) : Int)) m (.exit 0 [((.s 5), (.sv (svI (pointL p suf (pre.length + 1) best))))])
  | suf, p, pre, best, 0, _, hm => by omega
  | suf, p, pre, best, m + 1, he, hm => by
    refine At.step hb109_0 ?_
    rw [b109_0]
    have hlen : s.length = pre.length + suf.length + 1 := by rw [he]; simp; omega
    cases suf with
    | nil =>
      refine fork_dec.2 ⟨fun h => ?_, fun h => rfl⟩
      simp at hlen; omega
    | cons x suf =>
      simp only [List.length_cons] at hlen hm
      refine fork_dec.2 ⟨fun _ => ⟨by omega, x, ?_, ?_⟩, fun h => ?_⟩
      · rw [Int.toNat_natCast, he]; simp
      · rw [blank_int]
        have hw : IntKind.wrap .i64 (((pre.length + 1 : Nat) : Int) + 1) = (((pre ++ [p]).length + 1 : Nat) : Int) := by
          rw [wrap1 (by omega)]; simp
        have hw2 : IntKind.wrap .i64 (((pre.length + 1 : Nat) : Int) - 1) = (pre.length : Int) := by
          rw [wrapI (by omega) (by omega)]; omega
        have ih := fun b => at109 s hs suf x (pre ++ [p]) b m (by simp [he]) (by omega)
        have hpl : (pre ++ [p]).length = pre.length + 1 := by simp
        rw [hw, hw2]
        refine fork_iff.2 ⟨fun hx => ⟨by omega, p, by rw [Int.toNat_natCast, he]; simp, ?_⟩, fun hx => ?_⟩
        · rw [blank_int]
          refine fork_iff.2 ⟨fun hp => ?_, fun hp => fork_dec.2 ⟨fun hb => fork_dec.2 ⟨fun hi => ?_, fun hi => ?_⟩, fun hb => ?_⟩⟩
          · have := ih best
            simp only [pointL, hx, hp, Bool.or_true, if_true]
            rw [hpl] at this ⊢
            exact this
          · have h1 : best > 0 ∧ pre.length + 1 > 78 := by omega
            simp only [pointL, hx, hp, Bool.not_true, Bool.or_false, Bool.false_eq_true, if_false, if_pos h1]
          · have h1 : ¬ (best > 0 ∧ pre.length + 1 > 78) := by omega
            have := ih (pre.length + 1)
            simp only [pointL, hx, hp, Bool.not_true, Bool.or_false, Bool.false_eq_true, if_false, if_neg h1]
            rw [hpl] at this ⊢
            exact this
          · have h1 : ¬ (best > 0 ∧ pre.length + 1 > 78) := by omega
            have := ih (pre.length + 1)
            simp only [pointL, hx, hp, Bool.not_true, Bool.or_false, Bool.false_eq_true, if_false, if_neg h1]
            rw [hpl] at this ⊢
            exact this
        · have := ih best
          simp only [pointL, hx, Bool.not_false, Bool.true_or, if_true]
          rw [hpl] at this ⊢
          exact this
      · omega
theorem k109 (s : Bytes) (k : Nat) (hs : s.length < 4611686018427387904) (hk : k < 4611686018427387904) (hn : s.length < n) : cz n (d+2) 109 [svS s, svI k] [] = some (out (svI (pointS s k))) := by
  refine run (h109 s k) false tab109 rfl ?_
  rw [w109]
  have hm : (ite (true = true) (ite ((1 : Int) > k) 1 (k : Int)) (ite ((1 : Int) < k) 1 k)) = ((max k 1 : Nat) : Int) := by
    simp only [if_true]; split <;> omega
  rw [hm]
  refine ⟨pointS s k, ?_, rfl⟩
  unfold pointS
  cases hd : s.drop (max k 1 - 1) with
  | nil =>
    cases n with
    | zero => omega
    | succ n =>
      refine At.step hb109_0 ?_
      have hl : s.length ≤ max k 1 - 1 := by simpa using hd
      exact (b109_0 _ _ s 0 _ _) ▸ fork_dec.2 ⟨fun h => by omega, fun _ => rfl⟩
  | cons p suf =>
    have hl : (s.drop (max k 1 - 1)).length = suf.length + 1 := by rw [hd]; rfl
    rw [List.length_drop] at hl
    have he : s = s.take (max k 1 - 1) ++ p :: suf := by rw [← hd, List.take_append_drop]
    have hp : (s.take (max k 1 - 1)).length + 1 = max k 1 := by rw [List.length_take]; omega
    have := at109 (n := n) (cl := cz n (d+1)) s hs suf p (s.take (max k 1 - 1)) 0 n he (by omega)
    rw [hp] at this
    exact this
end
end Go.Ev

namespace Go.Ev
open Go.Proofs.Ytbempckmbfbjgaa.Code
set_option maxRecDepth 100000
theorem dtrue {a : Nat} : decide ((0 : Nat) = 0 ∧ a = a) = true := by simp
theorem zle {a : Nat} : 0 + a ≤ a := by omega
def foldL (rest : Bytes) (k : Nat) : List Bytes × Bytes :=
  if h : rest.length > 78 then
    if h0 : pointS rest k = 0 then ([], rest)
    else (rest.take (pointS rest k) :: (foldL (rest.drop (pointS rest k)) 0).1, (foldL (rest.drop (pointS rest k)) 0).2)
  else ([], rest)
termination_by rest.length
decreasing_by all_goals (rw [List.length_drop]; omega)
def firstLong : List Bytes → Nat → Option Nat
  | [], _ => none
  | x :: l, i => if x.length > 998 then some i else firstLong l (i + 1)
def foldRes (a b : Bytes) : List Bytes × Fault :=
  if nameOk a then
    if b.length > 4000 then ([], ⟨1, -1⟩) else
    if valueOk b then
      match firstLong ((foldL ((a ++ [58, 32]) ++ b) (a.length + 2)).1 ++ [(foldL ((a ++ [58, 32]) ++ b) (a.length + 2)).2]) 0 with
      | some i => ([], ⟨1, i⟩)
      | none => ((foldL ((a ++ [58, 32]) ++ b) (a.length + 2)).1 ++ [(foldL ((a ++ [58, 32]) ++ b) (a.length + 2)).2], ⟨0, 0⟩)
    else ([], ⟨11, -1⟩)
  else ([], ⟨10, -1⟩)
theorem foldL_join (rest : Bytes) (k : Nat) : (foldL rest k).1.flatten ++ (foldL rest k).2 = rest := by
  fun_induction foldL rest k with
  | case1 => rfl
  | case2 rest k h h0 ih => simp only [List.flatten_cons, List.append_assoc, ih, List.take_append_drop]
  | case3 => rfl
theorem foldL_count (rest : Bytes) (k : Nat) : (foldL rest k).1.length ≤ rest.length := by
  fun_induction foldL rest k with
  | case1 => simp
  | case2 rest k h h0 ih =>
    have hp := pointS_le rest k
    rw [List.length_drop] at ih
    simp only [List.length_cons]
    omega
  | case3 => simp
section
variable {n d : Nat} {cl : CallFn}
theorem at87_0 (hd : 2 ≤ d) : ∀ (m : Nat) (rest : Bytes) (k : Nat) (acc : List Bytes), rest.length < m → rest.length < n → k < 4611686018427387904 → rest.length + acc.length < 1000000000000 →
    At S0 (mix D0 (cz n d)) n [5, 6, 7, 8] c87l0 (C87_0 rest k acc) m (.exit 1 [((.s 5), (.sv (.c (.one (.ptr 500 2 0))))), ((.s 6), (.sv (svS (foldL rest k).2))), ((.s 8), (.sv (.c (.one (.own 800 1 0 (List.length (List.map strE (acc ++ (foldL rest k).1))) (List.length (List.map strE (acc ++ (foldL rest k).1)))))))), ((.c 500 0), (.cell (.t (tI 0)))), ((.c 500 1), (.cell (.t (tI 0)))), ((.a 800), (.arr 1 (List.map strE (acc ++ (foldL rest k).1))))])
  | 0, rest, k, acc, hm, _, _, _ => by omega
  | m + 1, rest, k, acc, hm, hn, hk, hb => by
    refine At.step hb87_0 ?_
    rw [b87_0]
    refine fork_dec.2 ⟨fun h => ⟨_, deep hd (k109 (n := n) (d := 0) rest k (by omega) hk hn), fork_iff.2 ⟨fun h0 => ?_, fun h0 => ?_⟩⟩, fun h => ?_⟩
    · have h1 : rest.length > 78 := by omega
      have h2 : pointS rest k = 0 := by simpa using h0
      rw [foldL]
      simp only [h1, h2, dif_pos, List.append_nil]
    · have h1 : rest.length > 78 := by omega
      have h2 : ¬ pointS rest k = 0 := by simpa using h0
      have hp := pointS_le rest k
      have hle : pointS rest k ≤ rest.length := by omega
      rw [Int.toNat_natCast]
      refine ⟨by omega, ⟨by omega, hle⟩, by simp, zle, dtrue, ⟨?_, ?_⟩, by omega, ⟨hle, Nat.le_refl _⟩, rfl, ?_⟩
      · simp; omega
      · simp; omega
      · have := at87_0 hd m (rest.drop (pointS rest k)) 0 (acc ++ [rest.take (pointS rest k)]) (by rw [List.length_drop]; omega) (by rw [List.length_drop]; omega) (by omega) (by rw [List.length_drop]; simp; omega)
        have e1 : List.map strE acc ++ [[T.str (List.drop 0 (List.take (pointS rest k) rest))]] = List.map strE (acc ++ [rest.take (pointS rest k)]) := by simp
        have e2 : List.drop (pointS rest k) (List.take (List.length rest) rest) = rest.drop (pointS rest k) := by rw [List.take_length]
        rw [e1, e2]
        have e3 : acc ++ (foldL rest k).1 = acc ++ [rest.take (pointS rest k)] ++ (foldL (rest.drop (pointS rest k)) 0).1 := by
          rw [foldL]
          simp only [h1, h2, dif_pos, dif_neg, not_false_eq_true, List.append_assoc, List.singleton_append]
        have e4 : (foldL rest k).2 = (foldL (rest.drop (pointS rest k)) 0).2 := by
          rw [foldL]
          simp only [h1, h2, dif_pos, dif_neg, not_false_eq_true]
        rw [e3, e4]
        exact this
    · have h1 : ¬ rest.length > 78 := by omega
      rw [foldL]
      simp only [h1, dif_neg, not_false_eq_true, List.append_nil]
theorem at87_1 (acc : List Bytes) (hs : acc.length < 4611686018427387904) : ∀ (suf pre : List Bytes) (m : Nat), acc = pre ++ suf → suf.length < m →
    At S0 (mix D0 cl) n [5, 8, 55, 56, 57] c87l1 (C87_1 acc pre.length) m (match firstLong suf pre.length with
      | some j => .ret [((.s 4), (.sv (.c (.one (.nilsl 1))))), ((.s 5), (.sv (.c (.one (.ptr 500 2 0))))), ((.c 500 0), (.cell (.t (tI 1)))), ((.c 500 1), (.cell (.t (tI (j : Nat)))))]
      | none => .exit 3 [((.s 5), (.sv (.c (.one (.ptr 500 2 0))))), ((.s 8), (.sv (.c (.one (.own 5400 1 0 (List.length (List.map strE acc)) (List.length (List.map strE acc))))))), ((.c 500 0), (.cell (.t (tI 0)))), ((.c 500 1), (.cell (.t (tI 0)))), ((.a 5400), (.arr 1 (List.map strE acc)))])
  | suf, pre, 0, _, hm => by omega
  | suf, pre, m + 1, he, hm => by
    refine At.step hb87_1 ?_
    rw [b87_1]
    have hlen : acc.length = pre.length + suf.length := by rw [he]; simp
    cases suf with
    | nil =>
      refine fork_dec.2 ⟨fun h => ?_, fun h => rfl⟩
      simp at hlen h; omega
    | cons x suf =>
      simp only [List.length_cons] at hlen hm
      refine fork_dec.2 ⟨fun _ => ⟨by omega, by simp; omega, x, ?_, fork_dec.2 ⟨fun hx => ?_, fun hx => ?_⟩⟩, fun h => ?_⟩
      · rw [Nat.zero_add]
        exact mget (by rw [he]; simp)
      · have hx' : x.length > 998 := by omega
        simp only [firstLong, if_pos hx']
      · have hx' : ¬ x.length > 998 := by omega
        simp only [firstLong, if_neg hx']
        rw [wrap1 (by omega)]
        have := at87_1 acc hs suf (pre ++ [x]) m (by simp [he]) (by omega)
        simp only [List.length_append, List.length_cons, List.length_nil, Nat.zero_add] at this
        exact this
      · simp at h; omega
theorem k87 (a b : Bytes) (ha : a.length < 100000000000) (hb : b.length < 100000000000) (hd : 3 ≤ d) (hn : 1000000000000 ≤ n) : cz n (d + 2) 87 [svS a, svS b] [] = some (out (.tup [(.one (.t (.sl 1 ((foldRes a b).1.map strE)))), (foldRes a b).2.cv])) := by
  refine run (h87 a b) true tab87 rfl ?_
  rw [w87]
  have z1 := foldL_count ((a ++ [58, 32]) ++ b) (a.length + 2)
  have z2 : (((a ++ [58, 32]) ++ b)).length = a.length + 2 + b.length := by simp; omega
  have z3 : ((foldL ((a ++ [58, 32]) ++ b) (a.length + 2)).1 ++ [(foldL ((a ++ [58, 32]) ++ b) (a.length + 2)).2]).length = (foldL ((a ++ [58, 32]) ++ b) (a.length + 2)).1.length + 1 := by simp
  refine ⟨_, deep (d := 3) (by omega) (k107 (n := n) (d := 0) a (by omega) (by omega)), fork_iff.2 ⟨fun h1 => fork_dec.2 ⟨fun h2 => ⟨trivial, ?_⟩, fun h2 => ⟨_, deep (d := 3) (by omega) (k108 (n := n) (d := 0) b (by omega)), fork_iff.2 ⟨fun h3 => ⟨by omega, by simp; omega, ?_⟩, fun h3 => ⟨trivial, ?_⟩⟩⟩⟩, fun h1 => ⟨trivial, ?_⟩⟩⟩
  · have h2' : b.length > 4000 := by omega
    simp only [foldRes, h1, h2', if_true, List.map_nil]
  · have h2' : ¬ b.length > 4000 := by omega
    have hw : IntKind.wrap .i64 ((((List.length a) : Nat) : Int) + 2) = ((a.length + 2 : Nat) : Int) := by rw [wrapI (by omega) (by omega)]; omega
    rw [hw]
    have hA := at87_0 (n := n) (d := d + 1) (by omega) n ((a ++ [58, 32]) ++ b) (a.length + 2) [] (by omega) (by omega) (by omega) (by simp; omega)
    rw [List.nil_append] at hA
    refine ⟨(foldL ((a ++ [58, 32]) ++ b) (a.length + 2)).2, (foldL ((a ++ [58, 32]) ++ b) (a.length + 2)).1, hA, by simp, zle, dtrue, ⟨by simp only [List.length_append, List.length_map, List.length_cons, List.length_nil]; omega, by simp only [List.length_append, List.length_map, List.length_cons, List.length_nil]; omega⟩, ?_⟩
    have e1 : List.map strE (foldL ((a ++ [58, 32]) ++ b) (a.length + 2)).1 ++ [[T.str (foldL ((a ++ [58, 32]) ++ b) (a.length + 2)).2]] = List.map strE ((foldL ((a ++ [58, 32]) ++ b) (a.length + 2)).1 ++ [(foldL ((a ++ [58, 32]) ++ b) (a.length + 2)).2]) := by simp
    rw [e1]
    have hB := at87_1 (n := n) (cl := cz n (d + 1)) ((foldL ((a ++ [58, 32]) ++ b) (a.length + 2)).1 ++ [(foldL ((a ++ [58, 32]) ++ b) (a.length + 2)).2]) (by omega) ((foldL ((a ++ [58, 32]) ++ b) (a.length + 2)).1 ++ [(foldL ((a ++ [58, 32]) ++ b) (a.length + 2)).2]) [] n rfl (by omega)
    have h3' : valueOk b = true := h3
    simp only [foldRes, h1, h2', h3', if_true, if_false]
    simp only [List.length_nil] at hB
    cases hf : firstLong ((foldL ((a ++ [58, 32]) ++ b) (a.length + 2)).1 ++ [(foldL ((a ++ [58, 32]) ++ b) (a.length + 2)).2]) 0 with
    | some j =>
      rw [hf] at hB
      exact .inl ⟨_, hB, trivial, rfl⟩
    | none =>
      rw [hf] at hB
      refine .inr ⟨_, hB, ⟨zle, trivial⟩, ?_⟩
      rw [List.drop_zero, List.take_length]
  · have h2' : ¬ b.length > 4000 := by omega
    simp only [foldRes, h1, h2', h3, if_true, if_false, Bool.false_eq_true, List.map_nil]
  · simp only [foldRes, h1, if_false, Bool.false_eq_true, List.map_nil]
end
end Go.Ev

namespace Go.Ev
open Go.Proofs.Ytbempckmbfbjgaa.Code
set_option maxRecDepth 100000
def Field.sz (f : Field) : Nat := f.n.length + f.v.length + 1
def fsz (l : List Field) : Nat := (l.map Field.sz).sum
def Msg.sz (m : Msg) : Nat := fsz m.fields + m.body.length + 1
def firstBad : List Field → Nat → Option Fault
  | [], _ => none
  | f :: l, i => if (foldRes f.n f.v).2.code != 0 then some ⟨(foldRes f.n f.v).2.code, (i : Nat)⟩ else firstBad l (i + 1)
def fieldsFault (l : List Field) : Fault := if l.length > 60 then ⟨2, -1⟩ else (firstBad l 0).getD ⟨0, 0⟩
def bodyGo : Bytes → Nat → Int
  | [], _ => 0
  | [x], col => if x == 13 || x == 10 then 11 else if col + 1 > 998 then 1 else 0
  | x :: y :: r, col => if x == 13 && y == 10 then bodyGo r 0 else if x == 13 || x == 10 then 11 else if col + 1 > 998 then 1 else bodyGo (y :: r) (col + 1)
def bodyFault (b : Bytes) : Fault := if bodyGo b 0 == 11 then ⟨11, -5⟩ else if bodyGo b 0 == 1 then ⟨1, -6⟩ else ⟨0, 0⟩
def linesB (l : List Bytes) : Bytes := l.flatMap fun s => s ++ [13, 10]
def fieldB (f : Field) : Bytes := linesB (foldRes f.n f.v).1
def writeF (l : List Field) : Bytes := l.flatMap fieldB
def writeB (m : Msg) : Bytes := writeF m.fields ++ [13, 10] ++ m.body
def msgFault (m : Msg) : Fault := if (fieldsFault m.fields).code != 0 then fieldsFault m.fields else if (writeB m).length > 12000 then ⟨1, -4⟩ else bodyFault m.body
theorem tf {x : Bool} (p : Prop) (h : x = true) (h' : x = false) : p := by rw [h] at h'; cases h'
theorem fsz_mem {f : Field} {l : List Field} (h : f ∈ l) : f.n.length + f.v.length + 1 ≤ fsz l := by
  induction l with
  | nil => cases h
  | cons x l ih =>
    simp only [fsz, List.map_cons, List.sum_cons] at ih ⊢
    rcases List.mem_cons.1 h with rfl | h
    · simp only [Field.sz]; omega
    · have := ih h; omega
theorem linesB_len (l : List Bytes) : (linesB l).length = l.flatten.length + 2 * l.length := by
  induction l with
  | nil => rfl
  | cons x l ih => simp only [linesB, List.flatMap_cons, List.length_append, List.length_cons, List.length_nil, List.flatten_cons] at ih ⊢; omega
theorem fieldB_len (f : Field) : (fieldB f).length ≤ 11 * f.sz := by
  have h1 := foldL_join ((f.n ++ [58, 32]) ++ f.v) (f.n.length + 2)
  have h2 := foldL_count ((f.n ++ [58, 32]) ++ f.v) (f.n.length + 2)
  have h3 := congrArg List.length h1
  have h4 : ((f.n ++ [58, 32]) ++ f.v).length = f.n.length + 2 + f.v.length := by simp; omega
  rw [List.length_append] at h3
  unfold fieldB
  rw [linesB_len]
  unfold foldRes Field.sz
  split
  · split
    · simp
    · split
      · split
        · simp
        · simp only [List.flatten_append, List.length_append, List.flatten_cons, List.flatten_nil, List.append_nil, List.length_cons, List.length_nil]
          omega
      · simp
  · simp
theorem writeF_len (l : List Field) : (writeF l).length ≤ 11 * fsz l := by
  induction l with
  | nil => simp [writeF]
  | cons f l ih =>
    have := fieldB_len f
    simp only [writeF, fsz, List.flatMap_cons, List.length_append, List.map_cons, List.sum_cons] at ih ⊢
    omega
theorem fsz_len (l : List Field) : l.length ≤ fsz l := by
  induction l with
  | nil => simp [fsz]
  | cons f l ih => simp only [fsz, List.map_cons, List.sum_cons, List.length_cons, Field.sz] at ih ⊢; omega
section
variable {n d : Nat} {cl : CallFn}
theorem at77 (l : List Field) (hs : fsz l < 100000000000) (hd : 5 ≤ d) (hn : 1000000000000 ≤ n) : ∀ (suf pre : List Field) (m : Nat), l = pre ++ suf → suf.length < m →
    At S0 (mix D0 (cz n d)) n [2, 11, 12, 13] c77l0 (C77_0 l pre.length) m (match firstBad suf pre.length with
      | some f => .ret [((.s 2), (.sv (.c (.one (.ptr 200 2 0))))), ((.c 200 0), (.cell (.t (tI f.code)))), ((.c 200 1), (.cell (.t (tI f.index))))]
      | none => .exit 0 [((.s 2), (.sv (.c (.one (.ptr 200 2 0))))), ((.c 200 0), (.cell (.t (tI 0)))), ((.c 200 1), (.cell (.t (tI 0))))])
  | suf, pre, 0, _, hm => by omega
  | suf, pre, m + 1, he, hm => by
    refine At.step hb77_0 ?_
    rw [b77_0]
    have hlen : l.length = pre.length + suf.length := by rw [he]; simp
    have hfl := fsz_len l
    cases suf with
    | nil =>
      refine fork_dec.2 ⟨fun h => ?_, fun h => rfl⟩
      simp at hlen h; omega
    | cons x suf =>
      simp only [List.length_cons] at hlen hm
      have hx := fsz_mem (f := x) (l := l) (by rw [he]; simp)
      refine fork_dec.2 ⟨fun _ => ⟨by omega, x, mget (by rw [he]; simp), (foldRes x.n x.v).1, (foldRes x.n x.v).2, deep hd (k87 (n := n) (d := 3) x.n x.v (by omega) (by omega) (by omega) hn), fork_iff.2 ⟨fun hc => ?_, fun hc => ?_⟩⟩, fun h => ?_⟩
      · simp only [firstBad, hc, if_true]
      · simp only [firstBad, hc, if_false, Bool.false_eq_true]
        rw [wrap1 (by omega)]
        have := at77 l hs hd hn suf (pre ++ [x]) m (by simp [he]) (by omega)
        simp only [List.length_append, List.length_cons, List.length_nil, Nat.zero_add] at this
        exact this
      · simp at h; omega
theorem k77 (l : List Field) (hs : fsz l < 100000000000) (hd : 5 ≤ d) (hn : 1000000000000 ≤ n) : cz n (d + 2) 77 [svL 2 (l.map Field.enc)] [] = some (out (fieldsFault l).sv) := by
  refine run (h77 l) false tab77 rfl ?_
  rw [w77]
  refine fork_dec.2 ⟨fun h => ?_, fun h => ?_⟩
  · have h' : l.length > 60 := by simp at h; omega
    simp only [fieldsFault, if_pos h']
  · have h' : ¬ l.length > 60 := by simp at h; omega
    have hA := at77 (n := n) (d := d + 1) l hs (by omega) hn l [] n rfl (by omega)
    simp only [fieldsFault, if_neg h']
    simp only [List.length_nil] at hA
    cases hf : firstBad l 0 with
    | some f => rw [hf] at hA; exact .inl ⟨f, hA, rfl⟩
    | none => rw [hf] at hA; exact .inr ⟨hA, rfl⟩
theorem i13 (y : UInt8) : ((((UInt8.toNat y) : Nat) : Int) == 13) = (y == 13) := byte_eq y 13
theorem i10 (y : UInt8) : ((((UInt8.toNat y) : Nat) : Int) == 10) = (y == 10) := byte_eq y 10
theorem at98 (l : Bytes) (hs : l.length < 100000000000) : ∀ (m : Nat) (suf pre : Bytes) (col : Nat), l = pre ++ suf → suf.length < m → col ≤ pre.length →
    At S0 (mix D0 cl) n [0, 3, 4] c98l0 (C98_0 l col pre.length) m (if bodyGo suf col == 0 then .exit 0 [] else .ret [((.s 2), (.sv (svI (bodyGo suf col))))])
  | 0, suf, pre, col, _, hm, _ => by omega
  | m + 1, suf, pre, col, he, hm, hc => by
    refine At.step hb98_0 ?_
    rw [b98_0]
    have hlen : l.length = pre.length + suf.length := by rw [he]; simp
    have hwc : IntKind.wrap .i64 ((col : Int) + 1) = ((col + 1 : Nat) : Int) := wrap1 (by omega)
    have hwi : IntKind.wrap .i64 ((pre.length : Int) + 1) = ((pre.length + 1 : Nat) : Int) := wrap1 (by omega)
    have hwi2 : IntKind.wrap .i64 (((pre.length + 1 : Nat) : Int) + 1) = ((pre.length + 2 : Nat) : Int) := wrap1 (by omega)
    rw [hwi, hwc, hwi2]
    simp only [i13, i10, List.length_map]
    cases suf with
    | nil =>
      refine fork_dec.2 ⟨fun h => ?_, fun h => rfl⟩
      simp at hlen; omega
    | cons x suf =>
      simp only [List.length_cons] at hlen hm
      refine fork_dec.2 ⟨fun _ => ⟨by omega, x, mget (by rw [he]; simp), ?_⟩, fun h => ?_⟩
      · cases suf with
        | nil =>
          refine fork_iff.2 ⟨fun hx => fork_dec.2 ⟨fun h => by simp at hlen; omega, fun h => fork_iff.2 ⟨fun _ => ?_, fun h' => tf _ hx h'⟩⟩, fun hx => fork_iff.2 ⟨fun h' => tf _ h' hx, fun _ => fork_iff.2 ⟨fun hy => ?_, fun hy => fork_dec.2 ⟨fun h9 => ?_, fun h9 => ?_⟩⟩⟩⟩
          · simp only [bodyGo, hx, Bool.true_or, if_true]; rfl
          · simp only [bodyGo, hy, Bool.or_true, if_true]; rfl
          · have h9' : col + 1 > 998 := by omega
            simp only [bodyGo, hx, hy, Bool.or_false, Bool.false_eq_true, if_false, if_pos h9']; rfl
          · have h9' : ¬ col + 1 > 998 := by omega
            have := at98 l hs m [] (pre ++ [x]) (col + 1) (by simp [he]) (by simp; omega) (by simp; omega)
            simp only [bodyGo, hx, hy, Bool.or_false, Bool.false_eq_true, if_false, if_neg h9']
            simp only [List.length_append, List.length_cons, List.length_nil, Nat.zero_add, bodyGo] at this
            exact this
        | cons y r =>
          simp only [List.length_cons] at hlen hm
          have next : bodyGo (x :: y :: r) col = bodyGo (y :: r) (col + 1) → At S0 (mix D0 cl) n [0, 3, 4] c98l0 (C98_0 l ((col + 1 : Nat) : Int) (pre.length + 1)) m (if bodyGo (x :: y :: r) col == 0 then .exit 0 [] else .ret [((.s 2), (.sv (svI (bodyGo (x :: y :: r) col))))]) := by
            intro h
            have := at98 l hs m (y :: r) (pre ++ [x]) (col + 1) (by simp [he]) (by simp; omega) (by simp; omega)
            simp only [List.length_append, List.length_cons, List.length_nil, Nat.zero_add] at this
            rw [h]
            exact this
          refine fork_iff.2 ⟨fun hx => fork_dec.2 ⟨fun h => ⟨by omega, y, by rw [Int.toNat_natCast]; exact mget (by rw [he]; simp), fork_iff.2 ⟨fun hy => ?_, fun hy => fork_iff.2 ⟨fun _ => ?_, fun h' => tf _ hx h'⟩⟩⟩, fun h => by omega⟩, fun hx => fork_iff.2 ⟨fun h' => tf _ h' hx, fun _ => fork_iff.2 ⟨fun hy => ?_, fun hy => fork_dec.2 ⟨fun h9 => ?_, fun h9 => ?_⟩⟩⟩⟩
          · have := at98 l hs m r (pre ++ [x, y]) 0 (by simp [he]) (by omega) (by omega)
            simp only [List.length_append, List.length_cons, List.length_nil, Nat.zero_add] at this
            simp only [bodyGo, hx, hy, Bool.and_self, if_true]
            exact this
          · simp only [bodyGo, hx, hy, Bool.and_false, Bool.false_eq_true, if_false, Bool.true_or, if_true]; rfl
          · simp only [bodyGo, hx, hy, Bool.false_and, Bool.false_eq_true, if_false, Bool.or_true, if_true]; rfl
          · have h9' : col + 1 > 998 := by omega
            simp only [bodyGo, hx, hy, Bool.false_and, Bool.false_eq_true, if_false, Bool.or_false, if_pos h9']; rfl
          · have h9' : ¬ col + 1 > 998 := by omega
            exact next (by simp only [bodyGo, hx, hy, Bool.false_and, Bool.false_eq_true, if_false, Bool.or_false, if_neg h9'])
      · omega
theorem k98 (l : Bytes) (hs : l.length < 100000000000) (hn : 1000000000000 ≤ n) : cz n (d + 2) 98 [svL 1 (l.map byteT)] [] = some (out (svI (bodyGo l 0))) := by
  refine run (h98 l) false tab98 rfl ?_
  rw [w98]
  have hA := at98 (n := n) (cl := cz n (d + 1)) l hs n l [] 0 rfl (by omega) (by omega)
  cases hz : bodyGo l 0 == 0 with
  | true =>
    rw [hz] at hA
    refine .inl ⟨hA, ?_⟩
    rw [beq_iff_eq] at hz
    rw [hz]
  | false => rw [hz] at hA; exact .inr ⟨_, hA, rfl⟩
theorem k78 (l : Bytes) (hs : l.length < 100000000000) (hd : 2 ≤ d) (hn : 1000000000000 ≤ n) : cz n (d + 2) 78 [svL 1 (l.map byteT)] [] = some (out (bodyFault l).sv) := by
  refine run h78 false tab78 rfl ?_
  rw [w78]
  refine ⟨_, deep (d := 2) (by omega) (k98 (n := n) (d := 0) l hs hn), fork_iff.2 ⟨fun h => ?_, fun h => fork_iff.2 ⟨fun h' => ?_, fun h' => ?_⟩⟩⟩
  · simp only [bodyFault, h, if_true]
  · simp only [bodyFault, h, h', if_true, if_false, Bool.false_eq_true]
  · simp only [bodyFault, h, h', if_false, Bool.false_eq_true]
end
end Go.Ev

namespace Go.Ev
open Go.Proofs.Ytbempckmbfbjgaa.Code
set_option maxRecDepth 100000
theorem writeB_len (m : Msg) : (writeB m).length ≤ 11 * m.sz := by
  have := writeF_len m.fields
  simp only [writeB, Msg.sz, List.length_append, List.length_cons, List.length_nil]
  omega
section
variable {n d : Nat} {cl : CallFn}
theorem at56_0 (msg : Msg) (i : Nat) (ls : List Bytes) (hs : ls.length < 4611686018427387904) : ∀ (suf pre : List Bytes) (acc : Bytes) (m : Nat), ls = pre ++ suf → suf.length < m → acc.length + (linesB suf).length < 100000000000000 →
    At S0 (mix D0 cl) n [1, 3, 11, 12, 13, 25, 26, 27] c56l0 (C56_0 msg acc i ls pre.length) m (.exit 2 [((.s 1), (.sv (.c (.one (.ptr 100 2 0))))), ((.s 3), (.sv (.c (.one (.own 300 1 0 (((acc ++ linesB suf).map byteT).length) (((acc ++ linesB suf).map byteT).length)))))), ((.s 11), (.sv (svL 2 (msg.fields.map Field.enc)))), ((.s 12), (.sv (svI ((((msg.fields.map Field.enc).length : Nat) : Int))))), ((.s 13), (.sv (svI (i : Int)))), ((.c 100 0), (.cell (.t msg.fs))), ((.c 100 1), (.cell (.t msg.bd))), ((.a 300), (.arr 1 ((acc ++ linesB suf).map byteT)))])
  | suf, pre, acc, 0, _, hm, _ => by omega
  | suf, pre, acc, m + 1, he, hm, hb => by
    refine At.step hb56_0 ?_
    rw [b56_0]
    have hlen : ls.length = pre.length + suf.length := by rw [he]; simp
    cases suf with
    | nil =>
      refine fork_dec.2 ⟨fun h => ?_, fun h => ?_⟩
      · simp at hlen h; omega
      · simp only [linesB, List.flatMap_nil, List.append_nil]
    | cons x suf =>
      simp only [List.length_cons] at hlen hm
      have hb' : acc.length + (x.length + 2 + (linesB suf).length) < 100000000000000 := by
        simp only [linesB, List.flatMap_cons, List.length_append, List.length_cons, List.length_nil] at hb ⊢; omega
      refine fork_dec.2 ⟨fun _ => ⟨by omega, x, mget (by rw [he]; simp), zle, dtrue, ⟨?_, ?_⟩, Nat.le_refl _, zle, dtrue, ⟨?_, ?_⟩, rfl, ?_⟩, fun h => ?_⟩
      · simp; omega
      · simp; omega
      · simp; omega
      · simp; omega
      · rw [wrap1 (by omega)]
        have e1 : List.map byteT acc ++ List.map byteT x ++ [[T.int .u8 13], [T.int .u8 10]] = (acc ++ (x ++ [13, 10])).map byteT := by simp [byteT]
        rw [e1]
        have := at56_0 msg i ls hs suf (pre ++ [x]) (acc ++ (x ++ [13, 10])) m (by simp [he]) (by omega) (by simp only [List.length_append, List.length_cons, List.length_nil]; omega)
        have e2 : acc ++ (x ++ [13, 10]) ++ linesB suf = acc ++ linesB (x :: suf) := by simp [linesB]
        rw [e2] at this
        simp only [List.length_append, List.length_cons, List.length_nil, Nat.zero_add] at this ⊢
        exact this
      · simp at h; omega
theorem at56_1 (msg : Msg) (hs : fsz msg.fields < 100000000000) (hd : 5 ≤ d) (hn : 1000000000000 ≤ n) : ∀ (suf pre : List Field) (acc : Bytes) (m : Nat), msg.fields = pre ++ suf → suf.length < m → acc.length + (writeF suf).length < 100000000000000 →
    At S0 (mix D0 (cz n d)) n [1, 3, 11, 12, 13] c56l1 (C56_1 msg acc pre.length) m (.exit 0 [((.s 1), (.sv (.c (.one (.ptr 100 2 0))))), ((.s 3), (.sv (.c (.one (.own 300 1 0 (((acc ++ writeF suf).map byteT).length) (((acc ++ writeF suf).map byteT).length)))))), ((.c 100 0), (.cell (.t msg.fs))), ((.c 100 1), (.cell (.t msg.bd))), ((.a 300), (.arr 1 ((acc ++ writeF suf).map byteT)))])
  | suf, pre, acc, 0, _, hm, _ => by omega
  | suf, pre, acc, m + 1, he, hm, hb => by
    refine At.step (hb56_1 msg acc pre.length) ?_
    rw [b56_1]
    have hlen : msg.fields.length = pre.length + suf.length := by rw [he]; simp
    have hfl := fsz_len msg.fields
    cases suf with
    | nil =>
      refine fork_dec.2 ⟨fun h => ?_, fun h => ?_⟩
      · simp at hlen h; omega
      · simp only [writeF, List.flatMap_nil, List.append_nil]
    | cons x suf =>
      simp only [List.length_cons] at hlen hm
      have hx := fsz_mem (f := x) (l := msg.fields) (by rw [he]; simp)
      have hfx := fieldB_len x
      simp only [Field.sz] at hfx
      have hll : (foldRes x.n x.v).1.length < 1000000000000 := by
        have := linesB_len (foldRes x.n x.v).1
        simp only [fieldB] at hfx
        omega
      have hb' : acc.length + ((fieldB x).length + (writeF suf).length) < 100000000000000 := by
        simp only [writeF, List.flatMap_cons, List.length_append] at hb ⊢; omega
      refine fork_dec.2 ⟨fun _ => ⟨by omega, x, mget (by rw [he]; simp), (foldRes x.n x.v).1, (foldRes x.n x.v).2, deep hd (k87 (n := n) (d := 3) x.n x.v (by omega) (by omega) (by omega) hn), rfl, acc ++ fieldB x, ?_, rfl, ?_⟩, fun h => ?_⟩
      · have := at56_0 (n := n) (cl := cz n d) msg pre.length (foldRes x.n x.v).1 (by omega) (foldRes x.n x.v).1 [] acc n rfl (by omega) (show acc.length + (fieldB x).length < _ by omega)
        exact this
      · rw [wrap1 (by omega)]
        have := at56_1 msg hs hd hn suf (pre ++ [x]) (acc ++ fieldB x) m (by simp [he]) (by omega) (by simp only [List.length_append]; omega)
        have e2 : acc ++ fieldB x ++ writeF suf = acc ++ writeF (x :: suf) := by simp [writeF]
        rw [e2] at this
        simp only [List.length_append, List.length_cons, List.length_nil, Nat.zero_add] at this ⊢
        exact this
      · simp at h; omega
theorem k56 (m : Msg) (hs : m.sz < 100000000000) (hd : 5 ≤ d) (hn : 1000000000000 ≤ n) : cz n (d + 2) 56 [m.sv] [] = some (out (svL 1 ((writeB m).map byteT))) := by
  refine run (h56 m) true tab56 rfl ?_
  rw [w56]
  have hw := writeB_len m
  have hw2 : (writeB m).length = (writeF m.fields).length + 2 + m.body.length := by simp [writeB]; omega
  have hms : m.sz = fsz m.fields + m.body.length + 1 := rfl
  have hfl := fsz_len m.fields
  have hA := at56_1 (n := n) (d := d + 1) m (by omega) (by omega) hn m.fields [] [] n rfl (by omega) (by simp; omega)
  rw [List.nil_append] at hA
  refine ⟨writeF m.fields, hA, Nat.le_refl _, zle, dtrue, ⟨?_, ?_⟩, zle, dtrue, ⟨?_, ?_⟩, ⟨zle, trivial⟩, ?_⟩
  · simp; omega
  · simp; omega
  · simp; omega
  · simp; omega
  · rw [List.drop_zero, List.take_length]
    have e1 : List.map byteT (writeF m.fields) ++ [[T.int .u8 13], [T.int .u8 10]] ++ List.map byteT m.body = (writeB m).map byteT := by simp [writeB, byteT]
    rw [e1]
theorem k47 (m : Msg) (hs : m.sz < 100000000000) (hd : 7 ≤ d) (hn : 1000000000000 ≤ n) : cz n (d + 2) 47 [m.sv] [] = some (out (msgFault m).sv) := by
  have hms : m.sz = fsz m.fields + m.body.length + 1 := rfl
  refine run h47 false tab47 rfl ?_
  rw [w47]
  refine ⟨fieldsFault m.fields, deep (d := 7) (by omega) (k77 (n := n) (d := 5) m.fields (by omega) (by omega) hn), fork_iff.2 ⟨fun h => ?_, fun h => ⟨writeB m, deep (d := 7) (by omega) (k56 (n := n) (d := 5) m hs (by omega) hn), fork_dec.2 ⟨fun h' => ?_, fun h' => ⟨_, deep (d := 4) (by omega) (k78 (n := n) (d := 2) m.body (by omega) (by omega) hn), ?_⟩⟩⟩⟩⟩
  · simp only [msgFault, h, if_true]
  · have h2 : (writeB m).length > 12000 := by simp at h'; omega
    simp only [msgFault, h, Bool.false_eq_true, if_false, if_pos h2]
  · have h2 : ¬ (writeB m).length > 12000 := by simp at h'; omega
    simp only [msgFault, h, Bool.false_eq_true, if_false, if_neg h2]
/-- what Write returns -/
def writeRes (m : Msg) : Bytes × Fault := if (msgFault m).code != 0 then ([], msgFault m) else (writeB m, ⟨0, 0⟩)
theorem k18 (m : Msg) (hs : m.sz < 100000000000) (hd : 9 ≤ d) (hn : 1000000000000 ≤ n) : cz n (d + 2) 18 [m.sv] [] = some (out (.tup [.one (.t (.sl 1 ((writeRes m).1.map byteT))), (writeRes m).2.cv])) := by
  refine run h18 true tab18 rfl ?_
  rw [w18]
  refine ⟨msgFault m, deep (d := 9) (by omega) (k47 (n := n) (d := 7) m hs (by omega) hn), fork_iff.2 ⟨fun h => ⟨trivial, ?_⟩, fun h => ⟨writeB m, deep (d := 7) (by omega) (k56 (n := n) (d := 5) m hs (by omega) hn), trivial, ?_⟩⟩⟩
  · simp only [writeRes, h, if_true, List.map_nil]
  · simp only [writeRes, h, Bool.false_eq_true, if_false]
theorem k52 (m : Msg) (hs : m.sz < 100000000000) (hd : 11 ≤ d) (hn : 1000000000000 ≤ n) : cz n (d + 2) 52 [m.sv] [] = some (out (Limit.sv ⟨((writeRes m).1.length : Nat), 1⟩)) := by
  refine run h52 false tab52 rfl ?_
  rw [w52]
  refine ⟨_, _, deep (d := 11) (by omega) (k18 (n := n) (d := 9) m hs (by omega) hn), ?_⟩
  rw [List.length_map]
end
end Go.Ev
