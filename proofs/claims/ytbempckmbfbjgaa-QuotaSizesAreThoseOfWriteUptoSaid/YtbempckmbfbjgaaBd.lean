/- The evaluator is monotone; what must hold of its runs; frozen results. No condition. -/
import Derived.Test.YtbempckmbfbjgaaBc
set_option linter.unusedVariables false
set_option linter.unusedSimpArgs false
set_option linter.constructorNameAsVariable false
set_option linter.unnecessarySimpa false
namespace Go.Ev
/-- q answers all that p answers, and alike -/
def RP.le {α : Type} : RP α → RP α → Prop
  | .fail, _ => True
  | .ret a, .ret b => a = b
  | .rd l k, .rd l' k' => l = l' ∧ ∀ v, (k v).le (k' v)
  | .chk c _ k, .chk c' _ k' => c = c' ∧ k.le k'
  | .br b t e, .br b' t' e' => b = b' ∧ t.le t' ∧ e.le e'
  | .elem es n k, .elem es' n' k' => es = es' ∧ n = n' ∧ ∀ v, (k v).le (k' v)
  | .byte es n k, .byte es' n' k' => es = es' ∧ n = n' ∧ ∀ v, (k v).le (k' v)
  | .str o k, .str o' k' => o = o' ∧ ∀ v, (k v).le (k' v)
  | .res o k, .res o' k' => (∀ r, o = some r → o' = some r) ∧ ∀ v, (k v).le (k' v)
  | _, _ => False
theorem RP.le_refl {α : Type} : ∀ p : RP α, p.le p
  | .fail => trivial
  | .ret _ => rfl
  | .rd _ k => ⟨rfl, fun v => (k v).le_refl⟩
  | .chk _ _ k => ⟨rfl, k.le_refl⟩
  | .br _ t e => ⟨rfl, t.le_refl, e.le_refl⟩
  | .elem _ _ k => ⟨rfl, rfl, fun v => (k v).le_refl⟩
  | .byte _ _ k => ⟨rfl, rfl, fun v => (k v).le_refl⟩
  | .str _ k => ⟨rfl, fun v => (k v).le_refl⟩
  | .res _ k => ⟨fun _ h => h, fun v => (k v).le_refl⟩
theorem RP.le_val {α : Type} {g : Facts} {r : α} : ∀ {p q : RP α}, p.le q → p.val g = some r → q.val g = some r ∧ q.reads g = p.reads g := by
  intro p
  induction p with
  | fail => intro q _ h; cases h
  | ret a =>
    intro q hq h
    cases q <;> first | (simp only [RP.le] at hq; done) | skip
    cases hq
    exact ⟨h, rfl⟩
  | rd l k ih =>
    intro q hq h
    cases q <;> first | (simp only [RP.le] at hq; done) | skip
    obtain ⟨rfl, hk⟩ := hq
    simp only [RP.val, RP.reads] at h ⊢
    split at h
    · rename_i v hv
      have := ih v (hk v) h
      exact ⟨this.1, by rw [this.2]⟩
    · cases h
  | chk c d k ih =>
    intro q hq h
    cases q <;> first | (simp only [RP.le] at hq; done) | skip
    obtain ⟨rfl, hk⟩ := hq
    simp only [RP.val] at h
    split at h
    · rename_i hc
      have := ih hk h
      simp only [RP.val, RP.reads, if_pos hc]
      exact this
    · cases h
  | br b t e iht ihe =>
    intro q hq h
    cases q <;> first | (simp only [RP.le] at hq; done) | skip
    obtain ⟨rfl, ht, he⟩ := hq
    cases b with
    | true => simp only [RP.val, RP.reads, if_true] at h ⊢; exact iht ht h
    | false => simp only [RP.val, RP.reads, Bool.false_eq_true, if_false] at h ⊢; exact ihe he h
  | elem es n k ih =>
    intro q hq h
    cases q <;> first | (simp only [RP.le] at hq; done) | skip
    obtain ⟨rfl, rfl, hk⟩ := hq
    obtain ⟨e, he, h⟩ := elem_ok h
    have := ih e (hk e) h
    simp only [RP.val, RP.reads, he]
    exact this
  | byte es n k ih =>
    intro q hq h
    cases q <;> first | (simp only [RP.le] at hq; done) | skip
    obtain ⟨rfl, rfl, hk⟩ := hq
    obtain ⟨e, he, h⟩ := byte_ok h
    have := ih e (hk e) h
    simp only [RP.val, RP.reads, he]
    exact this
  | str o k ih =>
    intro q hq h
    cases q <;> first | (simp only [RP.le] at hq; done) | skip
    obtain ⟨rfl, hk⟩ := hq
    obtain ⟨e, he, h⟩ := str_ok h
    subst he
    have := ih e (hk e) h
    simp only [RP.val, RP.reads]
    exact this
  | res o k ih =>
    intro q hq h
    cases q <;> first | (simp only [RP.le] at hq; done) | skip
    obtain ⟨ho, hk⟩ := hq
    obtain ⟨e, he, h⟩ := res_ok h
    have := ih e (hk e) h
    simp only [RP.val, RP.reads, ho e he, he]
    exact this
theorem get_le {α : Type} {x : Opd} {k k' : SV → RP α} (h : ∀ v, (k v).le (k' v)) : (x.get k).le (x.get k') := by
  cases x <;> simp only [Opd.get]
  case t => refine ⟨rfl, fun v => ?_⟩; cases v with
    | sv v => exact h v
    | cell => exact trivial
    | arr => exact trivial
  all_goals exact h _
theorem gets_le {α : Type} : ∀ {xs : List Opd} {k k' : List SV → RP α}, (∀ v, (k v).le (k' v)) → (gets xs k).le (gets xs k')
  | [], _, _, h => h []
  | _ :: _, _, _, h => get_le fun _ => gets_le fun _ => h _
theorem rdCells_le {α : Type} {k : Key} : ∀ {n i : Nat} {c c' : List AV → RP α}, (∀ v, (c v).le (c' v)) → (rdCells k i n c).le (rdCells k i n c')
  | 0, _, _, _, h => h []
  | n + 1, i, c, c', h => by
    simp only [rdCells]
    refine ⟨rfl, fun v => ?_⟩
    cases v with
    | cell x => exact rdCells_le fun _ => h _
    | sv => exact trivial
    | arr => exact trivial
theorem gather_le {α : Type} : ∀ {n : Nat} {todo : List (Key × Option Nat)} {acc : List (Key × Mem)} {c c' : List (Key × Mem) → RP α}, (∀ v, (c v).le (c' v)) → (gather n todo acc c).le (gather n todo acc c')
  | 0, _, _, _, _, _ => trivial
  | n + 1, [], _, _, _, h => h _
  | n + 1, (k, o) :: todo, acc, c, c', h => by
    simp only [gather]
    split
    · exact gather_le h
    · cases o with
      | some m =>
        simp only
        split
        · exact trivial
        · exact rdCells_le fun _ => gather_le h
      | none =>
        refine ⟨rfl, fun v => ?_⟩
        cases v with
        | arr sz es => exact gather_le h
        | sv => exact trivial
        | cell => exact trivial
def CLe (cl cl' : CallFn) : Prop := ∀ f vs ms r, cl f vs ms = some r → cl' f vs ms = some r
section
variable {S : Sum} {cl cl' : CallFn} (hcl : CLe cl cl')
include hcl
theorem callRP_le {d : Nat} {f : FuncId} {vs : List SV} : (callRP cl d f vs).le (callRP cl' d f vs) := by
  unfold callRP
  refine gather_le fun l => ?_
  split
  · exact ⟨fun r => hcl _ _ _ r, fun v => RP.le_refl _⟩
  · exact trivial
theorem Ins.rp_le (i : Ins) : (i.rp S cl).le (i.rp S cl') := by
  cases i <;> first | exact RP.le_refl _ | skip
  case call d f xs =>
    refine gets_le fun vs => ?_
    split
    · exact RP.le_refl _
    · exact callRP_le hcl
  case callv d x xs =>
    refine get_le fun v => ?_
    split
    · exact gets_le fun vs => callRP_le hcl
    · exact trivial
theorem GI.rp_le (o : GI) : (o.rp S cl).le (o.rp S cl') := by
  unfold GI.rp
  split
  · exact Ins.rp_le hcl _
  · refine ⟨rfl, fun v => ?_⟩
    split
    · simp only
      split
      · rename_i b
        cases b
        · exact RP.le_refl _
        · exact Ins.rp_le hcl _
      · exact RP.le_refl _
      · exact trivial
    · simp only
      split
      · rename_i b
        cases b
        · exact Ins.rp_le hcl _
        · exact RP.le_refl _
      · exact RP.le_refl _
      · exact trivial
theorem evalI_le {o : GI} {L L' : St} (h : evalI S cl o L = some L') : evalI S cl' o L = some L' := by
  unfold evalI at h ⊢
  split at h
  · rename_i ws ns hv
    rw [(RP.le_val (GI.rp_le hcl o) hv).1]
    exact h
  · cases h
theorem evalSeq_le : ∀ {is : List GI} {L L' : St}, evalSeq S cl is L = some L' → evalSeq S cl' is L = some L'
  | [], _, _, h => h
  | o :: os, L, L', h => by
    simp only [evalSeq] at h ⊢
    split at h
    · rename_i L1 h1
      rw [evalI_le hcl h1]
      exact evalSeq_le h
    · cases h
theorem evalD_le : ∀ {is : List GI} {L : St} {r : List Rec × St}, evalD S cl is L = some r → evalD S cl' is L = some r
  | [], _, _, h => h
  | o :: os, L, r, h => by
    simp only [evalD] at h ⊢
    split at h
    · rename_i ws ns hv
      obtain ⟨h1, h2⟩ := RP.le_val (GI.rp_le hcl o) hv
      rw [h1, h2]
      simp only
      split at h
      · rename_i hc
        rw [if_pos hc]
        split at h
        · rename_i rs L2 h3
          rw [evalD_le h3]
          exact h
        · cases h
      · cases h
    · cases h
theorem evalR_le {is : List GI} {ord : Option (List Nat)} {L L' : St} (h : evalR S cl is ord L = some L') : evalR S cl' is ord L = some L' := by
  unfold evalR at h ⊢
  split at h
  · exact evalSeq_le hcl h
  · split at h
    · rename_i rs L2 h1
      rw [evalD_le hcl h1]
      exact h
    · cases h
omit hcl in
theorem loopN_le {f f' : St → Option Out} (hf : ∀ L o, f L = some o → f' L = some o) : ∀ {n n' : Nat} {L : St} {o : Out}, n ≤ n' → loopN n f L = some o → loopN n' f' L = some o
  | 0, _, _, _, _, h => by cases h
  | n + 1, 0, _, _, hn, _ => by cases hn
  | n + 1, n' + 1, L, o, hn, h => by
    simp only [loopN] at h ⊢
    cases hq : f L with
    | none => rw [hq] at h; cases h
    | some q =>
      rw [hq] at h
      rw [hf L q hq]
      cases q with
      | norm L' => exact loopN_le hf (Nat.le_of_succ_le_succ hn) h
      | exit i L' => exact h
      | ret L' => exact h
theorem evalC_le {n n' : Nat} (hn : n ≤ n') : ∀ (c : AC) {L : St} {o : Out}, evalC S cl n c L = some o → evalC S cl' n' c L = some o := by
  intro c
  induction c with
  | skip => intro L o h; exact h
  | exit id => intro L o h; exact h
  | ret => intro L o h; exact h
  | region is ord =>
    intro L o h
    simp only [evalC, Option.map_eq_some_iff] at h ⊢
    obtain ⟨L', h1, h2⟩ := h
    exact ⟨L', evalR_le hcl h1, h2⟩
  | seq a b iha ihb =>
    intro L o h
    simp only [evalC] at h ⊢
    cases hq : evalC S cl n a L with
    | none => rw [hq] at h; cases h
    | some q =>
      rw [hq] at h
      rw [iha hq]
      cases q with
      | norm L' => exact ihb h
      | exit i L' => exact h
      | ret L' => exact h
  | cond c a b iha ihb =>
    intro L o h
    simp only [evalC] at h ⊢
    split at h
    · exact iha h
    · exact ihb h
    · cases h
  | block id a ih =>
    intro L o h
    simp only [evalC] at h ⊢
    cases hq : evalC S cl n a L with
    | none => rw [hq] at h; cases h
    | some q =>
      rw [hq] at h
      rw [ih hq]
      exact h
  | loop a ih =>
    intro L o h
    simp only [evalC] at h ⊢
    exact loopN_le (fun L o => ih) hn h
  | filt ss a ih =>
    intro L o h
    simp only [evalC] at h ⊢
    split at h
    · exact ih h
    · cases h
  | own s sz k a ih =>
    intro L o h
    simp only [evalC] at h ⊢
    split at h
    · exact ih h
    · cases h
theorem evalFn_le {n n' : Nat} (hn : n ≤ n') {fc : FnC} {vs : List SV} {ms : List Mem} {r : CRes} (h : evalFn S cl n fc vs ms = some r) : evalFn S cl' n' fc vs ms = some r := by
  unfold evalFn at h ⊢
  split at h
  · rename_i hc
    rw [if_pos hc]
    cases hq : evalC S cl n fc.body (slotsOf 0 vs ++ memsOf 0 ms) with
    | none => rw [hq] at h; cases h
    | some q =>
      rw [hq] at h
      rw [evalC_le hcl hn _ hq]
      exact h
  · cases h
end
theorem callN_le {A : Tab} {S : Sum} {n n' : Nat} (hn : n ≤ n') : ∀ {d d' : Nat}, d ≤ d' → CLe (callN A S n d) (callN A S n' d')
  | 0, _, _, _, _, _, _, h => by cases h
  | d + 1, 0, hd, _, _, _, _, _ => by cases hd
  | d + 1, d' + 1, hd, f, vs, ms, r, h => by
    simp only [callN] at h ⊢
    split at h
    · exact evalFn_le (callN_le hn (Nat.le_of_succ_le_succ hd)) hn h
    · cases h
end Go.Ev

namespace Go.Ev
/-- a fork -/
def fork (b : Bool) (t e : Prop) : Prop := Bool.rec e t b
theorem fork_iff {b : Bool} {t e : Prop} : fork b t e ↔ (b = true → t) ∧ (b = false → e) := by
  cases b
  · exact ⟨fun h => ⟨fun h' => (nomatch h'), fun _ => h⟩, fun h => h.2 rfl⟩
  · exact ⟨fun h => ⟨fun _ => h, fun h' => (nomatch h')⟩, fun h => h.1 rfl⟩
/-- what something looks like, up to values that are named -/
inductive Tel (α : Type) : Type 1 where
  | ret (a : α)
  | ex (β : Type) (k : β → Tel α)
  | or (a b : Tel α)
def Tel.ho {α : Type} : Tel α → (α → Prop) → (α → Prop) → Prop
  | .ret a, p, K => p a ∧ K a
  | .ex β k, p, K => ∃ b : β, (k b).ho p K
  | .or a b, p, K => a.ho p K ∨ b.ho p K
theorem Tel.ho_ok {α : Type} {p K : α → Prop} : ∀ {t : Tel α}, t.ho p K → ∃ a, p a ∧ K a
  | .ret a, h => ⟨a, h⟩
  | .ex _ _, ⟨_, h⟩ => Tel.ho_ok h
  | .or _ _, .inl h => Tel.ho_ok h
  | .or _ _, .inr h => Tel.ho_ok h
def RP.wp {α : Type} (he : Option (Tel (List T))) (hr : Option (Tel CRes)) : RP α → List Bool → Facts → (List Loc → α → Prop) → Prop
  | .ret a, _, _, K => K [] a
  | .fail, _, _, _ => False
  | .rd l k, hb, g, K => match g l with
    | some v => (k v).wp he hr hb g fun rs => K (l :: rs)
    | none => False
  | .chk c _ k, hb, g, K => c ∧ k.wp he hr hb g K
  | .br b t e, hb, g, K => match hb with
    | [] => fork b (t.wp he hr [] g K) (e.wp he hr [] g K)
    | true :: hb => b = true ∧ t.wp he hr hb g K
    | false :: hb => b = false ∧ e.wp he hr hb g K
  | .elem es n k, hb, g, K => match he with
    | some t => t.ho (fun x => es[n]? = some x) fun x => (k x).wp he hr hb g K
    | none => match es[n]? with
      | some x => (k x).wp he hr hb g K
      | none => False
  | .byte l n k, hb, g, K => ∃ x, l[n]? = some x ∧ (k x).wp he hr hb g K
  | .str o k, hb, g, K => ∃ x, o = some x ∧ (k x).wp he hr hb g K
  | .res o k, hb, g, K => match hr with
    | some t => t.ho (fun x => o = some x) fun x => (k x).wp he hr hb g K
    | none => match o with
      | some x => (k x).wp he hr hb g K
      | none => False
theorem RP.wp_ok {α : Type} {he : Option (Tel (List T))} {hr : Option (Tel CRes)} {g : Facts} : ∀ {p : RP α} {hb : List Bool} {K : List Loc → α → Prop}, p.wp he hr hb g K → ∃ a, p.val g = some a ∧ K (p.reads g) a
  | .ret a, _, _, h => ⟨a, rfl, h⟩
  | .fail, _, _, h => h.elim
  | .rd l k, hb, K, h => by
    simp only [RP.wp] at h
    simp only [RP.val, RP.reads]
    split at h
    · rename_i v hv
      simp only [hv]
      exact RP.wp_ok h
    · exact h.elim
  | .chk c d k, hb, K, h => by
    obtain ⟨a, h1, h2⟩ := RP.wp_ok (p := k) h.2
    exact ⟨a, by simp only [RP.val]; rw [if_pos h.1]; exact h1, by simp only [RP.reads]; rw [if_pos h.1]; exact h2⟩
  | .br b t e, hb, K, h => by
    rw [RP.wp.eq_def] at h
    simp only at h
    split at h
    · cases b with
      | true => simp only [RP.val, RP.reads, if_true]; exact RP.wp_ok (p := t) h
      | false => simp only [RP.val, RP.reads, Bool.false_eq_true, if_false]; exact RP.wp_ok (p := e) h
    · obtain ⟨rfl, h⟩ := h
      simp only [RP.val, RP.reads, if_true]; exact RP.wp_ok (p := t) h
    · obtain ⟨rfl, h⟩ := h
      simp only [RP.val, RP.reads, Bool.false_eq_true, if_false]; exact RP.wp_ok (p := e) h
  | .elem es n k, hb, K, h => by
    rw [RP.wp.eq_def] at h
    simp only at h
    simp only [RP.val, RP.reads]
    split at h
    · obtain ⟨x, h1, h2⟩ := Tel.ho_ok h
      simp only [h1]
      exact RP.wp_ok h2
    · split at h
      · rename_i x hx
        simp only [hx]
        exact RP.wp_ok h
      · exact h.elim
  | .byte l n k, hb, K, h => by
    obtain ⟨x, h1, h2⟩ := h
    simp only [RP.val, RP.reads, h1]
    exact RP.wp_ok h2
  | .str o k, hb, K, h => by
    obtain ⟨x, h1, h2⟩ := h
    simp only [RP.val, RP.reads, h1]
    exact RP.wp_ok h2
  | .res o k, hb, K, h => by
    rw [RP.wp.eq_def] at h
    simp only at h
    rw [RP.val.eq_def, RP.reads.eq_def]
    simp only
    split at h
    · obtain ⟨x, h1, h2⟩ := Tel.ho_ok h
      simp only [h1]
      exact RP.wp_ok h2
    · split at h
      · exact RP.wp_ok h
      · exact h.elim
/-- hints: for elements and calls by the slot, for loops by their number -/
structure Hints where
  he : List (Nat × Tel (List T))
  hr : List (Nat × Tel CRes)
  hl : List (Nat × Tel Out)
  hb : List (Nat × List Bool) := []
universe u in
def hget {α : Type u} (n : Nat) : List (Nat × α) → Option α
  | [] => none
  | (m, a) :: l => if n = m then some a else hget n l
/-- a Bool is told apart -/
def spV (x : Option Val) (K : Option Val → Prop) : Prop :=
  match x with
  | some (.sv (.c (.one (.t (.bool b))))) => fork b (K (some (.sv (.c (.one (.t (.bool true))))))) (K (some (.sv (.c (.one (.t (.bool false)))))))
  | x => K x
theorem spV_ok {x : Option Val} {K : Option Val → Prop} (h : spV x K) : K x := by
  unfold spV at h
  split at h
  · rename_i b
    cases b <;> exact h
  · exact h
def spW : Ws → (Ws → Prop) → Prop
  | [], K => K []
  | (l, x) :: ws, K => spV x fun y => spW ws fun m => K ((l, y) :: m)
theorem spW_ok : ∀ {ws : Ws} {K : Ws → Prop}, spW ws K → K ws
  | [], _, h => h
  | (_, _) :: ws, _, h => spW_ok (ws := ws) (spV_ok h)
section
variable (S : Sum) (cl : CallFn) (H : Hints)
def Ins.slot (i : Ins) : Nat := match i.dst with
  | some d => d
  | none => 0
def wpI (o : GI) (L : St) (K : St → Prop) : Prop :=
  (o.rp S cl).wp (hget o.i.slot H.he) (hget o.i.slot H.hr) ((hget o.i.slot H.hb).getD []) L.get fun _ e => if e.2.all L.fresh && okWs e.1 then spW e.1 fun ws => K (St.app (ws ++ marksW ws) L) else False
def wpSeq : List GI → St → (St → Prop) → Prop
  | [], L, K => K L
  | o :: os, L, K => wpI S cl H o L fun L' => wpSeq os L' K
def wpD : List GI → St → (List Rec → St → Prop) → Prop
  | [], L, K => K [] L
  | o :: os, L, K => (o.rp S cl).wp (hget o.i.slot H.he) (hget o.i.slot H.hr) ((hget o.i.slot H.hb).getD []) L.get fun rd e => if e.2.all L.fresh && okWs e.1 then spW e.1 fun ws => wpD os (St.app (ws ++ marksW ws) L) fun rs L' => K (⟨rd, ws ++ marksW ws, e.2⟩ :: rs) L' else False
def wpR (is : List GI) (ord : Option (List Nat)) (L : St) (K : St → Prop) : Prop :=
  match ord with
  | none => wpSeq S cl H is L K
  | some o => wpD S cl H is L fun rs L' => if rs.all (fun r => r.ns.all L.fresh) && okAll o 0 [] rs then K L' else False
end
section
variable {S : Sum} {cl : CallFn} {H : Hints}
theorem wpI_ok {o : GI} {L : St} {K : St → Prop} (h : wpI S cl H o L K) : ∃ L', evalI S cl o L = some L' ∧ K L' := by
  unfold wpI at h
  obtain ⟨⟨ws, ns⟩, h1, h2⟩ := RP.wp_ok h
  simp only at h2
  unfold evalI
  rw [h1]
  simp only
  split at h2
  · rename_i hc
    rw [if_pos hc]
    exact ⟨_, rfl, spW_ok (K := fun ws => K (St.app (ws ++ marksW ws) L)) h2⟩
  · exact h2.elim
theorem wpSeq_ok : ∀ {is : List GI} {L : St} {K : St → Prop}, wpSeq S cl H is L K → ∃ L', evalSeq S cl is L = some L' ∧ K L'
  | [], L, _, h => ⟨L, rfl, h⟩
  | o :: os, L, K, h => by
    obtain ⟨L1, h1, h2⟩ := wpI_ok h
    simp only [evalSeq, h1]
    exact wpSeq_ok h2
theorem wpD_ok : ∀ {is : List GI} {L : St} {K : List Rec → St → Prop}, wpD S cl H is L K → ∃ rs L', evalD S cl is L = some (rs, L') ∧ K rs L'
  | [], L, _, h => ⟨[], L, rfl, h⟩
  | o :: os, L, K, h => by
    simp only [wpD] at h
    obtain ⟨⟨ws, ns⟩, h1, h2⟩ := RP.wp_ok h
    simp only at h2
    simp only [evalD, h1]
    split at h2
    · rename_i hc
      rw [if_pos hc]
      have h3 := spW_ok (K := fun ws => wpD S cl H os (St.app (ws ++ marksW ws) L) fun rs L' => K (⟨(o.rp S cl).reads L.get, ws ++ marksW ws, ns⟩ :: rs) L') h2
      obtain ⟨rs, L', h4, h5⟩ := wpD_ok h3
      rw [h4]
      exact ⟨_, _, rfl, h5⟩
    · exact h2.elim
theorem wpR_ok {is : List GI} {ord : Option (List Nat)} {L : St} {K : St → Prop} (h : wpR S cl H is ord L K) : ∃ L', evalR S cl is ord L = some L' ∧ K L' := by
  unfold wpR at h
  unfold evalR
  split at h
  · exact wpSeq_ok h
  · obtain ⟨rs, L', h1, h2⟩ := wpD_ok h
    split at h2
    · rename_i hc
      rw [h1]
      simp only
      rw [if_pos hc]
      exact ⟨L', rfl, h2⟩
    · exact h2.elim
end
/-- how many loops -/
def AC.nl : AC → Nat
  | .seq a b | .cond _ a b => a.nl + b.nl
  | .block _ a | .filt _ a | .own _ _ _ a => a.nl
  | .loop _ => 1
  | _ => 0
/-- the rows of its own that a loop's head names anew -/
def AC.peel : AC → AC
  | .own _ _ _ a => a.peel
  | a => a
def ownsL : AC → St → Option St
  | .own s sz k a, L => match ownX s sz k L with
    | some L' => ownsL a L'
    | none => none
  | _, L => some L
theorem evalC_peel {S : Sum} {cl : CallFn} {n : Nat} : ∀ {a : AC} {L C : St}, ownsL a L = some C → evalC S cl n a L = evalC S cl n a.peel C := by
  intro a
  induction a with
  | own s sz k a ih =>
    intro L C h
    simp only [ownsL] at h
    split at h
    · rename_i L' hL
      simp only [evalC, AC.peel, hL]
      exact ih h
    · cases h
  | _ => intro L C h; injection h with h; subst h; rfl
def ownS (s sz : Nat) (k : Key) (L : St) (K : St → Prop) : Prop :=
  match L.get (.s s) with
  | some (.sv (.c (.one (.nilsl _)))) => if L.fresh k && k < 1000000 then K (St.app [(.a k, some (.arr sz [])), (.s s, some (.sv (.c (.one (.own k sz 0 0 0)))))] L) else False
  | some (.sv (.c (.one (.own k' sz' 0 len _)))) => match L.get (.a k') with
    | some (.arr sz'' es) =>
      if sz' = sz ∧ sz'' = sz ∧ (St.app [(.s s, none), (.a k', none)] L).fresh k = true ∧ (St.app [(.s s, none), (.a k', none)] L).fresh k' = true ∧ k < 1000000 then
        len = es.length ∧ K (St.app [(.a k, some (.arr sz es)), (.s s, some (.sv (.c (.one (.own k sz 0 es.length es.length)))))] (St.app [(.s s, none), (.a k', none)] L))
      else False
    | _ => False
  | _ => False
theorem ownS_ok {s sz : Nat} {k : Key} {L : St} {K : St → Prop} (h : ownS s sz k L K) : ∃ L', ownL s sz k L = some L' ∧ K L' := by
  unfold ownS at h
  unfold ownL
  split at h
  · rename_i z hg
    simp only [hg]
    split at h
    · rename_i hc
      rw [if_pos hc]
      exact ⟨_, rfl, h⟩
    · exact h.elim
  · rename_i k' sz' len c hg
    simp only [hg]
    split at h
    · rename_i sz'' es hk
      simp only [hk]
      split at h
      · rename_i hc
        obtain ⟨rfl, h⟩ := h
        rw [if_pos ⟨hc.1, hc.2.1, Nat.le_refl _, hc.2.2.1, hc.2.2.2.1, hc.2.2.2.2⟩, List.take_length]
        exact ⟨_, rfl, h⟩
      · exact h.elim
    · exact h.elim
  · exact h.elim
def ownCP (k0 i sz : Nat) (k : Key) (L : St) (K : St → Prop) : Prop :=
  match L.get (.c k0 i) with
  | some (.cell (.nilsl _)) => if L.fresh k && k < 1000000 && k0 < 1000000 && k != k0 then K (St.app [(.a k, some (.arr sz [])), (.c k0 i, some (.cell (.own k sz 0 0 0)))] L) else False
  | some (.cell (.own k' sz' 0 len _)) => match L.get (.a k') with
    | some (.arr sz'' es) =>
      if sz' = sz ∧ sz'' = sz ∧ (St.app [(.c k0 i, none), (.a k', none)] L).fresh k = true ∧ (St.app [(.c k0 i, none), (.a k', none)] L).fresh k' = true ∧ k < 1000000 ∧ k0 < 1000000 ∧ k ≠ k0 then
        len = es.length ∧ K (St.app [(.a k, some (.arr sz es)), (.c k0 i, some (.cell (.own k sz 0 es.length es.length)))] (St.app [(.c k0 i, none), (.a k', none)] L))
      else False
    | _ => False
  | _ => False
theorem ownCP_ok {k0 i sz : Nat} {k : Key} {L : St} {K : St → Prop} (h : ownCP k0 i sz k L K) : ∃ L', ownC k0 i sz k L = some L' ∧ K L' := by
  unfold ownCP at h
  unfold ownC
  split at h
  · rename_i z hg
    simp only [hg]
    split at h
    · rename_i hc
      rw [if_pos hc]
      exact ⟨_, rfl, h⟩
    · exact h.elim
  · rename_i k' sz' len c hg
    simp only [hg]
    split at h
    · rename_i sz'' es hk
      simp only [hk]
      split at h
      · rename_i hc
        obtain ⟨rfl, h⟩ := h
        rw [if_pos ⟨hc.1, hc.2.1, Nat.le_refl _, hc.2.2.1, hc.2.2.2.1, hc.2.2.2.2⟩, List.take_length]
        exact ⟨_, rfl, h⟩
      · exact h.elim
    · exact h.elim
  · exact h.elim
def ownP (s sz : Nat) (k : Key) (L : St) (K : St → Prop) : Prop := if s < 100000000 then ownS s sz k L K else ownCP ((s - 100000000) / 100) ((s - 100000000) % 100) sz k L K
theorem ownP_ok {s sz : Nat} {k : Key} {L : St} {K : St → Prop} (h : ownP s sz k L K) : ∃ L', ownX s sz k L = some L' ∧ K L' := by
  unfold ownP at h
  unfold ownX
  split at h
  · rename_i hs
    rw [if_pos hs]
    exact ownS_ok h
  · rename_i hs
    rw [if_neg hs]
    exact ownCP_ok h
def ownsP : AC → St → (St → Prop) → Prop
  | .own s sz k a, L, K => ownP s sz k L fun L' => ownsP a L' K
  | _, L, K => K L
theorem ownsP_ok : ∀ {a : AC} {L : St} {K : St → Prop}, ownsP a L K → ∃ L', ownsL a L = some L' ∧ K L' := by
  intro a
  induction a with
  | own s sz k a ih =>
    intro L K h
    obtain ⟨L1, h1, h2⟩ := ownP_ok h
    simp only [ownsL, h1]
    exact ih h2
  | _ => intro L K h; exact ⟨_, rfl, h⟩
/-- from the head of a loop on, within m rounds -/
def At (S : Sum) (cl : CallFn) (n : Nat) (ss : List Nat) (x : AC) (C : St) (m : Nat) (o : Out) : Prop := ∀ L L1, filtL ss L = some L1 → ownsL x L1 = some C → loopN m (evalC S cl n (.filt ss x)) L = some o
section
variable (S : Sum) (cl : CallFn) (H : Hints) (n : Nat)
def wpC : AC → Nat → St → (Out → Prop) → Prop
  | .skip, _, L, K => K (.norm L)
  | .region is ord, _, L, K => wpR S cl H is ord L fun L' => K (.norm L')
  | .seq a b, i, L, K => wpC a i L fun
    | .norm L' => wpC b (i + a.nl) L' K
    | r => K r
  | .cond c a b, i, L, K => match boolV L c with
    | some true => wpC a i L K
    | some false => wpC b (i + a.nl) L K
    | none => False
  | .block id a, i, L, K => wpC a i L fun
    | .exit j L' => if j = id then K (.norm L') else K (.exit j L')
    | r => K r
  | .loop a, i, L, K => match a with
    | .filt ss x => match filtL ss L with
      | some L1 => match hget i H.hl with
        | some t => ownsP x L1 fun C => t.ho (fun o => At S cl n ss x C n o) K
        | none => False
      | none => False
    | _ => False
  | .exit id, _, L, K => K (.exit id L)
  | .ret, _, L, K => K (.ret L)
  | .filt ss a, i, L, K => match filtL ss L with
    | some L' => wpC a i L' K
    | none => False
  | .own s sz k a, i, L, K => ownP s sz k L fun L' => wpC a i L' K
/-- a round, from the head on to the next head -/
def wpBody (ss : List Nat) (x : AC) (C : St) (Q : Out → Prop) : Prop := wpC S cl H n x.peel 0 C fun
  | .norm L' => match filtL ss L' with
    | some L1 => ownsP x L1 fun C' => Q (.norm C')
    | none => False
  | .exit j L' => Q (.exit j L')
  | .ret L' => Q (.ret L')
def wpFn (fc : FnC) (vs : List SV) (ms : List Mem) (Q : CRes → Prop) : Prop :=
  if vs.length = fc.np ∧ ms.length ≤ 1000 ∧ ms.all Mem.low = true then
    wpC S cl H n fc.body 0 (slotsOf 0 vs ++ memsOf 0 ms) fun
      | .ret L | .norm L => match leaveFn fc ms L with
        | some r => Q r
        | none => False
      | _ => False
  else False
end
section
variable {S : Sum} {cl : CallFn} {H : Hints} {n : Nat}
theorem wpC_ok : ∀ (c : AC) {i : Nat} {L : St} {K : Out → Prop}, wpC S cl H n c i L K → ∃ o, evalC S cl n c L = some o ∧ K o := by
  intro c
  induction c with
  | skip => intro i L K h; exact ⟨_, rfl, h⟩
  | exit id => intro i L K h; exact ⟨_, rfl, h⟩
  | ret => intro i L K h; exact ⟨_, rfl, h⟩
  | region is ord =>
    intro i L K h
    obtain ⟨L', h1, h2⟩ := wpR_ok h
    simp only [evalC, h1]
    exact ⟨_, rfl, h2⟩
  | seq a b iha ihb =>
    intro i L K h
    simp only [wpC] at h
    obtain ⟨o, h1, h2⟩ := iha h
    simp only [evalC, h1]
    cases o with
    | norm L' => exact ihb h2
    | exit j L' => exact ⟨_, rfl, h2⟩
    | ret L' => exact ⟨_, rfl, h2⟩
  | cond c a b iha ihb =>
    intro i L K h
    simp only [wpC] at h
    simp only [evalC]
    split at h
    · rename_i hv
      simp only [hv]
      exact iha h
    · rename_i hv
      simp only [hv]
      exact ihb h
    · exact h.elim
  | block id a ih =>
    intro i L K h
    simp only [wpC] at h
    obtain ⟨o, h1, h2⟩ := ih h
    simp only [evalC, h1]
    cases o with
    | norm L' => exact ⟨_, rfl, h2⟩
    | exit j L' =>
      simp only at h2 ⊢
      split at h2
      · rename_i hj
        rw [if_pos hj]
        exact ⟨_, rfl, h2⟩
      · rename_i hj
        rw [if_neg hj]
        exact ⟨_, rfl, h2⟩
    | ret L' => exact ⟨_, rfl, h2⟩
  | loop a ih =>
    intro i L K h
    simp only [wpC] at h
    split at h
    · rename_i ss x
      split at h
      · rename_i L1 hL1
        split at h
        · obtain ⟨C, hC, h⟩ := ownsP_ok h
          obtain ⟨o, h1, h2⟩ := Tel.ho_ok h
          exact ⟨o, h1 L L1 hL1 hC, h2⟩
        · exact h.elim
      · exact h.elim
    · exact h.elim
  | filt ss a ih =>
    intro i L K h
    simp only [wpC] at h
    simp only [evalC]
    split at h
    · rename_i hv
      simp only [hv]
      exact ih h
    · exact h.elim
  | own s sz k a ih =>
    intro i L K h
    simp only [wpC] at h
    obtain ⟨L', h1, h2⟩ := ownP_ok h
    simp only [evalC, h1]
    exact ih h2
theorem wpFn_ok {fc : FnC} {vs : List SV} {ms : List Mem} {Q : CRes → Prop} (h : wpFn S cl H n fc vs ms Q) : ∃ r, evalFn S cl n fc vs ms = some r ∧ Q r := by
  unfold wpFn at h
  unfold evalFn
  split at h
  · rename_i hc
    rw [if_pos hc]
    obtain ⟨o, h1, h2⟩ := wpC_ok _ h
    rw [h1]
    cases o with
    | norm L =>
      simp only at h2 ⊢
      split at h2
      · rename_i r hr
        exact ⟨r, hr, h2⟩
      · exact h2.elim
    | ret L =>
      simp only at h2 ⊢
      split at h2
      · rename_i r hr
        exact ⟨r, hr, h2⟩
      · exact h2.elim
    | exit j L => exact h2.elim
  · exact h.elim
theorem At.step {ss : List Nat} {x : AC} {C : St} {m : Nat} {o : Out} (H : Hints) (h : wpBody S cl H n ss x C fun
    | .norm C' => At S cl n ss x C' m o
    | .exit j L' => .exit j L' = o
    | .ret L' => .ret L' = o) : At S cl n ss x C (m + 1) o := by
  intro L L1 hL hC
  unfold wpBody at h
  obtain ⟨q, h1, h2⟩ := wpC_ok _ h
  simp only [loopN, evalC, hL, evalC_peel hC, h1]
  cases q with
  | norm L' =>
    simp only at h2
    split at h2
    · rename_i L2 hL2
      obtain ⟨C', h3, h4⟩ := ownsP_ok h2
      exact h4 L' L2 hL2 h3
    · exact h2.elim
  | exit j L' => exact congrArg some h2
  | ret L' => exact congrArg some h2
end
/-- calls that are computed, not asked -/
abbrev Det := FuncId → Option (List SV → List Mem → Option CRes)
def mix (D : Det) (cl : CallFn) : CallFn := fun f vs ms => match D f with
  | some F => F vs ms
  | none => cl f vs ms
def DetOK (D : Det) (cl : CallFn) : Prop := ∀ f F vs ms r, D f = some F → F vs ms = some r → cl f vs ms = some r
theorem mix_le {D : Det} {cl : CallFn} (h : DetOK D cl) : CLe (mix D cl) cl := by
  intro f vs ms r hr
  unfold mix at hr
  split at hr
  · rename_i F hF
    exact h f F vs ms r hF hr
  · exact hr
theorem call_wp {A : Tab} {S : Sum} {n d : Nat} {f : FuncId} {fc : FnC} {vs : List SV} {ms : List Mem} {D : Det} {H : Hints} {Q : CRes → Prop} (hA : A f = some fc) (hD : DetOK D (callN A S n d)) (h : wpFn S (mix D (callN A S n d)) H n fc vs ms Q) : ∃ r, callN A S n (d + 1) f vs ms = some r ∧ Q r := by
  obtain ⟨r, h1, h2⟩ := wpFn_ok h
  refine ⟨r, ?_, h2⟩
  simp only [callN, hA]
  exact evalFn_le (mix_le hD) (Nat.le_refl n) h1
end Go.Ev

namespace Go.Ev
def AV.fz (news : List Mem) : AV → Option (T × List (Nat × Nat))
  | .t x => some (x, [])
  | .nilsl sz => some (.sl sz [], [])
  | .own k sz off len _ => if 2000000 ≤ k then match news[k - 2000000]? with
    | some (.arr sz' es) => if sz' = sz then some (.sl sz ((es.drop off).take len), [(off + len, es.length)]) else none
    | _ => none
    else none
  | _ => none
def fzL (news : List Mem) : List AV → Option (List AV × List (Nat × Nat))
  | [] => some ([], [])
  | x :: l => match x.fz news, fzL news l with
    | some (t, c), some (m, d) => some (.t t :: m, c ++ d)
    | _, _ => none
def CV.fz (news : List Mem) : CV → Option (CV × List (Nat × Nat))
  | .one a => match a.fz news with
    | some (t, c) => some (.one (.t t), c)
    | none => none
  | .agg l => match fzL news l with
    | some (m, c) => some (.agg m, c)
    | none => none
def fzCs (news : List Mem) : List CV → Option (List CV × List (Nat × Nat))
  | [] => some ([], [])
  | x :: l => match x.fz news, fzCs news l with
    | some (t, c), some (m, d) => some (t :: m, c ++ d)
    | _, _ => none
def SV.fz (news : List Mem) : SV → Option (SV × List (Nat × Nat))
  | .c x => match CV.fz news x with
    | some (y, q) => some (.c y, q)
    | none => none
  | .tup l => match fzCs news l with
    | some (m, q) => some (.tup m, q)
    | none => none
def Bk.plain : Bk → Bool
  | .box _ => false
  | _ => true
def CRes.fz (r : CRes) : Option (CRes × List (Nat × Nat)) :=
  if r.2.1.all Bk.plain then match r.1.fz r.2.2 with
    | some (y, c) => some ((y, r.2.1, []), c)
    | none => none
  else none
def allLe : List (Nat × Nat) → Prop
  | [] => True
  | (a, b) :: l => a ≤ b ∧ allLe l
def leB (l : List (Nat × Nat)) : Bool := l.all fun c => decide (c.1 ≤ c.2)
theorem allLe_iff : ∀ {l : List (Nat × Nat)}, leB l = true ↔ allLe l
  | [] => ⟨fun _ => trivial, fun _ => rfl⟩
  | c :: l => by
    have := allLe_iff (l := l)
    simp only [leB, List.all_cons, Bool.and_eq_true, decide_eq_true_eq, allLe] at this ⊢
    rw [← this]
theorem allLe_append : ∀ {l m : List (Nat × Nat)}, allLe (l ++ m) → allLe l ∧ allLe m
  | [], _, h => ⟨trivial, h⟩
  | _ :: _, _, h => ⟨⟨h.1, (allLe_append h.2).1⟩, (allLe_append h.2).2⟩
def fzR (r : CRes) : Option CRes := match CRes.fz r with
  | some (y, c) => if leB c then some y else none
  | none => none
section
variable {w : World} {I I2 : Nat → Prop} {β : Beta} {news : List Mem}
theorem AV.fz_ok (hI : ∀ b, I b → I2 b) (hn : ∀ (i : Nat) (m : Mem), news[i]? = some m → MemAt w I β (knew i) m) (hN : ∀ i b base, i < news.length → β (knew i) = some (b, base) → I2 b)
    {x : AV} {v : Value} {t : T} {c : List (Nat × Nat)} (hx : RepAV w I β x v) (hf : x.fz news = some (t, c)) (hc : allLe c) : Rd w I2 v t := by
  have hnil : Rd w I2 (.slice none 0 0) (.sl 0 []) ∧ ∀ sz, Rd w I2 (.slice none 0 0) (.sl sz []) := ⟨.sl none 0 0 [] _ 0 0 (fun _ _ => undef) rfl (Nat.le_refl _) (Nat.zero_le _) (fun _ => rfl) (fun h => absurd h (Nat.lt_irrefl 0)) (fun h => absurd h (Nat.lt_irrefl 0)) (fun j e h => by simp at h) (fun j e i t h => by simp at h) (fun j e i t h => by simp at h), fun sz => .sl none 0 0 [] _ 0 0 (fun _ _ => undef) rfl (Nat.le_refl _) (Nat.zero_le _) (fun _ => rfl) (fun h => absurd h (Nat.lt_irrefl 0)) (fun h => absurd h (Nat.lt_irrefl 0)) (fun j e h => by simp at h) (fun j e i t h => by simp at h) (fun j e i t h => by simp at h)⟩
  unfold AV.fz at hf
  split at hf
  · injection hf with hf
    injection hf with h1 h2
    subst h1
    exact Rd.mono hx hI fun _ _ => rfl
  · injection hf with hf
    injection hf with h1 h2
    subst h1
    obtain rfl : v = _ := hx
    exact hnil.2 _
  · rename_i k sz off ln c'
    split at hf
    · rename_i hk
      split at hf
      · rename_i sz' es hm
        split at hf
        · rename_i hsz
          subst hsz
          injection hf with hf
          injection hf with h1 h2
          subst h1 h2
          have hfit : off + ln ≤ es.length := hc.1
          have hkn : knew (k - 2000000) = k := Nat.add_sub_cancel' hk
          have hf := hn _ _ hm
          rw [hkn] at hf
          have hlen : ((es.drop off).take ln).length = ln := by simp; omega
          rcases hx with ⟨hk', rfl, rfl, _, rfl⟩ | ⟨b, base, ad, cap, cs, e, fr, hk', rfl, hheap, had, hsz, hlc, hcc, hmax⟩
          · simp only [List.drop_zero, List.take_zero]
            exact hnil.2 _
          · have hb2 : I2 b := hN (k - 2000000) b base (List.getElem?_eq_some_iff.1 hm).1 (by rw [hkn]; exact hk')
            rcases hf with ⟨h1, _⟩ | ⟨b', base', cs', e', fr', h1, h2, h3, h4⟩
            · rw [hk'] at h1; cases h1
            · rw [hk'] at h1
              injection h1 with h1
              injection h1 with h1 h1'
              subst h1 h1'
              rw [hheap] at h2
              injection h2 with h2
              injection h2 with h2 h2' h2''
              subst h2 h2' h2''
              have hseg := (h4.seg hfit).more hI
              refine .sl _ _ _ _ _ b (base + off * sz') (fun j i => cs.getD (base + off * sz' + j * sz' + i) undef) hlen (by omega) hmax (fun h => by cases h) (fun hpos => ?_) (fun _ => hb2) (fun j el hj => (hseg.2 j el hj).1) (fun j el i t hj hi => ?_) (fun j el i t hj hi => ?_)
              · rcases had with rfl | hc0
                · rfl
                · omega
              · obtain ⟨u, h5, h6⟩ := (hseg.2 j el hj).2 i t hi
                simp only [World.cell?, hheap]
                rw [Array.getD_eq_getD_getElem?, h5]
                simp
              · obtain ⟨u, h5, h6⟩ := (hseg.2 j el hj).2 i t hi
                show Rd w I2 (cs.getD (base + off * sz' + j * sz' + i) undef) t
                rw [Array.getD_eq_getD_getElem?, h5]
                exact h6
        · cases hf
      · cases hf
    · cases hf
  · cases hf
theorem fzL_ok (hI : ∀ b, I b → I2 b) (hn : ∀ (i : Nat) (m : Mem), news[i]? = some m → MemAt w I β (knew i) m) (hN : ∀ i b base, i < news.length → β (knew i) = some (b, base) → I2 b) :
    ∀ {l m : List AV} {vs : List Value} {c : List (Nat × Nat)}, All2 (RepAV w I β) l vs → fzL news l = some (m, c) → allLe c → All2 (RepAV w I2 β) m vs
  | [], m, [], c, h, hf, _ => by injection hf with hf; injection hf with h1 _; subst h1; trivial
  | [], _, _ :: _, _, h, _, _ => h.elim
  | _ :: _, _, [], _, h, _, _ => h.elim
  | x :: l, m, v :: vs, c, h, hf, hc => by
    simp only [fzL] at hf
    split at hf
    · rename_i t c1 m1 d1 h1 h2
      injection hf with hf
      injection hf with e1 e2
      subst e1 e2
      obtain ⟨p1, p2⟩ := allLe_append hc
      exact ⟨AV.fz_ok hI hn hN h.1 h1 p1, fzL_ok hI hn hN h.2 h2 p2⟩
    · cases hf
theorem CV.fz_ok (hI : ∀ b, I b → I2 b) (hn : ∀ (i : Nat) (m : Mem), news[i]? = some m → MemAt w I β (knew i) m) (hN : ∀ i b base, i < news.length → β (knew i) = some (b, base) → I2 b)
    {x y : CV} {v : Value} {c : List (Nat × Nat)} (hx : RepCV w I β x v) (hf : x.fz news = some (y, c)) (hc : allLe c) : RepCV w I2 β y v := by
  cases x with
  | one a =>
    simp only [CV.fz] at hf
    split at hf
    · rename_i t c1 h1
      injection hf with hf
      injection hf with e1 e2
      subst e1 e2
      exact AV.fz_ok hI hn hN hx h1 hc
    · cases hf
  | agg l =>
    simp only [CV.fz] at hf
    split at hf
    · rename_i t c1 h1
      injection hf with hf
      injection hf with e1 e2
      subst e1 e2
      obtain ⟨vs, h2, h3⟩ := hx
      exact ⟨vs, h2, fzL_ok hI hn hN h3 h1 hc⟩
    · cases hf
theorem fzCs_ok (hI : ∀ b, I b → I2 b) (hn : ∀ (i : Nat) (m : Mem), news[i]? = some m → MemAt w I β (knew i) m) (hN : ∀ i b base, i < news.length → β (knew i) = some (b, base) → I2 b) :
    ∀ {l m : List CV} {vs : List Value} {c : List (Nat × Nat)}, All2 (RepCV w I β) l vs → fzCs news l = some (m, c) → allLe c → All2 (RepCV w I2 β) m vs
  | [], m, [], c, h, hf, _ => by injection hf with hf; injection hf with h1 _; subst h1; trivial
  | [], _, _ :: _, _, h, _, _ => h.elim
  | _ :: _, _, [], _, h, _, _ => h.elim
  | x :: l, m, v :: vs, c, h, hf, hc => by
    simp only [fzCs] at hf
    split at hf
    · rename_i t c1 m1 d1 h1 h2
      injection hf with hf
      injection hf with e1 e2
      subst e1 e2
      obtain ⟨p1, p2⟩ := allLe_append hc
      exact ⟨CV.fz_ok hI hn hN h.1 h1 p1, fzCs_ok hI hn hN h.2 h2 p2⟩
    · cases hf
theorem SV.fz_ok (hI : ∀ b, I b → I2 b) (hn : ∀ (i : Nat) (m : Mem), news[i]? = some m → MemAt w I β (knew i) m) (hN : ∀ i b base, i < news.length → β (knew i) = some (b, base) → I2 b)
    {x y : SV} {v : Value} {c : List (Nat × Nat)} (hx : RepSV w I β x v) (hf : x.fz news = some (y, c)) (hc : allLe c) : RepSV w I2 β y v := by
  cases x with
  | c a =>
    simp only [SV.fz] at hf
    split at hf
    · rename_i t c1 h1
      injection hf with hf
      injection hf with e1 e2
      subst e1 e2
      exact CV.fz_ok hI hn hN hx h1 hc
    · cases hf
  | tup l =>
    simp only [SV.fz] at hf
    split at hf
    · rename_i t c1 h1
      injection hf with hf
      injection hf with e1 e2
      subst e1 e2
      obtain ⟨vs, h2, h3⟩ := hx
      exact ⟨vs, h2, fzCs_ok hI hn hN h3 h1 hc⟩
    · cases hf
end
theorem Left.fz {w w' : World} {I I' : Nat → Prop} {β β' : Beta} {ms : List Mem} {r r' : CRes} {v : Value} (h : Left w I β ms r v w' β' I') (hf : fzR r = some r') : ∃ I2, Left w I β ms r' v w' β' I2 := by
  unfold fzR at hf
  split at hf
  · rename_i y c hz
    split at hf
    · rename_i hc
      injection hf with hf
      subst hf
      have hc := allLe_iff.1 hc
      obtain ⟨x, back, news⟩ := r
      unfold CRes.fz at hz
      split at hz
      · rename_i hpl
        simp only at hpl hz
        split at hz
        · rename_i y' c' hy
          injection hz with hz
          injection hz with e1 e2
          subst e1 e2
          have hnb : ∀ (j : Nat) (l : List (Option AV)), back[j]? = some (.box l) → False := fun j l hj => by
            have := List.all_eq_true.1 hpl _ (List.mem_of_getElem? hj)
            cases this
          refine ⟨fun b => I' b ∨ ∃ i base, i < news.length ∧ β' (knew i) = some (b, base), h.beta, fun b hb => .inl (h.sub b hb), fun b hb => ?_, fun b hb => ?_, h.grow, ?_, h.blen, fun j m o hm ho => ?_, fun i m hm => by simp at hm, fun j b base o ho hgn hb hi => ?_, fun i b base hi => by simp at hi, fun i i' b s s' hi => by simp at hi, fun i j b s s' o hi => by simp at hi⟩
          · rcases hb with hb | ⟨i, base, hi, hb⟩
            · exact h.imm b hb
            · exact .inr (h.sepN i b base hi hb).1
          · rcases hb with hb | ⟨i, base, hi, hb⟩
            · exact h.lt b hb
            · have hm := h.news i news[i] (List.getElem?_eq_getElem hi)
              cases hni : news[i] with
              | box l =>
                rw [hni] at hm
                obtain ⟨_, ⟨b', hb', cs, e, fr, hh, _⟩, _⟩ := hm
                rw [hb] at hb'
                injection hb' with hb'
                injection hb' with hb' _
                subst hb'
                exact lt_of_heap hh
              | arr sz es =>
                rw [hni] at hm
                rcases hm with ⟨h1, _⟩ | ⟨b', base', cs, e, fr, h1, hh, _⟩
                · rw [hb] at h1; cases h1
                · rw [hb] at h1
                  injection h1 with h1
                  injection h1 with h1 _
                  subst h1
                  exact lt_of_heap hh
          · exact SV.fz_ok (fun b hb => .inl hb) h.news (fun i b base hi hb => .inr ⟨i, base, hi, hb⟩) h.res hy hc
          · have hq := h.back j m o hm ho
            cases o with
            | box l => exact (hnb j l ho).elim
            | keep =>
              cases m with
              | box l => exact hq.elim
              | arr sz es => exact Holds.more (w := w') (I := I') (β := β') (t := #[]) (l := .a (kin j)) (v := .arr sz es) hq fun _ hb => .inl hb
            | arr sz' es' =>
              cases m with
              | box l => exact hq.elim
              | arr sz es => exact ⟨hq.1, Holds.more hq.2 fun _ hb => .inl hb⟩
            | gone =>
              cases m with
              | box l => exact hq.elim
              | arr sz es => trivial
          · rcases hi with hi | ⟨i, base', hi, hb'⟩
            · exact h.sepB j b base o ho hgn hb hi
            · exact h.injB i j b base' base o hi ho hgn hb' hb
        · cases hz
      · cases hz
    · cases hf
  · cases hf
/-- calls whose results are plain data where Z says so -/
def callZ (A : Tab) (S : Sum) (Z : FuncId → Bool) (n : Nat) : Nat → CallFn
  | 0 => fun _ _ _ => none
  | d + 1 => fun f vs ms => match A f with
    | some fc => match evalFn S (callZ A S Z n d) n fc vs ms with
      | some r => if Z f then fzR r else some r
      | none => none
    | none => none
theorem callZ_ok {P : Program} {S : Sum} {Z : FuncId → Bool} (hm : P.follows .mixedOrders = true) {A : Tab} (hA : TabOK P A) (hS : SumSound P S) (n : Nat) : ∀ d, CallSound P (callZ A S Z n d)
  | 0 => fun f vs ms r h => by cases h
  | d + 1 => fun f vs ms r h => by
    simp only [callZ] at h
    split at h
    · rename_i fc hfc
      split at h
      · rename_i r0 hr0
        have h0 := fn_ok hm (callZ_ok hm hA hS n d) hS (hA f fc hfc) hr0
        split at h
        · refine ⟨h0.1, fun w I β args hp => (h0.2 w I β args hp).mono ?_⟩
          rintro e w' ⟨v, β', I', he, hl⟩
          obtain ⟨I2, hl2⟩ := hl.fz h
          exact ⟨v, β', I2, he, hl2⟩
        · injection h with h
          subst h
          exact h0
      · cases h
    · cases h
theorem callZ_le {A : Tab} {S : Sum} {Z : FuncId → Bool} {n n' : Nat} (hn : n ≤ n') : ∀ {d d' : Nat}, d ≤ d' → CLe (callZ A S Z n d) (callZ A S Z n' d')
  | 0, _, _, _, _, _, _, h => by cases h
  | d + 1, 0, hd, _, _, _, _, _ => by cases hd
  | d + 1, d' + 1, hd, f, vs, ms, r, h => by
    simp only [callZ] at h ⊢
    split at h
    · rename_i fc _
      cases hq : evalFn S (callZ A S Z n d) n fc vs ms with
      | none => rw [hq] at h; cases h
      | some q =>
        rw [hq] at h
        rw [evalFn_le (callZ_le hn (Nat.le_of_succ_le_succ hd)) hn hq]
        exact h
    · cases h
/-- a function's run, its result as plain data or as it is -/
def wpZ (S : Sum) (cl : CallFn) (H : Hints) (n : Nat) (z : Bool) (fc : FnC) (vs : List SV) (ms : List Mem) (Q : CRes → Prop) : Prop :=
  wpFn S cl H n fc vs ms fun r => match z with
    | true => match CRes.fz r with
      | some (y, c) => allLe c ∧ Q y
      | none => False
    | false => Q r
theorem call_wpZ {A : Tab} {S : Sum} {Z : FuncId → Bool} {n d : Nat} {f : FuncId} {fc : FnC} {vs : List SV} {ms : List Mem} {D : Det} {H : Hints} {z : Bool} {Q : CRes → Prop} (hA : A f = some fc) (hZ : Z f = z) (hD : DetOK D (callZ A S Z n d)) (h : wpZ S (mix D (callZ A S Z n d)) H n z fc vs ms Q) : ∃ r, callZ A S Z n (d + 1) f vs ms = some r ∧ Q r := by
  obtain ⟨r, h1, h2⟩ := wpFn_ok h
  have h3 := evalFn_le (mix_le hD) (Nat.le_refl n) h1
  simp only [callZ, hA, h3, hZ]
  cases z with
  | false => exact ⟨r, by simp, h2⟩
  | true =>
    simp only at h2 ⊢
    unfold fzR
    split at h2
    · rename_i y c hz
      simp only [if_true]
      rw [if_pos (allLe_iff.2 h2.1)]
      exact ⟨y, rfl, h2.2⟩
    · exact h2.elim
end Go.Ev
