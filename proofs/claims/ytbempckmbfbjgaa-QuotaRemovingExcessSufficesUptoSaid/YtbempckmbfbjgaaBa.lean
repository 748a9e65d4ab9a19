/- The evaluator over plain data, its soundness, first part. No condition. -/
import Derived.WalkKit
import Derived.KernelRfl
import Derived.Laws.Concat
import Derived.Laws.StructEq
set_option linter.unusedVariables false
set_option linter.unusedSimpArgs false
set_option linter.constructorNameAsVariable false
set_option linter.unnecessarySimpa false
namespace Go.Ev
open Go.RowKit (Below)

/-- What one cell holds, as plain data. -/
inductive T where
  | int (k : IntKind) (n : Int)
  | bool (b : Bool)
  | str (s : List UInt8)
  | sl (sz : Nat) (es : List (List T))
  deriving Inhabited

abbrev Key := Nat

/-- What one cell holds during an evaluation. -/
inductive AV where
  | t (x : T)
  | nilsl (sz : Nat)
  | own (k : Key) (sz off len c : Nat)
  | ptr (k : Key) (n off : Nat)
  | eptr (k : Key) (sz idx off : Nat)
  | rptr (e : List T) (off : Nat)
  | fn (f : FuncId) (caps : List (Key × Nat))
  deriving Inhabited

inductive CV where
  | one (a : AV)
  | agg (l : List AV)
  deriving Inhabited

inductive SV where
  | c (x : CV)
  | tup (l : List CV)
  deriving Inhabited

inductive Loc where
  | s (n : Nat)
  | c (k : Key) (i : Nat)
  | a (k : Key)
  deriving DecidableEq, Inhabited

inductive Val where
  | sv (x : SV)
  | cell (x : AV)
  | arr (sz : Nat) (es : List (List T))
  deriving Inhabited

def AV.keys : AV → List Key
  | .own k _ _ _ _ | .ptr k _ _ | .eptr k _ _ _ => [k]
  | .fn _ caps => caps.map (·.1)
  | _ => []
def CV.keys : CV → List Key
  | .one a => a.keys
  | .agg l => l.flatMap AV.keys
def SV.keys : SV → List Key
  | .c x => x.keys
  | .tup l => l.flatMap CV.keys
def Val.keys : Val → List Key
  | .sv x => x.keys
  | .cell x => x.keys
  | .arr _ _ => []
def Loc.keys : Loc → List Key
  | .s _ => []
  | .c k _ | .a k => [k]

abbrev Facts := Loc → Option Val
abbrev Beta := Key → Option (Nat × Nat)

/-- A tree stands in memory, in blocks that nobody writes. -/
inductive Rd (w : World) (I : Nat → Prop) : Value → T → Prop
  | int (k : IntKind) (n : Int) : Rd w I (.int k n) (.int k n)
  | bool (b : Bool) : Rd w I (.bool b) (.bool b)
  | str (s : ByteArray) : Rd w I (.string s) (.str s.data.toList)
  | sl (a : Option Addr) (n cap : Nat) (es : List (List T)) (sz b o : Nat) (vs : Nat → Nat → Value)
      (hn : es.length = n) (hc : n ≤ cap) (hm : cap ≤ maxLen) (h0 : a = none → cap = 0)
      (ha : 0 < n → a = some ⟨b, o, none⟩) (hI : 0 < n → I b)
      (hs : ∀ (j : Nat) (e : List T), es[j]? = some e → e.length = sz)
      (hv : ∀ (j : Nat) (e : List T) (i : Nat) (t : T), es[j]? = some e → e[i]? = some t → w.cell? ⟨b, o + j * sz + i, none⟩ = some (vs j i))
      (hr : ∀ (j : Nat) (e : List T) (i : Nat) (t : T), es[j]? = some e → e[i]? = some t → Rd w I (vs j i) t) : Rd w I (.slice a n cap) (.sl sz es)

theorem Rd.mono {w w' : World} {I I' : Nat → Prop} {v : Value} {x : T} (h : Rd w I v x) (hI : ∀ b, I b → I' b) (hw : ∀ b : Nat, I b → w'.heap[b]? = w.heap[b]?) : Rd w' I' v x := by
  induction h with
  | int k n => exact .int k n
  | bool b => exact .bool b
  | str s => exact .str s
  | sl a n cap es sz b o vs hn hc hm h0 ha hIb hs hv hr ih =>
    refine .sl a n cap es sz b o vs hn hc hm h0 ha (fun h => hI _ (hIb h)) hs (fun j e i t hj hi => ?_) ih
    have hj' : 0 < n := by have := (List.getElem?_eq_some_iff.1 hj).1; omega
    rw [← hv j e i t hj hi]
    exact World.cell?_of_block (w := w) (hw b (hIb hj'))

def All2 {α β : Type} (R : α → β → Prop) : List α → List β → Prop
  | [], [] => True
  | a :: l, b :: m => R a b ∧ All2 R l m
  | _, _ => False
theorem All2.imp {α β : Type} {R R' : α → β → Prop} : ∀ {l : List α} {m : List β}, All2 R l m → (∀ a, a ∈ l → ∀ b, R a b → R' a b) → All2 R' l m
  | [], [], _, _ => trivial
  | a :: _, _ :: _, h, hi => ⟨hi a List.mem_cons_self _ h.1, All2.imp h.2 fun a ha => hi a (List.mem_cons_of_mem _ ha)⟩
  | [], _ :: _, h, _ => h.elim
  | _ :: _, [], h, _ => h.elim
theorem All2.len {α β : Type} {R : α → β → Prop} : ∀ {l : List α} {m : List β}, All2 R l m → l.length = m.length
  | [], [], _ => rfl
  | _ :: _, _ :: _, h => congrArg (· + 1) h.2.len
  | [], _ :: _, h => h.elim
  | _ :: _, [], h => h.elim
theorem All2.get {α β : Type} {R : α → β → Prop} : ∀ {l : List α} {m : List β}, All2 R l m → ∀ (i : Nat) (a : α), l[i]? = some a → ∃ b, m[i]? = some b ∧ R a b
  | [], [], _, i, a, h => by simp at h
  | a :: _, b :: _, h, 0, x, hx => ⟨b, rfl, by simp at hx; subst hx; exact h.1⟩
  | _ :: _, _ :: _, h, i + 1, x, hx => by simpa using h.2.get i x (by simpa using hx)
  | [], _ :: _, h, _, _, _ => h.elim
  | _ :: _, [], h, _, _, _ => h.elim
theorem All2.get' {α β : Type} {R : α → β → Prop} {l : List α} {m : List β} (h : All2 R l m) {i : Nat} {b : β} (hb : m[i]? = some b) : ∃ a, l[i]? = some a ∧ R a b := by
  have hl := h.len
  have hi := (List.getElem?_eq_some_iff.1 hb).1
  obtain ⟨b', hb', hr⟩ := h.get i (l[i]'(by omega)) (List.getElem?_eq_getElem _)
  rw [hb] at hb'
  injection hb' with hb'
  subst hb'
  exact ⟨_, List.getElem?_eq_getElem _, hr⟩
theorem All2.of_get {α β : Type} {R : α → β → Prop} : ∀ {l : List α} {m : List β}, l.length = m.length → (∀ (i : Nat) (a : α) (b : β), l[i]? = some a → m[i]? = some b → R a b) → All2 R l m
  | [], [], _, _ => trivial
  | a :: _, b :: _, hl, h => ⟨h 0 a b rfl rfl, All2.of_get (by simpa using hl) fun i x y hx hy => h (i + 1) x y (by simpa using hx) (by simpa using hy)⟩
  | [], _ :: _, hl, _ => by simp at hl
  | _ :: _, [], hl, _ => by simp at hl
theorem All2.append {α β : Type} {R : α → β → Prop} : ∀ {l : List α} {m : List β} {l' : List α} {m' : List β}, All2 R l m → All2 R l' m' → All2 R (l ++ l') (m ++ m')
  | [], [], _, _, _, h => h
  | _ :: _, _ :: _, _, _, h, h' => ⟨h.1, h.2.append h'⟩
  | [], _ :: _, _, _, h, _ => h.elim
  | _ :: _, [], _, _, h, _ => h.elim
theorem All2.drop {α β : Type} {R : α → β → Prop} : ∀ {l : List α} {m : List β} (n : Nat), All2 R l m → All2 R (l.drop n) (m.drop n)
  | _, _, 0, h => h
  | [], [], _ + 1, _ => trivial
  | _ :: _, _ :: _, n + 1, h => h.2.drop n
  | [], _ :: _, _ + 1, h => h.elim
  | _ :: _, [], _ + 1, h => h.elim
theorem All2.take {α β : Type} {R : α → β → Prop} : ∀ {l : List α} {m : List β} (n : Nat), All2 R l m → All2 R (l.take n) (m.take n)
  | _, _, 0, _ => by simp [All2]
  | [], [], _ + 1, _ => trivial
  | _ :: _, _ :: _, n + 1, h => ⟨h.1, h.2.take n⟩
  | [], _ :: _, _ + 1, h => h.elim
  | _ :: _, [], _ + 1, h => h.elim

section
variable (w : World) (I : Nat → Prop) (β : Beta)
def Shaped (b n : Nat) : Prop := ∃ cs e fr, w.heap[b]? = some (Obj.cells cs e fr) ∧ cs.size = n
/-- A pointer to a variable of the call's own. -/
def IsBox (k : Key) (n : Nat) (v : Value) (off : Nat) : Prop := ∃ b, β k = some (b, 0) ∧ v = .pointer (some ⟨b, off, none⟩) ∧ Shaped w b n
def RepAV : AV → Value → Prop
  | .t x, v => Rd w I v x
  | .nilsl _, v => v = .slice none 0 0
  | .own k sz off len c, v => (β k = none ∧ off = 0 ∧ len = 0 ∧ c = 0 ∧ v = .slice none 0 0) ∨
      ∃ b base ad cap cs e fr, β k = some (b, base) ∧ v = .slice (some ad) len cap ∧ w.heap[b]? = some (.cells cs e fr) ∧
        (ad = ⟨b, base + off * sz, none⟩ ∨ cap = 0) ∧ base + (off + cap) * sz ≤ cs.size ∧ len ≤ c ∧ c ≤ cap ∧ cap ≤ maxLen
  | .ptr k n off, v => IsBox w β k n v off
  | .eptr k sz idx off, v => ∃ b base, β k = some (b, base) ∧ v = .pointer (some ⟨b, base + idx * sz + off, none⟩)
  | .rptr e off, v => ∃ (b o : Nat) (us : Nat → Value), v = .pointer (some ⟨b, o + off, none⟩) ∧ (0 < e.length → I b) ∧ ∀ (i : Nat) (t : T), e[i]? = some t → w.cell? ⟨b, o + i, none⟩ = some (us i) ∧ Rd w I (us i) t
  | .fn f caps, v => ∃ vs : List Value, v = .func (.func f) #[] vs.toArray ∧ All2 (fun c u => IsBox w β c.1 c.2 u 0) caps vs
def RepCV : CV → Value → Prop
  | .one a, v => RepAV w I β a v
  | .agg l, v => ∃ vs : List Value, v = .agg vs.toArray ∧ All2 (RepAV w I β) l vs
def RepSV : SV → Value → Prop
  | .c x, v => RepCV w I β x v
  | .tup l, v => ∃ vs : List Value, v = .tuple vs.toArray ∧ All2 (RepCV w I β) l vs
def okfr (n : Nat) (fr : Nat × Nat) : Prop := fr.1 = fr.2 ∨ n ≤ fr.1
/-- The cells of a row of elements, from a base on. -/
def RowAt (cs : Array Value) (base sz : Nat) (es : List (List T)) : Prop :=
  base + es.length * sz ≤ cs.size ∧ ∀ (j : Nat) (el : List T), es[j]? = some el → el.length = sz ∧ ∀ (i : Nat) (t : T), el[i]? = some t → ∃ u, cs[base + j * sz + i]? = some u ∧ Rd w I u t
def Holds (tmps : Array Value) : Loc → Val → Prop
  | .s n, .sv x => RepSV w I β x (tmps.getD n undef)
  | .c k i, .cell x => ∃ b cs e fr u, β k = some (b, 0) ∧ w.heap[b]? = some (.cells cs e fr) ∧ okfr cs.size fr ∧ cs[i]? = some u ∧ RepAV w I β x u
  | .a k, .arr sz es => (β k = none ∧ es = []) ∨ ∃ b base cs e fr, β k = some (b, base) ∧ w.heap[b]? = some (.cells cs e fr) ∧ okfr cs.size fr ∧ RowAt w I cs base sz es
  | _, _ => False
end

/-- What a stretch of the machine's run may have done: blocks of X written, new ones made. -/
structure Grow (w w' : World) (X : Nat → Prop) : Prop where
  os : w'.os = w.os
  tape : w'.tape = w.tape
  output : w'.output = w.output
  size : w.heap.size ≤ w'.heap.size
  block : ∀ b : Nat, b < w.heap.size → ¬ X b → w'.heap[b]? = w.heap[b]?
  shape : ∀ (b : Nat) (cs : Array Value) (e : TypeId) (fr : Nat × Nat), w.heap[b]? = some (.cells cs e fr) → ∃ cs' fr', w'.heap[b]? = some (Obj.cells cs' e fr') ∧ cs'.size = cs.size

theorem lt_of_heap {w : World} {b : Nat} {o : Obj} (h : w.heap[b]? = some o) : b < w.heap.size := (Array.getElem?_eq_some_iff.1 h).1

theorem Grow.refl (w : World) (X : Nat → Prop) : Grow w w X := ⟨rfl, rfl, rfl, Nat.le_refl _, fun _ _ _ => rfl, fun _ cs _ fr h => ⟨cs, fr, h, rfl⟩⟩
theorem Grow.trans {w w1 w2 : World} {X : Nat → Prop} (h : Grow w w1 X) (h' : Grow w1 w2 X) : Grow w w2 X :=
  ⟨h'.os.trans h.os, h'.tape.trans h.tape, h'.output.trans h.output, Nat.le_trans h.size h'.size,
    fun b hb hx => (h'.block b (Nat.lt_of_lt_of_le hb h.size) hx).trans (h.block b hb hx), fun b cs e fr hb => by
      obtain ⟨c1, f1, h1, s1⟩ := h.shape b cs e fr hb
      obtain ⟨c2, f2, h2, s2⟩ := h'.shape b c1 e f1 h1
      exact ⟨c2, f2, h2, s2.trans s1⟩⟩
theorem Grow.imp {w w1 : World} {X X' : Nat → Prop} (h : Grow w w1 X) (hx : ∀ b, X b → X' b) : Grow w w1 X' :=
  ⟨h.os, h.tape, h.output, h.size, fun b hb hn => h.block b hb fun hx' => hn (hx b hx'), h.shape⟩
theorem Grow.alloc (w : World) (o : Obj) (X : Nat → Prop) : Grow w (w.alloc o) X :=
  ⟨rfl, rfl, rfl, by simp, fun b hb _ => Below.heap_alloc w o b hb, fun b cs e fr h => ⟨cs, fr, by rw [Below.heap_alloc w o b (lt_of_heap h)]; exact h, rfl⟩⟩
theorem Grow.drew (w : World) (X : Nat → Prop) : Grow w w.drew X := ⟨rfl, rfl, rfl, Nat.le_refl _, fun _ _ _ => rfl, fun _ cs _ fr h => ⟨cs, fr, h, rfl⟩⟩
theorem Grow.setCell (w : World) (p : Addr) (u : Value) : Grow w (w.setCell p u) (· = p.block) := by
  refine ⟨rfl, rfl, rfl, by simp, fun b _ hx => Below.heap_setCell w p u b hx, fun b cs e fr h => ?_⟩
  simp only [World.setCell, Array.getElem?_modify]
  split
  · rename_i hb
    subst hb
    rw [h]
    refine ⟨_, _, rfl, ?_⟩
    split <;> simp
  · exact ⟨cs, fr, h, rfl⟩
theorem Grow.of_below {w w' : World} (h : Below w.heap.size w w') (X : Nat → Prop) : Grow w w' X :=
  ⟨h.os, h.tape, h.output, h.size, fun b hb _ => h.block b hb, fun b cs e fr hb => ⟨cs, fr, by rw [h.block b (lt_of_heap hb)]; exact hb, rfl⟩⟩
theorem Grow.below {w w' : World} {X : Nat → Prop} (h : Grow w w' X) (hx : ∀ b, b < w.heap.size → ¬ X b) : Below w.heap.size w w' :=
  ⟨h.os, h.tape, h.output, h.size, fun b hb => h.block b hb (hx b hb)⟩

section
variable {w w' : World} {I I' X : Nat → Prop} {β β' : Beta}
theorem Rd.grow {v : Value} {x : T} (h : Rd w I v x) (hg : Grow w w' X) (hX : ∀ b, I b → ¬ X b) (hI : ∀ b, I b → b < w.heap.size) (hI' : ∀ b, I b → I' b) : Rd w' I' v x :=
  h.mono hI' fun b hb => hg.block b (hI b hb) (hX b hb)
theorem IsBox.beta {k : Key} {n : Nat} {v : Value} {off : Nat} (h : IsBox w β k n v off) (hb : β' k = β k) : IsBox w β' k n v off := by
  obtain ⟨b, h1, h2⟩ := h
  exact ⟨b, hb.trans h1, h2⟩
theorem Shaped.grow {b n : Nat} (h : Shaped w b n) (hg : Grow w w' X) : Shaped w' b n := by
  obtain ⟨cs, e, fr, h1, h2⟩ := h
  obtain ⟨cs', fr', h3, h4⟩ := hg.shape b cs e fr h1
  exact ⟨cs', e, fr', h3, h4.trans h2⟩
theorem IsBox.grow {k : Key} {n : Nat} {v : Value} {off : Nat} (h : IsBox w β k n v off) (hg : Grow w w' X) : IsBox w' β k n v off := by
  obtain ⟨b, h1, h2, h3⟩ := h
  exact ⟨b, h1, h2, h3.grow hg⟩
theorem RepAV.beta {a : AV} {v : Value} (h : RepAV w I β a v) (hb : ∀ k, k ∈ a.keys → β' k = β k) : RepAV w I β' a v := by
  cases a with
  | t x => exact h
  | nilsl sz => exact h
  | own k sz off len c =>
    have hk := hb k (by simp [AV.keys])
    simp only [RepAV, hk]
    exact h
  | ptr k n off => exact IsBox.beta h (hb k (by simp [AV.keys]))
  | eptr k sz idx off =>
    have hk := hb k (by simp [AV.keys])
    simp only [RepAV, hk]
    exact h
  | rptr e off => exact h
  | fn f caps =>
    obtain ⟨vs, hv, hall⟩ := h
    exact ⟨vs, hv, hall.imp fun c hc u hu => hu.beta (hb c.1 (by simp only [AV.keys, List.mem_map]; exact ⟨c, hc, rfl⟩))⟩
theorem RepAV.grow {a : AV} {v : Value} (h : RepAV w I β a v) (hg : Grow w w' X) (hX : ∀ b, I b → ¬ X b) (hI : ∀ b, I b → b < w.heap.size) (hI' : ∀ b, I b → I' b) : RepAV w' I' β a v := by
  cases a with
  | t x => exact Rd.grow h hg hX hI hI'
  | nilsl sz => exact h
  | own k sz off len c =>
    rcases h with h | ⟨b, base, ad, cap, cs, e, fr, h1, h2, h3, h4, h5, h6⟩
    · exact .inl h
    · obtain ⟨cs', fr', h3', hs⟩ := hg.shape b cs e fr h3
      exact .inr ⟨b, base, ad, cap, cs', e, fr', h1, h2, h3', h4, hs ▸ h5, h6⟩
  | ptr k n off => exact IsBox.grow h hg
  | eptr k sz idx off => exact h
  | rptr e off =>
    obtain ⟨b, o, us, h1, h2, h3⟩ := h
    refine ⟨b, o, us, h1, fun h => hI' _ (h2 h), fun i t hi => ?_⟩
    obtain ⟨h4, h5⟩ := h3 i t hi
    have hb := h2 (by have := (List.getElem?_eq_some_iff.1 hi).1; omega)
    exact ⟨by rw [← h4]; exact World.cell?_of_block (w := w) (hg.block b (hI b hb) (hX b hb)), h5.grow hg hX hI hI'⟩
  | fn f caps =>
    obtain ⟨vs, hv, hall⟩ := h
    exact ⟨vs, hv, hall.imp fun c _ u hu => hu.grow hg⟩
theorem RepCV.beta {a : CV} {v : Value} (h : RepCV w I β a v) (hb : ∀ k, k ∈ a.keys → β' k = β k) : RepCV w I β' a v := by
  cases a with
  | one a => exact RepAV.beta h hb
  | agg l =>
    obtain ⟨vs, h1, h2⟩ := h
    exact ⟨vs, h1, h2.imp fun a ha u hu => RepAV.beta hu fun k hk => hb k (List.mem_flatMap.2 ⟨a, ha, hk⟩)⟩
theorem RepCV.grow {a : CV} {v : Value} (h : RepCV w I β a v) (hg : Grow w w' X) (hX : ∀ b, I b → ¬ X b) (hI : ∀ b, I b → b < w.heap.size) (hI' : ∀ b, I b → I' b) : RepCV w' I' β a v := by
  cases a with
  | one a => exact RepAV.grow h hg hX hI hI'
  | agg l =>
    obtain ⟨vs, h1, h2⟩ := h
    exact ⟨vs, h1, h2.imp fun a _ u hu => RepAV.grow hu hg hX hI hI'⟩
theorem RepSV.beta {a : SV} {v : Value} (h : RepSV w I β a v) (hb : ∀ k, k ∈ a.keys → β' k = β k) : RepSV w I β' a v := by
  cases a with
  | c a => exact RepCV.beta h hb
  | tup l =>
    obtain ⟨vs, h1, h2⟩ := h
    exact ⟨vs, h1, h2.imp fun a ha u hu => RepCV.beta hu fun k hk => hb k (List.mem_flatMap.2 ⟨a, ha, hk⟩)⟩
theorem RepSV.grow {a : SV} {v : Value} (h : RepSV w I β a v) (hg : Grow w w' X) (hX : ∀ b, I b → ¬ X b) (hI : ∀ b, I b → b < w.heap.size) (hI' : ∀ b, I b → I' b) : RepSV w' I' β a v := by
  cases a with
  | c a => exact RepCV.grow h hg hX hI hI'
  | tup l =>
    obtain ⟨vs, h1, h2⟩ := h
    exact ⟨vs, h1, h2.imp fun a _ u hu => RepCV.grow hu hg hX hI hI'⟩
end

/-! ### the invariant of an evaluation -/
structure Gh where
  N : Nat
  w0 : World
  O : Nat → Prop
  I : Nat → Prop
  β : Beta
/-- keys of what was handed over by the caller -/
def pinned (k : Key) : Prop := 1000000 ≤ k
def Live (g : Facts) (k : Key) : Prop := (∃ i v, g (.c k i) = some v) ∨ ∃ v, g (.a k) = some v
structure R1 (G : Gh) (β : Beta) (I : Nat → Prop) (g : Facts) (a : Act) (w : World) : Prop where
  defers : a.defers = []
  size : a.tmps.size = G.N
  pin : ∀ k, pinned k → β k = G.β k
  imm0 : ∀ b, G.I b → I b
  imm1 : ∀ b, I b → G.I b ∨ G.w0.heap.size ≤ b ∨ G.O b
  lt : ∀ b, I b → b < w.heap.size
  grow : Grow G.w0 w G.O
  sep : ∀ k b base, Live g k → β k = some (b, base) → (G.w0.heap.size ≤ b ∨ G.O b) ∧ ¬ I b
  inj : ∀ k k' b base base', Live g k → Live g k' → β k = some (b, base) → β k' = some (b, base') → k = k'
  kind : ∀ k i v v', g (.c k i) = some v → g (.a k) = some v' → False
  facts : ∀ l v, g l = some v → Holds w I β a.tmps l v
def R (G : Gh) (g : Facts) (a : Act) (w : World) : Prop := ∃ β I, R1 G β I g a w

def upd (g : Facts) (l : Loc) (v : Option Val) : Facts := fun m => if m = l then v else g m
theorem upd_same (g : Facts) (l : Loc) (v : Option Val) : upd g l v l = v := if_pos rfl
theorem upd_ne (g : Facts) {l m : Loc} (v : Option Val) (h : m ≠ l) : upd g l v m = g m := if_neg h
def applyW : List (Loc × Option Val) → Facts → Facts
  | [], g => g
  | (l, v) :: ws, g => applyW ws (upd g l v)
def Fresh (g : Facts) (k : Key) : Prop := ∀ l v, g l = some v → k ∉ l.keys ∧ k ∉ v.keys
theorem upd_sub {g : Facts} {l m : Loc} {v : Val} (h : upd g l none m = some v) : g m = some v := by
  unfold upd at h
  split at h
  · cases h
  · exact h
theorem Live.upd_none {g : Facts} {l : Loc} {k : Key} (h : Live (upd g l none) k) : Live g k := by
  rcases h with ⟨i, v, h⟩ | ⟨v, h⟩ <;> unfold upd at h <;> split at h
  · cases h
  · exact .inl ⟨i, v, h⟩
  · cases h
  · exact .inr ⟨v, h⟩
theorem Live.upd_slot {g : Facts} {d : Nat} {v : Option Val} {k : Key} : Live (upd g (.s d) v) k ↔ Live g k := by
  have h1 : ∀ i, upd g (.s d) v (.c k i) = g (.c k i) := fun i => upd_ne _ _ (by simp)
  have h2 : upd g (.s d) v (.a k) = g (.a k) := upd_ne _ _ (by simp)
  simp only [Live, h1, h2]
/-- A fact more about a key that is told already, or about a slot. -/
theorem Live.upd_some {g : Facts} {l : Loc} {v : Option Val} {k : Key} (h : Live (upd g l v) k) (hl : ∀ k, k ∈ l.keys → Live g k) : Live g k := by
  rcases h with ⟨i, x, h⟩ | ⟨x, h⟩ <;> unfold upd at h <;> split at h
  · rename_i he
    exact hl k (by rw [← he]; simp [Loc.keys])
  · exact .inl ⟨i, x, h⟩
  · rename_i he
    exact hl k (by rw [← he]; simp [Loc.keys])
  · exact .inr ⟨x, h⟩

section
variable {G : Gh} {β : Beta} {I : Nat → Prop} {g : Facts} {a : Act} {w : World}
theorem R1.ilt (h : R1 G β I g a w) : ∀ b, I b → b < w.heap.size := h.lt
theorem Holds.tmps {t t' : Array Value} {l : Loc} {v : Val} (h : Holds w I β t l v) (hs : ∀ n, l = .s n → t'.getD n undef = t.getD n undef) : Holds w I β t' l v := by
  cases l with
  | s n => cases v with
    | sv x => simp only [Holds] at h ⊢; rw [hs n rfl]; exact h
    | cell x => exact h
    | arr sz es => exact h
  | c k i => cases v <;> exact h
  | a k => cases v <;> exact h
/-- To forget. -/
theorem R1.forget (h : R1 G β I g a w) (l : Loc) : R1 G β I (upd g l none) a w where
  defers := h.defers
  size := h.size
  pin := h.pin
  imm0 := h.imm0
  imm1 := h.imm1
  lt := h.lt
  grow := h.grow
  sep := fun k b base hl => h.sep k b base hl.upd_none
  inj := fun k k' b base base' hl hl' => h.inj k k' b base base' hl.upd_none hl'.upd_none
  kind := fun k i v v' h1 h2 => h.kind k i v v' (upd_sub h1) (upd_sub h2)
  facts := fun m v hm => by
    unfold upd at hm
    split at hm
    · cases hm
    · exact h.facts m v hm
theorem R1.sub {g' : Facts} (h : R1 G β I g a w) (hs : ∀ l v, g' l = some v → g l = some v) : R1 G β I g' a w where
  defers := h.defers
  size := h.size
  pin := h.pin
  imm0 := h.imm0
  imm1 := h.imm1
  lt := h.lt
  grow := h.grow
  sep := fun k b base hl => h.sep k b base (hl.imp (fun ⟨i, v, hv⟩ => ⟨i, v, hs _ _ hv⟩) (fun ⟨v, hv⟩ => ⟨v, hs _ _ hv⟩))
  inj := fun k k' b base base' hl hl' => h.inj k k' b base base' (hl.imp (fun ⟨i, v, hv⟩ => ⟨i, v, hs _ _ hv⟩) (fun ⟨v, hv⟩ => ⟨v, hs _ _ hv⟩)) (hl'.imp (fun ⟨i, v, hv⟩ => ⟨i, v, hs _ _ hv⟩) (fun ⟨v, hv⟩ => ⟨v, hs _ _ hv⟩))
  kind := fun k i v v' h1 h2 => h.kind k i v v' (hs _ _ h1) (hs _ _ h2)
  facts := fun l v hv => h.facts l v (hs l v hv)
theorem getD_put_other {a : Act} {d n : Nat} {v : Value} (h : n ≠ d) : (a.put (some d) v).tmps.getD n undef = a.tmps.getD n undef := by
  simp [Act.put, Array.getD_eq_getD_getElem?, Array.getElem?_setIfInBounds_ne (Ne.symm h)]
theorem getD_put_same {a : Act} {d : Nat} {v : Value} (h : d < a.tmps.size) : (a.put (some d) v).tmps.getD d undef = v := by
  simp [Act.put, Array.getD_eq_getD_getElem?, h]
theorem size_put (a : Act) (d : Option Nat) (v : Value) : (a.put d v).tmps.size = a.tmps.size := by cases d <;> simp [Act.put]
theorem defers_put (a : Act) (d : Option Nat) (v : Value) : (a.put d v).defers = a.defers := by cases d <;> rfl
/-- A slot is written with something of which nothing is told. -/
theorem R1.putNone (h : R1 G β I g a w) (d : Nat) (v : Value) : R1 G β I (upd g (.s d) none) (a.put (some d) v) w where
  defers := by rw [defers_put]; exact h.defers
  size := by rw [size_put]; exact h.size
  pin := h.pin
  imm0 := h.imm0
  imm1 := h.imm1
  lt := h.lt
  grow := h.grow
  sep := fun k b base hl => h.sep k b base hl.upd_none
  inj := fun k k' b base base' hl hl' => h.inj k k' b base base' hl.upd_none hl'.upd_none
  kind := fun k i v v' h1 h2 => h.kind k i v v' (upd_sub h1) (upd_sub h2)
  facts := fun m x hm => by
    unfold upd at hm
    split at hm
    · cases hm
    · rename_i hne
      exact (h.facts m x hm).tmps fun n hn => getD_put_other (by rintro rfl; exact hne hn)
/-- A slot is written. -/
theorem R1.put (h : R1 G β I g a w) {d : Nat} (hd : d < G.N) {v : Value} {x : SV} (hx : RepSV w I β x v) : R1 G β I (upd g (.s d) (some (.sv x))) (a.put (some d) v) w where
  defers := by rw [defers_put]; exact h.defers
  size := by rw [size_put]; exact h.size
  pin := h.pin
  imm0 := h.imm0
  imm1 := h.imm1
  lt := h.lt
  grow := h.grow
  sep := fun k b base hl => h.sep k b base (Live.upd_slot.1 hl)
  inj := fun k k' b base base' hl hl' => h.inj k k' b base base' (Live.upd_slot.1 hl) (Live.upd_slot.1 hl')
  kind := fun k i v v' h1 h2 => h.kind k i v v' (by rwa [upd_ne _ _ (by simp)] at h1) (by rwa [upd_ne _ _ (by simp)] at h2)
  facts := fun m y hm => by
    unfold upd at hm
    split at hm
    · rename_i he
      subst he
      injection hm with hm
      subst hm
      simp only [Holds]
      rw [getD_put_same (by rw [h.size]; exact hd)]
      exact hx
    · rename_i hne
      exact (h.facts m y hm).tmps fun n hn => getD_put_other (by rintro rfl; exact hne hn)
theorem RowAt.grow {w' : World} {I' X : Nat → Prop} {cs : Array Value} {base sz : Nat} {es : List (List T)} (h : RowAt w I cs base sz es) (hg : Grow w w' X) (hX : ∀ b, I b → ¬ X b) (hI : ∀ b, I b → b < w.heap.size) (hI' : ∀ b, I b → I' b) : RowAt w' I' cs base sz es :=
  ⟨h.1, fun j el hj => ⟨(h.2 j el hj).1, fun i t hi => by
    obtain ⟨u, h1, h2⟩ := (h.2 j el hj).2 i t hi
    exact ⟨u, h1, h2.grow hg hX hI hI'⟩⟩⟩
/-- A fact stands over a stretch that writes none of its block. -/
theorem Holds.grow {w' : World} {I' X : Nat → Prop} {t : Array Value} {l : Loc} {v : Val} (h : Holds w I β t l v) (hg : Grow w w' X) (hX : ∀ b, I b → ¬ X b) (hI : ∀ b, I b → b < w.heap.size) (hI' : ∀ b, I b → I' b)
    (hl : ∀ k b base, k ∈ l.keys → β k = some (b, base) → ¬ X b) : Holds w' I' β t l v := by
  cases l with
  | s n => cases v with
    | sv x => exact RepSV.grow h hg hX hI hI'
    | cell x => exact h
    | arr sz es => exact h
  | c k i => cases v with
    | sv x => exact h
    | arr sz es => exact h
    | cell x =>
      obtain ⟨b, cs, e, fr, u, h1, h2, h3, h4, h5⟩ := h
      exact ⟨b, cs, e, fr, u, h1, by rw [hg.block b (lt_of_heap h2) (hl k b 0 (by simp [Loc.keys]) h1)]; exact h2, h3, h4, RepAV.grow h5 hg hX hI hI'⟩
  | a k => cases v with
    | sv x => exact h
    | cell x => exact h
    | arr sz es =>
      rcases h with h | ⟨b, base, cs, e, fr, h1, h2, h3, h4⟩
      · exact .inl h
      · exact .inr ⟨b, base, cs, e, fr, h1, by rw [hg.block b (lt_of_heap h2) (hl k b base (by simp [Loc.keys]) h1)]; exact h2, h3, h4.grow hg hX hI hI'⟩
/-- The world goes on; nothing that is told has been written. -/
theorem R1.step {w' : World} {X : Nat → Prop} (h : R1 G β I g a w) (hg : Grow w w' X) (hX : ∀ b, X b → b < w.heap.size → (G.w0.heap.size ≤ b ∨ G.O b) ∧ ¬ I b ∧ ∀ k base, Live g k → β k ≠ some (b, base)) : R1 G β I g a w' where
  defers := h.defers
  size := h.size
  pin := h.pin
  imm0 := h.imm0
  imm1 := h.imm1
  lt := fun b hb => Nat.lt_of_lt_of_le (h.lt b hb) hg.size
  grow := by
    refine ⟨hg.os.trans h.grow.os, hg.tape.trans h.grow.tape, hg.output.trans h.grow.output, Nat.le_trans h.grow.size hg.size, fun b hb ho => ?_, fun b cs e fr hb => ?_⟩
    · have hb' : b < w.heap.size := Nat.lt_of_lt_of_le hb h.grow.size
      by_cases hx : X b
      · rcases (hX b hx hb').1 with h1 | h1
        · omega
        · exact absurd h1 ho
      · exact (hg.block b hb' hx).trans (h.grow.block b hb ho)
    · obtain ⟨c1, f1, h1, s1⟩ := h.grow.shape b cs e fr hb
      obtain ⟨c2, f2, h2, s2⟩ := hg.shape b c1 e f1 h1
      exact ⟨c2, f2, h2, s2.trans s1⟩
  sep := h.sep
  inj := h.inj
  kind := h.kind
  facts := fun l v hl => (h.facts l v hl).grow hg (fun b hb hx => (hX b hx (h.lt b hb)).2.1 hb) h.lt (fun _ hb => hb) fun k b base hk hb hx => by
    have hlive : Live g k := by
      cases l with
      | s n => simp [Loc.keys] at hk
      | c k' i => simp [Loc.keys] at hk; subst hk; exact .inl ⟨i, v, hl⟩
      | a k' => simp [Loc.keys] at hk; subst hk; exact .inr ⟨v, hl⟩
    have hlt : b < w.heap.size := by
      have hh := h.facts l v hl
      cases l with
      | s n => simp [Loc.keys] at hk
      | c k' i =>
        simp [Loc.keys] at hk; subst hk
        cases v with
        | sv x => exact hh.elim
        | arr sz es => exact hh.elim
        | cell x =>
          obtain ⟨b', cs, e, fr, u, h1, h2, _⟩ := hh
          rw [hb] at h1; injection h1 with h1; injection h1 with h1 _; subst h1; exact lt_of_heap h2
      | a k' =>
        simp [Loc.keys] at hk; subst hk
        cases v with
        | sv x => exact hh.elim
        | cell x => exact hh.elim
        | arr sz es =>
          rcases hh with ⟨h1, _⟩ | ⟨b', base', cs, e, fr, h1, h2, _⟩
          · rw [hb] at h1; cases h1
          · rw [hb] at h1; injection h1 with h1; injection h1 with h1 _; subst h1; exact lt_of_heap h2
    exact (hX b hx hlt).2.2 k base hlive hb
theorem R1.alloc (h : R1 G β I g a w) (o : Obj) : R1 G β I g a (w.alloc o) := h.step (Grow.alloc w o (fun _ => False)) (fun _ hx => hx.elim)
theorem R1.drew (h : R1 G β I g a w) : R1 G β I g a w.drew := h.step (Grow.drew w (fun _ => False)) (fun _ hx => hx.elim)
theorem Holds.beta {β' : Beta} {t : Array Value} {l : Loc} {v : Val} (h : Holds w I β t l v) (hb : ∀ k, k ∈ l.keys ∨ k ∈ v.keys → β' k = β k) : Holds w I β' t l v := by
  cases l with
  | s n => cases v with
    | sv x => exact RepSV.beta h fun k hk => hb k (.inr hk)
    | cell x => exact h
    | arr sz es => exact h
  | c k i => cases v with
    | sv x => exact h
    | arr sz es => exact h
    | cell x =>
      obtain ⟨b, cs, e, fr, u, h1, h2, h3, h4, h5⟩ := h
      exact ⟨b, cs, e, fr, u, (hb k (.inl (by simp [Loc.keys]))).trans h1, h2, h3, h4, h5.beta fun k hk => hb k (.inr hk)⟩
  | a k => cases v with
    | sv x => exact h
    | cell x => exact h
    | arr sz es =>
      have hk := hb k (.inl (by simp [Loc.keys]))
      simp only [Holds, hk]
      exact h
def updB (β : Beta) (k : Key) (v : Option (Nat × Nat)) : Beta := fun m => if m = k then v else β m
theorem updB_same (β : Beta) (k : Key) (v : Option (Nat × Nat)) : updB β k v k = v := if_pos rfl
theorem updB_ne (β : Beta) {k m : Key} (v : Option (Nat × Nat)) (h : m ≠ k) : updB β k v m = β m := if_neg h
theorem Fresh.notLive {k : Key} (h : Fresh g k) : ¬ Live g k := by
  rintro (⟨i, v, hv⟩ | ⟨v, hv⟩)
  · exact (h _ _ hv).1 (by simp [Loc.keys])
  · exact (h _ _ hv).1 (by simp [Loc.keys])
/-- A key that is not told of may stand for anything. -/
theorem R1.rebeta (h : R1 G β I g a w) {k : Key} (hf : Fresh g k) (hp : ¬ pinned k) (v : Option (Nat × Nat)) : R1 G (updB β k v) I g a w where
  defers := h.defers
  size := h.size
  pin := fun k' hk' => (updB_ne _ _ (by rintro rfl; exact hp hk')).trans (h.pin k' hk')
  imm0 := h.imm0
  imm1 := h.imm1
  lt := h.lt
  grow := h.grow
  sep := fun k' b base hl hb => h.sep k' b base hl (by rwa [updB_ne] at hb; rintro rfl; exact hf.notLive hl)
  inj := fun k1 k2 b base base' h1 h2 hb1 hb2 => h.inj k1 k2 b base base' h1 h2 (by rwa [updB_ne] at hb1; rintro rfl; exact hf.notLive h1) (by rwa [updB_ne] at hb2; rintro rfl; exact hf.notLive h2)
  kind := h.kind
  facts := fun l x hl => (h.facts l x hl).beta fun k' hk' => updB_ne _ _ (by
    rintro rfl
    rcases hk' with hk' | hk'
    · exact (hf l x hl).1 hk'
    · exact (hf l x hl).2 hk')
/-- A fact about a key's memory is added, or takes another's place. -/
theorem R1.fact (h : R1 G β I g a w) {l : Loc} {v : Val} (hv : Holds w I β a.tmps l v)
    (hk : ∀ k, k ∈ l.keys → Live g k ∨ ∀ b base, β k = some (b, base) → (G.w0.heap.size ≤ b ∨ G.O b) ∧ ¬ I b ∧ ∀ k' base', k' ≠ k → Live g k' → β k' ≠ some (b, base'))
    (hkc : ∀ k i, l = .c k i → g (.a k) = none) (hka : ∀ k, l = .a k → ∀ i, g (.c k i) = none) : R1 G β I (upd g l (some v)) a w := by
  have lk : ∀ k, Live (upd g l (some v)) k → Live g k ∨ k ∈ l.keys := by
    intro k hl
    rcases hl with ⟨i, x, hx⟩ | ⟨x, hx⟩ <;> unfold upd at hx <;> split at hx
    · rename_i he; exact .inr (by rw [← he]; simp [Loc.keys])
    · exact .inl (.inl ⟨i, x, hx⟩)
    · rename_i he; exact .inr (by rw [← he]; simp [Loc.keys])
    · exact .inl (.inr ⟨x, hx⟩)
  have one : ∀ k k', k ∈ l.keys → k' ∈ l.keys → k = k' := by
    intro k k' h1 h2
    cases l <;> simp [Loc.keys] at h1 h2 <;> rw [h1, h2]
  refine ⟨h.defers, h.size, h.pin, h.imm0, h.imm1, h.lt, h.grow, fun k b base hl hb => ?_, fun k k' b base base' hl hl' hb hb' => ?_, fun k i v1 v2 h1 h2 => ?_, fun m x hm => ?_⟩
  · rcases lk k hl with h1 | h1
    · exact h.sep k b base h1 hb
    · rcases hk k h1 with h2 | h2
      · exact h.sep k b base h2 hb
      · exact ⟨(h2 b base hb).1, (h2 b base hb).2.1⟩
  · have hy : ∀ k k', (Live g k ∨ k ∈ l.keys) → (Live g k' ∨ k' ∈ l.keys) → β k = some (b, base) → β k' = some (b, base') → k = k' := by
      intro k k' h1 h2 hb hb'
      have h1' : Live g k ∨ (k ∈ l.keys ∧ ∀ b base, β k = some (b, base) → (G.w0.heap.size ≤ b ∨ G.O b) ∧ ¬ I b ∧ ∀ k' base', k' ≠ k → Live g k' → β k' ≠ some (b, base')) := by
        rcases h1 with h1 | h1
        · exact .inl h1
        · exact (hk k h1).imp id fun h2 => ⟨h1, h2⟩
      have h2' : Live g k' ∨ (k' ∈ l.keys ∧ ∀ b base, β k' = some (b, base) → (G.w0.heap.size ≤ b ∨ G.O b) ∧ ¬ I b ∧ ∀ k base', k ≠ k' → Live g k → β k ≠ some (b, base')) := by
        rcases h2 with h2 | h2
        · exact .inl h2
        · exact (hk k' h2).imp id fun h3 => ⟨h2, h3⟩
      rcases h1' with h1' | ⟨h1', h3⟩ <;> rcases h2' with h2' | ⟨h2', h4⟩
      · exact h.inj k k' b base base' h1' h2' hb hb'
      · exact Classical.byContradiction fun hne => (h4 b base' hb').2.2 k base hne h1' hb
      · exact Classical.byContradiction fun hne => (h3 b base hb).2.2 k' base' (Ne.symm hne) h2' hb'
      · exact one k k' h1' h2'
    exact hy k k' (lk k hl) (lk k' hl') hb hb'
  · unfold upd at h1 h2
    split at h1
    · rename_i he
      rw [if_neg (by rw [← he]; simp), hkc k i he.symm] at h2
      cases h2
    · split at h2
      · rename_i he
        rw [hka k he.symm i] at h1
        cases h1
      · exact h.kind k i v1 v2 h1 h2
  · unfold upd at hm
    split at hm
    · rename_i he
      subst he
      injection hm with hm
      subst hm
      exact hv
    · exact h.facts m x hm
end
end Go.Ev

namespace Go.Ev

inductive Opd where
  | t (s : Nat)
  | i (k : IntKind) (n : Int)
  | b (v : Bool)
  | s (l : List UInt8)
  | nil (sz : Nat)
  | f (n : FuncId)
  deriving Inhabited

inductive SK where
  | i | b | s
  deriving Inhabited
inductive BK where
  | int | str | bool | agg (ks : List SK)
  deriving Inhabited

inductive Cv where
  | int (k : IntKind) | b2s | s2b | same | fn
  deriving Inhabited

inductive Ins where
  | mv (d : Nat) (x : Opd)
  | pick (d : Nat) (c x y : Opd)
  | alloc (d : Nat) (zs : List AV)
  | box (d n : Nat) (x : Opd)
  | build (d : Nat) (zs : List AV) (ps : List (Nat × Nat × Opd))
  | bsl (d sz n : Nat) (zs : List T) (ps : List (Nat × Opd))
  | load (d : Nat) (agg : Bool) (n : Nat) (x : Opd)
  | store (n : Nat) (x y : Opd)
  | nilchk (d : Nat) (x : Opd)
  | bin (d : Nat) (op : BinOp) (k : BK) (x y : Opd)
  | un (d : Nat) (op : UnOp) (x : Opd)
  | conv (d : Nat) (c : Cv) (x : Opd)
  | fld (d : Nat) (agg : Bool) (off n : Nat) (x : Opd)
  | faddr (d off : Nat) (x : Opd)
  | iaddr (d sz : Nat) (x i : Opd)
  | idx (d : Nat) (x i : Opd)
  | slc (d : Nat) (str : Bool) (sz : Nat) (x : Opd) (lo hi mx : Option Opd)
  | ext (d : Nat) (x : Opd) (j : Nat)
  | mkfn (d : Nat) (f : FuncId) (caps : List Opd)
  | call (d : Nat) (f : FuncId) (xs : List Opd)
  | callv (d : Nat) (x : Opd) (xs : List Opd)
  | len (d : Nat) (str : Bool) (x : Opd)
  | app (d sz bytes : Nat) (x y : Opd)
  | clr (d : Option Nat) (sz : Nat) (zs : List T) (x : Opd)
  | cpy (d sz : Nat) (x y : Opd)
  | mxn (d : Nat) (mx : Bool) (xs : List Opd)
  deriving Inhabited

abbrev Ws := List (Loc × Option Val)
def Loc.eqb : Loc → Loc → Bool
  | .s x, .s y => x == y
  | .c k i, .c m j => k == m && i == j
  | .a k, .a m => k == m
  | _, _ => false
/-- What an instruction leaves: facts that are told anew, and keys that are new. -/
abbrev Eff := Ws × List Key
/-- what became of what was handed over, and a call's result -/
inductive Mem where
  | box (l : List AV)
  | arr (sz : Nat) (es : List (List T))
  deriving Inhabited
/-- what became of what was handed over: the cells that may have been written; a row, as it was, written, or given up -/
inductive Bk where
  | box (l : List (Option AV))
  | keep
  | arr (sz : Nat) (es : List (List T))
  | gone
  deriving Inhabited
abbrev CRes := SV × List Bk × List Mem
/-- A reader of facts: what it reads, what it asks, and what it leaves. -/
inductive RP (α : Type) where
  | ret (a : α)
  | fail
  | rd (l : Loc) (k : Val → RP α)
  | chk (c : Prop) (d : Decidable c) (k : RP α)
  | br (b : Bool) (t e : RP α)
  | elem (es : List (List T)) (n : Nat) (k : List T → RP α)
  | byte (l : List UInt8) (n : Nat) (k : UInt8 → RP α)
  | str (o : Option (List UInt8)) (k : List UInt8 → RP α)
  | res (o : Option CRes) (k : CRes → RP α)
def need {α : Type} (c : Prop) [d : Decidable c] (k : RP α) : RP α := .chk c d k
def RP.val {α : Type} : RP α → Facts → Option α
  | .ret a, _ => some a
  | .fail, _ => none
  | .rd l k, g => match g l with
    | some v => (k v).val g
    | none => none
  | .chk c d k, g => if c then k.val g else none
  | .br b t e, g => if b then t.val g else e.val g
  | .elem es n k, g => match es[n]? with
    | some e => (k e).val g
    | none => none
  | .byte l n k, g => match l[n]? with
    | some e => (k e).val g
    | none => none
  | .str o k, g => match o with
    | some l => (k l).val g
    | none => none
  | .res o k, g => match o with
    | some r => (k r).val g
    | none => none
def RP.reads {α : Type} : RP α → Facts → List Loc
  | .ret _, _ => []
  | .fail, _ => []
  | .rd l k, g => l :: match g l with
    | some v => (k v).reads g
    | none => []
  | .chk c d k, g => if c then k.reads g else []
  | .br b t e, g => if b then t.reads g else e.reads g
  | .elem es n k, g => match es[n]? with
    | some e => (k e).reads g
    | none => []
  | .byte l n k, g => match l[n]? with
    | some e => (k e).reads g
    | none => []
  | .str o k, g => match o with
    | some l => (k l).reads g
    | none => []
  | .res o k, g => match o with
    | some r => (k r).reads g
    | none => []
/-- What a reader gives hangs on what it reads alone. -/
theorem RP.local_ {α : Type} {g g' : Facts} : ∀ (p : RP α), (∀ l, l ∈ p.reads g → g' l = g l) → p.val g' = p.val g ∧ p.reads g' = p.reads g
  | .ret _, _ => ⟨rfl, rfl⟩
  | .fail, _ => ⟨rfl, rfl⟩
  | .rd l k, h => by
    have hl := h l (by simp [RP.reads])
    simp only [RP.val, RP.reads, hl]
    cases hg : g l with
    | none => exact ⟨rfl, rfl⟩
    | some v =>
      have ih := RP.local_ (k v) fun m hm => h m (by simp only [RP.reads, hg]; exact List.mem_cons_of_mem _ hm)
      simp only [ih]
      exact ⟨trivial, trivial⟩
  | .chk c d k, h => by
    by_cases hc : c
    · have ih := RP.local_ k fun m hm => h m (by simp only [RP.reads, hc, if_true]; exact hm)
      simp only [RP.val, RP.reads, hc, if_true]
      exact ih
    · simp only [RP.val, RP.reads, hc, if_false, and_self]
  | .br b t e, h => by
    cases b with
    | true => exact RP.local_ t h
    | false => exact RP.local_ e h
  | .elem es n k, h => by
    cases hq : es[n]? with
    | none => simp only [RP.val, RP.reads, hq, and_self]
    | some e =>
      have ih := RP.local_ (k e) fun m hm => h m (by simp only [RP.reads, hq]; exact hm)
      simp only [RP.val, RP.reads, hq]
      exact ih
  | .byte l n k, h => by
    cases hq : l[n]? with
    | none => simp only [RP.val, RP.reads, hq, and_self]
    | some e =>
      have ih := RP.local_ (k e) fun m hm => h m (by simp only [RP.reads, hq]; exact hm)
      simp only [RP.val, RP.reads, hq]
      exact ih
  | .str o k, h => by
    cases o with
    | none => exact ⟨rfl, rfl⟩
    | some l => exact RP.local_ (k l) h
  | .res o k, h => by
    cases o with
    | none => exact ⟨rfl, rfl⟩
    | some r => exact RP.local_ (k r) h
theorem need_ok {α : Type} {c : Prop} [Decidable c] {k : RP α} {g : Facts} {r : α} (h : (need c k).val g = some r) : c ∧ k.val g = some r := by
  simp only [need, RP.val] at h
  split at h
  · exact ⟨by assumption, h⟩
  · cases h
theorem elem_ok {α : Type} {es : List (List T)} {n : Nat} {k : List T → RP α} {g : Facts} {r : α} (h : (RP.elem es n k).val g = some r) : ∃ e, es[n]? = some e ∧ (k e).val g = some r := by
  simp only [RP.val] at h
  split at h
  · exact ⟨_, by assumption, h⟩
  · cases h
theorem byte_ok {α : Type} {l : List UInt8} {n : Nat} {k : UInt8 → RP α} {g : Facts} {r : α} (h : (RP.byte l n k).val g = some r) : ∃ e, l[n]? = some e ∧ (k e).val g = some r := by
  simp only [RP.val] at h
  split at h
  · exact ⟨_, by assumption, h⟩
  · cases h
theorem str_ok {α : Type} {o : Option (List UInt8)} {k : List UInt8 → RP α} {g : Facts} {r : α} (h : (RP.str o k).val g = some r) : ∃ l, o = some l ∧ (k l).val g = some r := by
  cases o with
  | none => cases h
  | some x => exact ⟨x, rfl, h⟩
theorem res_ok {α : Type} {o : Option CRes} {k : CRes → RP α} {g : Facts} {r : α} (h : (RP.res o k).val g = some r) : ∃ x, o = some x ∧ (k x).val g = some r := by
  cases o with
  | none => cases h
  | some x => exact ⟨x, rfl, h⟩
theorem br_val {α : Type} {b : Bool} {t e : RP α} {g : Facts} : (RP.br b t e).val g = (if b = true then t else e).val g := by cases b <;> rfl

def kl (d i : Nat) : Key := 100 * d + i
def kin (j : Nat) : Key := 1000000 + j
def knew (i : Nat) : Key := 2000000 + i

def Opd.get {α : Type} (x : Opd) (k : SV → RP α) : RP α :=
  match x with
  | .t z => .rd (.s z) fun
    | .sv v => k v
    | _ => .fail
  | .i kd n => k (.c (.one (.t (.int kd n))))
  | .b v => k (.c (.one (.t (.bool v))))
  | .s z => k (.c (.one (.t (.str z))))
  | .nil sz => k (.c (.one (.nilsl sz)))
  | .f n => k (.c (.one (.fn n [])))
def gets {α : Type} : List Opd → (List SV → RP α) → RP α
  | [], k => k []
  | x :: xs, k => x.get fun v => gets xs fun l => k (v :: l)
def getOpt {α : Type} : Option Opd → (Option SV → RP α) → RP α
  | none, k => k none
  | some x, k => x.get fun v => k (some v)

def CV.cells : CV → List AV
  | .one a => [a]
  | .agg l => l
def SV.int : T → SV := fun x => .c (.one (.t x))
def ret (ws : Ws) (ns : List Key) : RP Eff := .ret (ws, ns)
def wr (d : Nat) (x : SV) : RP Eff := ret [(.s d, some (.sv x))] []
def wrT (d : Nat) (x : T) : RP Eff := wr d (.c (.one (.t x)))
def wrA (d : Nat) (x : AV) : RP Eff := wr d (.c (.one x))
def mkV (agg : Bool) (l : List AV) : Option SV :=
  if agg then some (.c (.agg l)) else match l with
    | [x] => some (.c (.one x))
    | _ => none
def wrO (d : Nat) : Option SV → RP Eff
  | some x => wr d x
  | none => .fail
/-- the facts of a variable's cells -/
def cellsW (k : Key) : Nat → List AV → Ws
  | _, [] => []
  | i, x :: l => (.c k i, some (.cell x)) :: cellsW k (i + 1) l
def rdCells {α : Type} (k : Key) : Nat → Nat → (List AV → RP α) → RP α
  | _, 0, c => c []
  | i, n + 1, c => .rd (.c k i) fun
    | .cell x => rdCells k (i + 1) n fun l => c (x :: l)
    | _ => .fail
def rdArr {α : Type} (k : Key) (sz : Nat) (c : List (List T) → RP α) : RP α := .rd (.a k) fun
  | .arr sz' es => if sz' = sz then c es else .fail
  | _ => .fail
def AV.toT : AV → Option T
  | .t x => some x
  | .nilsl sz => some (.sl sz [])
  | _ => none
def toTs : List AV → Option (List T)
  | [] => some []
  | x :: l => match x.toT, toTs l with
    | some t, some m => some (t :: m)
    | _, _ => none
def splice {α : Type} (l : List α) (off : Nat) (m : List α) : List α := l.take off ++ m ++ l.drop (off + m.length)

def maxN : Nat := 9223372036854775807
def lim : Nat := 140737488355328

def bitsT (op : BinOp) (k : IntKind) (x y : Int) : Option T :=
  let a := BitVec.ofInt k.bits x
  let b := BitVec.ofInt k.bits y
  match op with
  | .and => some (.int k (k.wrap (a &&& b).toNat))
  | .or => some (.int k (k.wrap (a ||| b).toNat))
  | .xor => some (.int k (k.wrap (a ^^^ b).toNat))
  | .andNot => some (.int k (k.wrap (a &&& ~~~b).toNat))
  | _ => none
def intBin (op : BinOp) (k : IntKind) (x : Int) (k' : IntKind) (y : Int) : Option T :=
  match op with
  | .shl => if y < 0 then none else some (.int k (k.wrap (x * 2 ^ min y.toNat k.bits)))
  | .shr => if y < 0 then none else some (.int k (x.fdiv (2 ^ min y.toNat k.bits)))
  | op => if k = k' then match op with
    | .add => some (.int k (k.wrap (x + y)))
    | .sub => some (.int k (k.wrap (x - y)))
    | .mul => some (.int k (k.wrap (x * y)))
    | .quo => if y = 0 then none else some (.int k (k.wrap (x.tdiv y)))
    | .rem => if y = 0 then none else some (.int k (x.tmod y))
    | .eql => some (.bool (x == y))
    | .neq => some (.bool (x != y))
    | .lss => some (.bool (x < y))
    | .leq => some (.bool (x ≤ y))
    | .gtr => some (.bool (x > y))
    | .geq => some (.bool (x ≥ y))
    | op => bitsT op k x y else none
def strBin (op : BinOp) (x y : List UInt8) : Option T :=
  match op with
  | .add => if x.length + y.length ≤ maxN then some (.str (x ++ y)) else none
  | .eql => some (.bool (x == y))
  | .neq => some (.bool !(x == y))
  | .lss => some (.bool (Op.bytesLess x y))
  | .leq => some (.bool (Op.bytesLess x y || x == y))
  | .gtr => some (.bool !(Op.bytesLess x y || x == y))
  | .geq => some (.bool !(Op.bytesLess x y))
  | _ => none
def eqT : SK → T → T → Option Bool
  | .i, .int k x, .int k' y => if k = k' then some (x == y) else none
  | .b, .bool x, .bool y => some (x == y)
  | .s, .str x, .str y => some (x == y)
  | _, _, _ => none
def eqTs : List SK → List AV → List AV → Option Bool
  | [], [], [] => some true
  | s :: ks, .t x :: l, .t y :: m => match eqT s x y, eqTs ks l m with
    | some a, some b => some (a && b)
    | _, _ => none
  | _, _, _ => none
def boolOp (op : BinOp) (r : Option Bool) : Option T :=
  match op, r with
  | .eql, some b => some (.bool b)
  | .neq, some b => some (.bool !b)
  | _, _ => none
def binV (op : BinOp) (k : BK) : SV → SV → Option T
  | .c (.one (.t (.int ka x))), .c (.one (.t (.int kb y))) => match k with
    | .int => intBin op ka x kb y
    | _ => none
  | .c (.one (.t (.str x))), .c (.one (.t (.str y))) => match k with
    | .str => strBin op x y
    | _ => none
  | .c (.one (.t (.bool x))), .c (.one (.t (.bool y))) => match k with
    | .bool => boolOp op (some (x == y))
    | _ => none
  | .c (.agg l), .c (.agg m) => match k with
    | .agg ks => boolOp op (eqTs ks l m)
    | _ => none
  | _, _ => none
/-- a sum of strings: its length is asked -/
def addOf (op : BinOp) (k : BK) : SV → SV → Option (List UInt8 × List UInt8)
  | .c (.one (.t (.str x))), .c (.one (.t (.str y))) => match op, k with
    | .add, .str => some (x, y)
    | _, _ => none
  | _, _ => none
def unV (op : UnOp) : SV → Option T
  | .c (.one (.t (.int k n))) => match op with
    | .neg => some (.int k (k.wrap (0 - n)))
    | .xor => bitsT .xor k (if k.signed then -1 else k.max) n
    | _ => none
  | .c (.one (.t (.bool b))) => match op with
    | .not => some (.bool !b)
    | _ => none
  | _ => none
def byteT (b : UInt8) : List T := [.int .u8 b.toNat]
def byteOfT : List T → Option UInt8
  | [.int .u8 n] => some (UInt8.ofNat n.toNat)
  | _ => none
def bytesOfTs : List (List T) → Option (List UInt8)
  | [] => some []
  | e :: es => match byteOfT e, bytesOfTs es with
    | some b, some l => some (b :: l)
    | _, _ => none
def natOf : SV → Option Nat
  | .c (.one (.t (.int _ n))) => if 0 ≤ n then some n.toNat else none
  | _ => none
def natRP {α : Type} (v : SV) (k : Nat → RP α) : RP α :=
  match v with
  | .c (.one (.t (.int _ n))) => need (0 ≤ n) (k n.toNat)
  | _ => .fail
def natOrRP {α : Type} (d : Nat) (o : Option SV) (k : Nat → RP α) : RP α :=
  match o with
  | none => k d
  | some v => natRP v k
def natOr (d : Nat) : Option SV → Option Nat
  | none => some d
  | some v => natOf v
def fill (cells : List AV) : List (Nat × Nat × SV) → Option (List AV)
  | [] => some cells
  | (off, n, .c v) :: rest => if v.cells.length = n ∧ off + n ≤ cells.length then fill (splice cells off v.cells) rest else none
  | _ => none
def fillT (sz : Nat) (es : List (List T)) : List (Nat × List T) → Option (List (List T))
  | [] => some es
  | (j, e) :: rest => if e.length = sz ∧ j < es.length then fillT sz (es.set j e) rest else none
def maxL (mx : Bool) (k : IntKind) : Int → List SV → Option T
  | x, [] => some (.int k x)
  | x, .c (.one (.t (.int k' y))) :: l => if k = k' then maxL mx k (if mx then if y > x then y else x else if y < x then y else x) l else none
  | _, _ => none
/-- what is appended or copied -/
def elemsOf {α : Type} (sz : Nat) (y : SV) (c : List (List T) → RP α) : RP α :=
  match y with
  | .c (.one (.t (.sl sz' es))) => if sz' = sz then c es else .fail
  | .c (.one (.t (.str l))) => if sz = 1 then c (l.map byteT) else .fail
  | .c (.one (.nilsl _)) => c []
  | .c (.one (.own k sz' off len _)) => if sz' = sz then rdArr k sz fun es => need (off + len ≤ es.length) (c ((es.drop off).take len)) else .fail
  | _ => .fail

/-- data, out of cells: a row of the call's own is given up -/
def AV.frz {α : Type} (x : AV) (c : T → Ws → RP α) : RP α :=
  match x with
  | .t y => c y []
  | .nilsl sz => c (.sl sz []) []
  | .own k sz off len _ => rdArr k sz fun es => need (off + len ≤ es.length) (c (.sl sz ((es.drop off).take len)) [(.a k, none)])
  | _ => .fail
def frz {α : Type} : List AV → (List T → Ws → RP α) → RP α
  | [], c => c [] []
  | x :: l, c => x.frz fun y w1 => frz l fun m w2 => c (y :: m) (w1 ++ w2)
def frzAll {α : Type} : List SV → (List (List T) → Ws → RP α) → RP α
  | [], c => c [] []
  | .c v :: l, c => frz v.cells fun y w1 => frzAll l fun m w2 => c (y :: m) (w1 ++ w2)
  | _ :: _, _ => .fail

/-! #### calls: what is handed over -/
abbrev CallFn := FuncId → List SV → List Mem → Option CRes
def AV.refs : AV → List (Key × Option Nat)
  | .own k _ _ _ _ | .eptr k _ _ _ => [(k, none)]
  | .ptr k n _ => [(k, some n)]
  | .fn _ caps => caps.map fun c => (c.1, some c.2)
  | _ => []
def CV.refs (x : CV) : List (Key × Option Nat) := x.cells.flatMap AV.refs
def SV.refs : SV → List (Key × Option Nat)
  | .c x => x.refs
  | .tup l => l.flatMap CV.refs
def gather {α : Type} : Nat → List (Key × Option Nat) → List (Key × Mem) → (List (Key × Mem) → RP α) → RP α
  | 0, _, _, _ => .fail
  | _ + 1, [], acc, c => c acc.reverse
  | n + 1, (k, o) :: todo, acc, c =>
    if acc.any (fun p => p.1 == k) then gather n todo acc c else
    match o with
    | some m => if m = 0 then .fail else rdCells k 0 m fun l => gather n (todo ++ l.flatMap AV.refs) ((k, .box l) :: acc) c
    | none => .rd (.a k) fun
      | .arr sz es => gather n todo ((k, .arr sz es) :: acc) c
      | _ => .fail
abbrev Ren := Key → Option Key
def AV.ren (r : Ren) : AV → Option AV
  | .own k sz off len c => (r k).map fun k' => .own k' sz off len c
  | .ptr k n off => (r k).map fun k' => .ptr k' n off
  | .eptr k sz i off => (r k).map fun k' => .eptr k' sz i off
  | .fn f caps => (caps.mapM fun c => (r c.1).map fun k' => (k', c.2)).map (.fn f)
  | x => some x
def CV.ren (r : Ren) : CV → Option CV
  | .one a => (a.ren r).map .one
  | .agg l => (l.mapM (AV.ren r)).map .agg
def SV.ren (r : Ren) : SV → Option SV
  | .c x => (x.ren r).map .c
  | .tup l => (l.mapM (CV.ren r)).map .tup
def Mem.ren (r : Ren) : Mem → Option Mem
  | .box l => (l.mapM (AV.ren r)).map .box
  | .arr sz es => some (.arr sz es)
def renIn (ks : List Key) : Ren := fun k => match ks.findIdx? (· == k) with
  | some j => some (kin j)
  | none => none
def renOut (ks : List Key) (d n : Nat) : Ren := fun k =>
  if 2000000 ≤ k then (if k - 2000000 < n then some (kl d (k - 2000000)) else none) else if 1000000 ≤ k then ks[k - 1000000]? else none
def Mem.ws (k : Key) : Mem → Ws
  | .box l => cellsW k 0 l
  | .arr sz es => [(.a k, some (.arr sz es))]
def cellsO (r : Ren) (k : Key) : Nat → List (Option AV) → Option Ws
  | _, [] => some []
  | i, none :: l => cellsO r k (i + 1) l
  | i, some x :: l => match x.ren r, cellsO r k (i + 1) l with
    | some y, some ws => some ((.c k i, some (.cell y)) :: ws)
    | _, _ => none
/-- the facts about what was handed over, behind the call -/
def backW (r : Ren) : List (Key × Mem) → List Bk → Option Ws
  | [], [] => some []
  | (k, m) :: ks, o :: os => match backW r ks os with
    | none => none
    | some ws => match m, o with
      | .box l, .box l' => if l'.length = l.length then (cellsO r k 0 l').map (· ++ ws) else none
      | .arr _ _, .keep => some ws
      | .arr sz _, .arr sz' es => if sz' = sz then some ((.a k, some (.arr sz es)) :: ws) else none
      | .arr _ _, .gone => some ((.a k, none) :: ws)
      | _, _ => none
  | _, _ => none
def newsW (ren : Ren) (d : Nat) : Nat → List Mem → Option Ws
  | _, [] => some []
  | i, m :: ms => match m.ren ren, newsW ren d (i + 1) ms with
    | some m', some ws => some (m'.ws (kl d i) ++ ws)
    | _, _ => none
def newKeys (d : Nat) (ms : List Mem) : List Key := (List.range ms.length).map (kl d)
def afterCall (d : Nat) (l : List (Key × Mem)) : CRes → RP Eff
  | (res, back, news) =>
    if news.length ≤ 100 then
      match res.ren (renOut (l.map (·.1)) d news.length), backW (renOut (l.map (·.1)) d news.length) l back, newsW (renOut (l.map (·.1)) d news.length) d 0 news with
      | some r, some w1, some w2 => ret (w1 ++ w2 ++ [(.s d, some (.sv r))]) (newKeys d news)
      | _, _, _ => .fail
    else .fail
def callRP (cl : CallFn) (d : Nat) (f : FuncId) (vs : List SV) : RP Eff :=
  gather 40 (vs.flatMap SV.refs) [] fun l =>
    match vs.mapM (SV.ren (renIn (l.map (·.1)))), (l.map (·.2)).mapM (Mem.ren (renIn (l.map (·.1)))) with
    | some vs', some ms => .res (cl f vs' ms) (afterCall d l)
    | _, _ => .fail
/-! #### calls of functions of which a summary is known: data only -/
abbrev Sum := FuncId → Option (List SV → Option (SV × List Mem))
def cvs {α : Type} (l : List AV) (c : List AV → Ws → RP α) : RP α := frz l fun m w => c (m.map .t) w
def svs {α : Type} : List SV → (List SV → Ws → RP α) → RP α
  | [], c => c [] []
  | .c (.one a) :: l, c => a.frz fun x w1 => svs l fun m w2 => c (.c (.one (.t x)) :: m) (w1 ++ w2)
  | .c (.agg as) :: l, c => cvs as fun bs w1 => svs l fun m w2 => c (.c (.agg bs) :: m) (w1 ++ w2)
  | .tup _ :: _, _ => .fail
def AV.flat : AV → Bool
  | .t (.sl _ _) => false
  | .t _ => true
  | _ => false
def CV.flat (x : CV) : Bool := x.cells.all AV.flat
def SV.flat : SV → Bool
  | .c x => x.flat
  | .tup l => l.all CV.flat
def Mem.isArr : Mem → Bool
  | .arr _ _ => true
  | _ => false
def sumRes (o : Option (SV × List Mem)) : Option CRes := o.map fun x => (x.1, [], x.2)
def sumRP (F : List SV → Option (SV × List Mem)) (d : Nat) (vs : List SV) : RP Eff :=
  svs vs fun vs' w1 => .res (sumRes (F vs')) fun
    | (res, _, news) =>
      if news.length ≤ 100 ∧ news.all Mem.isArr = true then
        match res.ren (renOut [] d news.length), newsW (renOut [] d news.length) d 0 news with
        | some r, some w2 => ret ((if res.flat && news.isEmpty then [] else w1) ++ w2 ++ [(.s d, some (.sv r))]) (newKeys d news)
        | _, _ => .fail
      else .fail

/-- a nil slice that is handed over is data -/
def AV.nn : AV → AV
  | .nilsl sz => .t (.sl sz [])
  | x => x
def SV.nn : SV → SV
  | .c (.one a) => .c (.one a.nn)
  | .c (.agg l) => .c (.agg (l.map AV.nn))
  | x => x
def dstW : Option Nat → Ws
  | some d => [(.s d, some (.sv (.tup [])))]
  | none => []
def capOf : SV → Option (Key × Nat)
  | .c (.one (.ptr k n 0)) => some (k, n)
  | _ => none
/-- a Bool is asked for -/
def wrB (d : Nat) (t : T) : RP Eff :=
  match t with
  | .bool e => .br e (wrT d (.bool true)) (wrT d (.bool false))
  | t => wrT d t
theorem wrB_val {d : Nat} {t : T} {g : Facts} : (wrB d t).val g = (wrT d t).val g := by
  cases t with
  | bool e => cases e <;> rfl
  | _ => rfl
/-- an append whose row goes by a new key -/
def appNew (k d sz off ln bytes : Nat) (es ys : List (List T)) : RP Eff :=
  need ((ln + ys.length) * bytes ≤ lim ∧ ln + ys.length ≤ maxN) <|
    ret [(.a k, none), (.a (kl d 0), some (.arr sz ((es.take (off + ln)).drop off ++ ys))), (.s d, some (.sv (.c (.one (.own (kl d 0) sz 0 (ln + ys.length) (ln + ys.length))))))] [kl d 0]
/-- an append behind all of a row -/
def appAll (k d sz bytes : Nat) (es ys : List (List T)) : RP Eff :=
  need ((es ++ ys).length * bytes ≤ lim ∧ (es ++ ys).length ≤ maxN) <|
    ret [(.a k, none), (.a (kl d 0), some (.arr sz (es ++ ys))), (.s d, some (.sv (.c (.one (.own (kl d 0) sz 0 (es ++ ys).length (es ++ ys).length)))))] [kl d 0]
theorem appAll_new {k d sz bytes : Nat} {es ys : List (List T)} : appAll k d sz bytes es ys = appNew k d sz 0 es.length bytes es ys := by
  unfold appAll appNew
  rw [Nat.zero_add, List.take_length, List.drop_zero, List.length_append]
def Ins.rp (S : Sum) (cl : CallFn) : Ins → RP Eff
  | .mv d x => x.get fun v => wr d v
  | .pick d c x y => c.get fun
    | .c (.one (.t (.bool b))) => if b then x.get fun u => wr d u else y.get fun u => wr d u
    | _ => .fail
  | .alloc d zs => ret (cellsW (kl d 0) 0 zs ++ [(.s d, some (.sv (.c (.one (.ptr (kl d 0) zs.length 0)))))]) [kl d 0]
  | .box d n x => x.get fun
    | .c v => if v.cells.length = n then ret (cellsW (kl d 0) 0 v.cells ++ [(.s d, some (.sv (.c (.one (.ptr (kl d 0) n 0)))))]) [kl d 0] else .fail
    | _ => .fail
  | .build d zs ps => gets (ps.map (·.2.2)) fun vs => match fill zs ((ps.zip vs).map fun p => (p.1.1, p.1.2.1, p.2)) with
    | some l => wr d (.c (.agg l))
    | none => .fail
  | .bsl d sz n zs ps => gets (ps.map (·.2)) fun vs => frzAll vs fun ts w1 => match fillT sz (List.replicate n zs) ((ps.map (·.1)).zip ts) with
    | some es => ret (w1 ++ [(.a (kl d 0), some (.arr sz es)), (.s d, some (.sv (.c (.one (.own (kl d 0) sz 0 n n)))))]) [kl d 0]
    | none => .fail
  | .load d agg n x => x.get fun
    | .c (.one (.ptr k _ off)) => rdCells k off n fun l => wrO d (mkV agg l)
    | .c (.one (.eptr k sz j off)) => rdArr k sz fun es => .elem es j fun e => if off + n ≤ sz then wrO d (mkV agg (((e.drop off).take n).map .t)) else .fail
    | .c (.one (.rptr e off)) => if off + n ≤ e.length then wrO d (mkV agg (((e.drop off).take n).map .t)) else .fail
    | _ => .fail
  | .store n x y => x.get fun p => y.get fun
    | .c v => if v.cells.length = n then match p with
        | .c (.one (.ptr k _ off)) => rdCells k off n fun _ => ret (cellsW k off v.cells) []
        | .c (.one (.eptr k sz j off)) => frz v.cells fun ts w1 => rdArr k sz fun es => .elem es j fun e =>
            if off + n ≤ sz ∧ w1.all (fun x => !(x.1.eqb (.a k))) = true then ret (w1 ++ [(.a k, some (.arr sz (es.set j (splice e off ts))))]) [] else .fail
        | _ => .fail else .fail
    | _ => .fail
  | .nilchk d x => x.get fun
    | .c (.one (.ptr k n off)) => wrA d (.ptr k n off)
    | .c (.one (.eptr k sz j off)) => wrA d (.eptr k sz j off)
    | .c (.one (.rptr e off)) => wrA d (.rptr e off)
    | _ => .fail
  | .bin d op k x y => x.get fun u => y.get fun v => match addOf op k u v with
    | some (a, b) => need (a.length + b.length ≤ maxN) (wrT d (.str (a ++ b)))
    | none => match binV op k u v with
      | some t => wrB d t
      | none => .fail
  | .un d op x => x.get fun u => match unV op u with
    | some t => wrT d t
    | none => .fail
  | .conv d c x => x.get fun u => match c with
    | .int k => match u with
      | .c (.one (.t (.int _ n))) => wrT d (.int k (k.wrap n))
      | _ => .fail
    | .b2s => elemsOf 1 u fun es => .str (bytesOfTs es) fun l => wrT d (.str l)
    | .s2b => match u with
      | .c (.one (.t (.str l))) => need (l.length ≤ maxN) (ret [(.a (kl d 0), some (.arr 1 (l.map byteT))), (.s d, some (.sv (.c (.one (.own (kl d 0) 1 0 l.length l.length)))))] [kl d 0])
      | _ => .fail
    | .same => match u with
      | .c (.one (.own k sz off ln c)) => need (0 < c) (rdArr k sz fun _ => wrA d (.own k sz off ln c))
      | _ => .fail
    | .fn => .fail
  | .fld d agg off n x => x.get fun
    | .c (.agg l) => if off + n ≤ l.length then wrO d (mkV agg ((l.drop off).take n)) else .fail
    | _ => .fail
  | .faddr d off x => x.get fun
    | .c (.one (.ptr k n o)) => wrA d (.ptr k n (o + off))
    | .c (.one (.eptr k sz j o)) => wrA d (.eptr k sz j (o + off))
    | .c (.one (.rptr e o)) => wrA d (.rptr e (o + off))
    | _ => .fail
  | .iaddr d sz x i => x.get fun u => i.get fun v => natRP v fun n => match u with
      | .c (.one (.t (.sl sz' es))) => if sz' = sz then .elem es n fun e => wrA d (.rptr e 0) else .fail
      | .c (.one (.own k sz' off ln _)) => if sz' = sz then need (n < ln) (wrA d (.eptr k sz (off + n) 0)) else .fail
      | _ => .fail
  | .idx d x i => x.get fun u => i.get fun v => match u with
    | .c (.one (.t (.str l))) => natRP v fun n => .byte l n fun b => wrT d (.int .u8 b.toNat)
    | _ => .fail
  | .slc d str sz x lo hi mx => x.get fun u => getOpt lo fun l => getOpt hi fun h => getOpt mx fun m => match u with
    | .c (.one (.t (.str z))) => if str = true ∧ m.isNone = true then natOrRP 0 l fun a => natOrRP z.length h fun b => need (a ≤ b ∧ b ≤ z.length) (wrT d (.str ((z.take b).drop a))) else .fail
    | .c (.one (.t (.sl sz' es))) => if str = false ∧ sz' = sz ∧ m.isNone = true then natOrRP 0 l fun a => natOrRP es.length h fun b => need (a ≤ b ∧ b ≤ es.length) (wrT d (.sl sz ((es.take b).drop a))) else .fail
    | .c (.one (.nilsl sz')) => if str = false ∧ m.isNone = true then natOrRP 0 l fun a => natOrRP 0 h fun b => need (a = 0 ∧ b = 0) (wrA d (.nilsl sz')) else .fail
    | .c (.one (.own k sz' off ln c)) => if str = false ∧ sz' = sz then natOrRP 0 l fun a => natOrRP ln h fun b => natOrRP c m fun c' => need (a ≤ b ∧ b ≤ c' ∧ c' ≤ c) (wrA d (.own k sz (off + a) (b - a) (c' - a))) else .fail
    | _ => .fail
  | .ext d x j => x.get fun
    | .tup l => match l[j]? with
      | some v => wr d (.c v)
      | none => .fail
    | _ => .fail
  | .mkfn d f caps => gets caps fun vs => match vs.mapM capOf with
    | some ks => wrA d (.fn f ks)
    | none => .fail
  | .call d f xs => gets xs fun vs => match S f with
    | some F => sumRP F d vs
    | none => callRP cl d f (vs.map SV.nn)
  | .callv d x xs => x.get fun
    | .c (.one (.fn f caps)) => gets xs fun vs => callRP cl d f (vs ++ caps.map fun c => .c (.one (.ptr c.1 c.2 0)))
    | _ => .fail
  | .len d str x => x.get fun
    | .c (.one (.t (.str l))) => if str then wrT d (.int .i64 l.length) else .fail
    | .c (.one (.t (.sl _ es))) => if str then .fail else wrT d (.int .i64 es.length)
    | .c (.one (.nilsl _)) => if str then .fail else wrT d (.int .i64 0)
    | .c (.one (.own _ _ _ ln _)) => if str then .fail else wrT d (.int .i64 ln)
    | _ => .fail
  | .app d sz bytes x y => x.get fun u => y.get fun v => elemsOf sz v fun ys => match u with
    | .c (.one (.nilsl _)) => need (ys.length * bytes ≤ lim ∧ ys.length ≤ maxN) (ret [(.a (kl d 0), some (.arr sz ys)), (.s d, some (.sv (.c (.one (.own (kl d 0) sz 0 ys.length ys.length)))))] [kl d 0])
    | .c (.one (.own k sz' off ln c)) => if sz' = sz then rdArr k sz fun es => need (off + ln ≤ es.length) <|
          .br (decide (off = 0 ∧ ln = es.length)) (appAll k d sz bytes es ys) <|
          .br (decide (ln + ys.length ≤ c ∧ off + (ln + ys.length) ≤ es.length)) (ret [(.a k, some (.arr sz (splice es (off + ln) ys))), (.s d, some (.sv (.c (.one (.own k sz off (ln + ys.length) c)))))] []) <|
          appNew k d sz off ln bytes es ys
        else .fail
    | _ => .fail
  | .clr d sz zs x => x.get fun
    | .c (.one (.nilsl _)) => ret (dstW d) []
    | .c (.one (.own k sz' off ln _)) => if sz' = sz then rdArr k sz fun es =>
        if zs.length = sz then need (off + ln ≤ es.length) (ret ((.a k, some (.arr sz (splice es off (List.replicate ln zs)))) :: dstW d) []) else .fail else .fail
    | _ => .fail
  | .cpy d sz x y => x.get fun u => y.get fun v => elemsOf sz v fun ys => match u with
    | .c (.one (.own k sz' off ln _)) => if sz' = sz then rdArr k sz fun es =>
        need (off + ln ≤ es.length) (ret [(.a k, some (.arr sz (splice es off (ys.take ln)))), (.s d, some (.sv (.c (.one (.t (.int .i64 ((min ys.length ln : Nat) : Int)))))))] []) else .fail
    | _ => .fail
  | .mxn d mx xs => gets xs fun
    | .c (.one (.t (.int k x))) :: l => match maxL mx k x l with
      | some t => wrT d t
      | none => .fail
    | _ => .fail
end Go.Ev

namespace Go.Ev

def szOf (P : Program) (t : TypeId) : Nat := match P.info? t with
  | some i => i.size
  | none => 0
def byOf (P : Program) (t : TypeId) : Nat := match P.info? t with
  | some i => i.bytes
  | none => 0
def aggD : TypeDesc → Bool
  | .struct _ | .array _ _ => true
  | _ => false
def aggOf (P : Program) (t : TypeId) : Option Bool := (P.underlying t).map aggD
def elemOfT (P : Program) (t : TypeId) : Option TypeId := match P.underlying t with
  | some (.slice e) => some e
  | _ => none
def elemSz (P : Program) (t : TypeId) : Nat := match elemOfT P t with
  | some e => szOf P e
  | none => 0
def isU8 (P : Program) (t : TypeId) : Bool := match P.underlying t with
  | some (.int .u8) => true
  | _ => false
def isStr (P : Program) (t : TypeId) : Bool := match P.underlying t with
  | some .string => true
  | _ => false
def fieldsOf (P : Program) (t : TypeId) : Option (List Field) := match P.underlying t with
  | some (.struct fs) => some fs.toList
  | _ => none
/-- a type's zero value, as facts -/
def zeroT (P : Program) : Nat → TypeId → Option (List AV)
  | 0, _ => none
  | d + 1, t => match P.underlying t with
    | some (.int k) => some [.t (.int k 0)]
    | some .bool => some [.t (.bool false)]
    | some .string => some [.t (.str [])]
    | some (.slice e) => some [.nilsl (szOf P e)]
    | some (.struct fs) => (fs.toList.mapM fun f => zeroT P d f.type).map List.flatten
    | _ => none
def avIs : AV → Value → Bool
  | .t (.int k n), .int k' m => k == k' && n == m
  | .t (.bool b), .bool c => b == c
  | .t (.str l), .string s => l == s.data.toList
  | .nilsl _, .slice none 0 0 => true
  | _, _ => false
def avsIs : List AV → List Value → Bool
  | [], [] => true
  | a :: l, v :: m => avIs a v && avsIs l m
  | _, _ => false
def zeroOf (P : Program) (t : TypeId) : Option (List AV) := match (P.info? t).bind (·.zero) with
  | some z => match zeroT P 20 t with
    | some zs => if avsIs zs z.cells.toList then some zs else none
    | none => none
  | none => none
def okFn (P : Program) (f : FuncId) : Bool := match P.funcs[f]? with
  | some fn => fn.name != "runtime.NumGoroutine" && fn.body.isSome
  | none => false
def opdOf (P : Program) (t : TypeId) : Operand → Option Opd
  | .tmp s => some (.t s)
  | .const (.int k n) => some (.i k n)
  | .const (.bool b) => some (.b b)
  | .const (.string s) => some (.s s.data.toList)
  | .const (.slice none 0 0) => some (.nil (elemSz P t))
  | .func f => some (.f f)
  | _ => none
def opdsOf (P : Program) : List TypeId → List Operand → Option (List Opd)
  | _, [] => some []
  | t :: ts, x :: xs => match opdOf P t x, opdsOf P ts xs with
    | some y, some ys => some (y :: ys)
    | _, _ => none
  | [], x :: xs => match opdOf P 0 x, opdsOf P [] xs with
    | some y, some ys => some (y :: ys)
    | _, _ => none
def opdO (P : Program) (t : TypeId) : Option Operand → Option (Option Opd)
  | none => some none
  | some x => (opdOf P t x).map some
/-- is '==' at this type one of plain cells, and of no more? -/
def scalarD : TypeDesc → Option SK
  | .bool => some .b
  | .int _ => some .i
  | .string => some .s
  | _ => none
def eqFields (P : Program) : Nat → List Field → Option (List SK)
  | _, [] => some []
  | i, f :: fs => if f.name ≠ "_" ∧ f.offset = i then match (P.underlying f.type).bind scalarD, eqFields P (i + 1) fs with
    | some k, some ks => some (k :: ks)
    | _, _ => none else none
def eqOk (P : Program) (t : TypeId) : Option (List SK) := match P.underlying t with
  | some (.struct fs) => if P.stoodInHeld t = false ∧ P.eqGuardType P.depth t = false then eqFields P 0 fs.toList else none
  | _ => none
def bkOf (P : Program) (op : BinOp) (t : TypeId) : Option BK :=
  match P.underlying t with
  | some (.int _) => some .int
  | some .string => some .str
  | some .bool => (match op with | .eql | .neq => some .bool | _ => none)
  | some (.struct _) => (match op with | .eql | .neq => (eqOk P t).map .agg | _ => none)
  | _ => none
def cvOf (P : Program) (s t : TypeId) : Option Cv :=
  match P.underlying s, P.underlying t with
  | some (.int _), some (.int k) => some (.int k)
  | some (.slice e), some .string => if isU8 P e then some .b2s else none
  | some .string, some (.slice e) => if isU8 P e then some .s2b else none
  | some (.slice e), some (.slice _) => if s == t && isU8 P e then some .same else none
  | _, _ => none
def allT (zs : List AV) : Option (List T) := toTs zs
def partsOf (P : Program) (fs : List Field) : List (Nat × Operand) → Option (List (Nat × Nat × Opd))
  | [] => some []
  | (i, x) :: ps => match fs[i]? with
    | none => none
    | some f => match opdOf P f.type x, partsOf P fs ps with
      | some y, some l => some ((f.offset, szOf P f.type, y) :: l)
      | _, _ => none
def partsE (P : Program) (e : TypeId) : List (Nat × Operand) → Option (List (Nat × Opd))
  | [] => some []
  | (i, x) :: ps => match opdOf P e x, partsE P e ps with
    | some y, some l => some ((i, y) :: l)
    | _, _ => none
def clearOf (P : Program) (d : Option Nat) : List TypeId → List Operand → Option Ins
  | [t], [x] => match elemOfT P t with
    | some e => match opdOf P t x, (zeroOf P e).bind toTs with
      | some x', some zs => if zs.length = szOf P e ∧ 0 < szOf P e then some (.clr d (szOf P e) zs x') else none
      | _, _ => none
    | none => none
  | _, _ => none
def srcOk (P : Program) (u e : TypeId) : Bool := match P.underlying u with
  | some (.slice e') => szOf P e' == szOf P e
  | some .string => isU8 P e && szOf P e == 1
  | _ => false
def builtinOf (P : Program) (d : Nat) (b : Builtin) (ts : List TypeId) (xs : List Operand) : Option Ins :=
  match b, ts, xs with
  | .len, [t], [x] => match P.underlying t with
    | some .string => (opdOf P t x).map (.len d true)
    | some (.slice _) => (opdOf P t x).map (.len d false)
    | _ => none
  | .append, [t, u], [x, y] => match elemOfT P t with
    | some e => match opdOf P t x, opdOf P u y, zeroOf P e with
      | some x', some y', some zs => if zs.length = szOf P e ∧ 0 < szOf P e ∧ 0 < byOf P e ∧ srcOk P u e = true then some (.app d (szOf P e) (byOf P e) x' y') else none
      | _, _, _ => none
    | none => none
  | .clear, ts, xs => clearOf P (some d) ts xs
  | .copy, [t, u], [x, y] => match elemOfT P t with
    | some e => match opdOf P t x, opdOf P u y with
      | some x', some y' => if 0 < szOf P e ∧ srcOk P u e = true then some (.cpy d (szOf P e) x' y') else none
      | _, _ => none
    | none => none
  | .max, ts, xs => if xs.length ≤ 4 then (opdsOf P ts xs).map (.mxn d true) else none
  | .min, ts, xs => if xs.length ≤ 4 then (opdsOf P ts xs).map (.mxn d false) else none
  | _, _, _ => none
def compD (P : Program) (d : Nat) (ty : TypeId) : Op → Option Ins
  | .move x | .assign x => (opdOf P ty x).map (.mv d)
  | .pick c a b => match opdOf P 0 c, opdOf P ty a, opdOf P ty b with
    | some c', some a', some b' => some (.pick d c' a' b')
    | _, _, _ => none
  | .alloc t => (zeroOf P t).map (.alloc d)
  | .box t x => (opdOf P t x).map (.box d (szOf P t))
  | .build t ps => match fieldsOf P t, zeroOf P t with
    | some fs, some zs => if fs.all (fun f => (P.info? f.type).isSome) then (partsOf P fs ps.toList).map (.build d zs) else none
    | _, _ => none
  | .buildSlice t n ps => match elemOfT P t with
    | some e => match (zeroOf P e).bind toTs with
      | some zs => if n * szOf P e ≤ 2 ^ 24 ∧ zs.length = szOf P e ∧ 0 < szOf P e then (partsE P e ps.toList).map (.bsl d (szOf P e) n zs) else none
      | none => none
    | none => none
  | .load t x => match aggOf P t, (P.info? t).isSome with
    | some b, true => (opdOf P 0 x).map (.load d b (if b then szOf P t else 1))
    | _, _ => none
  | .nilCheck x => (opdOf P 0 x).map (.nilchk d)
  | .binOp op t x y _ => match bkOf P op t, opdOf P t x, opdOf P t y with
    | some k, some x', some y' => some (.bin d op k x' y')
    | _, _, _ => none
  | .unOp op t x => (opdOf P t x).map (.un d op)
  | .convert s t x => match cvOf P s t, opdOf P s x with
    | some c, some x' => some (.conv d c x')
    | _, _ => none
  | .field t x i => match (fieldsOf P t).bind (·[i]?) with
    | some f => match aggOf P f.type, (P.info? f.type).isSome with
      | some b, true => (opdOf P t x).map (.fld d b f.offset (if b then szOf P f.type else 1))
      | _, _ => none
    | none => none
  | .fieldAddr t x i => match (fieldsOf P t).bind (·[i]?) with
    | some f => if szOf P f.type ≠ 0 then (opdOf P 0 x).map (.faddr d f.offset) else none
    | none => none
  | .indexAddr t x i => match elemOfT P t with
    | some e => if (P.info? e).isSome then match opdOf P t x, opdOf P 0 i with
      | some x', some i' => some (.iaddr d (szOf P e) x' i')
      | _, _ => none else none
    | none => none
  | .index t x i => if isStr P t then match opdOf P t x, opdOf P 0 i with
      | some x', some i' => some (.idx d x' i')
      | _, _ => none else none
  | .slice t x lo hi mx => if mx.isSome = true ∧ hi.isSome = false then none else match opdOf P t x, opdO P 0 lo, opdO P 0 hi, opdO P 0 mx with
    | some x', some l, some h, some m => match P.underlying t with
      | some .string => some (.slc d true 0 x' l h m)
      | some (.slice e) => if (P.info? e).isSome then some (.slc d false (szOf P e) x' l h m) else none
      | _ => none
    | _, _, _, _ => none
  | .extract x j => (opdOf P 0 x).map fun x' => .ext d x' j
  | .makeFunc (.func f) first caps => if first.size = 0 ∧ okFn P f then (opdsOf P [] caps.toList).map (.mkfn d f) else none
  | .call c => match c.callee with
    | .value (.func f) => (opdsOf P c.argTypes.toList c.args.toList).map (.call d f)
    | .value (.tmp s) => (opdsOf P c.argTypes.toList c.args.toList).map (.callv d (.t s))
    | .builtin b => builtinOf P d b c.argTypes.toList c.args.toList
    | _ => none
  | _ => none
def comp (P : Program) (N : Nat) (o : Oper) : Option Ins :=
  match o.op, o.dst with
  | .store t p v, none => if (P.info? t).isSome then match opdOf P 0 p, opdOf P t v with
      | some x, some y => some (.store (szOf P t) x y)
      | _, _ => none else none
  | .store _ _ _, some _ => none
  | .call c, none => match c.callee with
    | .builtin .clear => clearOf P none c.argTypes.toList c.args.toList
    | _ => none
  | _, none => none
  | op, some d => if d < N ∧ d < 9999 then compD P d o.type op else none
end Go.Ev

namespace Go.Ev

abbrev St := List (Loc × Val)
def St.get (L : St) (l : Loc) : Option Val :=
  match L with
  | [] => none
  | (m, v) :: r => if m.eqb l then some v else St.get r l
def St.del : Loc → St → St
  | _, [] => []
  | l, (m, v) :: r => if m.eqb l then St.del l r else (m, v) :: St.del l r
def St.set (l : Loc) (o : Option Val) (L : St) : St := match o with
  | some v => (l, v) :: St.del l L
  | none => St.del l L
def St.app : Ws → St → St
  | [], L => L
  | (l, v) :: ws, L => St.app ws (St.set l v L)
def noKey (k : Key) (l : List Key) : Bool := l.all fun m => !(m == k)
def St.fresh (L : St) (k : Key) : Bool := L.all fun p => noKey k p.1.keys && noKey k p.2.keys

/-- One operation of a region, and its guard. -/
structure GI where
  i : Ins
  g : Option (Nat × Bool)
  deriving Inhabited
def Ins.dst : Ins → Option Nat
  | .mv d _ | .pick d _ _ _ | .alloc d _ | .box d _ _ | .build d _ _ | .bsl d _ _ _ _ | .load d _ _ _ | .nilchk d _ | .bin d _ _ _ _ | .un d _ _ | .conv d _ _ | .fld d _ _ _ _ | .faddr d _ _ | .iaddr d _ _ _ | .idx d _ _
  | .slc d _ _ _ _ _ _ | .ext d _ _ | .mkfn d _ _ | .call d _ _ | .callv d _ _ | .len d _ _ | .app d _ _ _ _ | .cpy d _ _ _ | .mxn d _ _ => some d
  | .store _ _ _ => none
  | .clr d _ _ _ => d
/-- an operation without a guard; with one -/
def p (i : Ins) : GI := ⟨i, none⟩
def q (s : Nat) (b : Bool) (i : Ins) : GI := ⟨i, some (s, b)⟩
/-- What an operation read, and what it left. -/
structure Rec where
  rs : List Loc
  ws : Ws
  ns : List Key
  deriving Inhabited
inductive AC where
  | skip
  | region (is : List GI) (ord : Option (List Nat))
  | seq (a b : AC)
  | cond (c : Opd) (a b : AC)
  | block (id : Nat) (a : AC)
  | loop (a : AC)
  | exit (id : Nat)
  | ret
  | filt (ss : List Nat) (a : AC)
  | own (s sz : Nat) (k : Key) (a : AC)
  deriving Inhabited
inductive Out where
  | norm (L : St)
  | exit (id : Nat) (L : St)
  | ret (L : St)
  deriving Inhabited

/-- The mark of a place of what was handed over: it may have been written. (A slot that no function has: what is told of it holds of itself.) -/
def markOf : Loc → Option Nat
  | .s _ => none
  | .c k i => if 1000000 ≤ k then some (1000000000 + (k - 1000000) * 1000 + (i + 1)) else none
  | .a k => if 1000000 ≤ k then some (1000000000 + (k - 1000000) * 1000) else none
def marksW : Ws → Ws
  | [] => []
  | (l, _) :: ws => match markOf l with
    | some n => (.s n, some (.sv (.tup []))) :: marksW ws
    | none => marksW ws
def isMark : Loc → Bool
  | .s n => 1000000000 ≤ n
  | _ => false
def marksL (L : St) : St := L.filter fun x => isMark x.1
def skipW : Option Nat → Ws
  | some d => [(.s d, some (.sv (.tup [])))]
  | none => []
def GI.rp (S : Sum) (cl : CallFn) (o : GI) : RP Eff :=
  match o.g with
  | none => o.i.rp S cl
  | some (s, want) => .rd (.s s) fun
    | .sv (.c (.one (.t (.bool b)))) => if want then (if b then o.i.rp S cl else ret (skipW o.i.dst) []) else (if b then ret (skipW o.i.dst) [] else o.i.rp S cl)
    | .sv (.tup _) => ret (skipW o.i.dst) []
    | _ => .fail
/-- no slot is emptied -/
def okWs (ws : Ws) : Bool := ws.all fun
  | (.s _, none) => false
  | _ => true
def evalI (S : Sum) (cl : CallFn) (o : GI) (L : St) : Option St :=
  match (o.rp S cl).val L.get with
  | some (ws, ns) => if ns.all L.fresh && okWs ws then some (St.app (ws ++ marksW ws) L) else none
  | none => none
def evalSeq (S : Sum) (cl : CallFn) : List GI → St → Option St
  | [], L => some L
  | o :: os, L => match evalI S cl o L with
    | some L' => evalSeq S cl os L'
    | none => none
def inL (l : Loc) (ls : List Loc) : Bool := ls.any fun m => m.eqb l
def valKeys : Option Val → List Key
  | some v => v.keys
  | none => []
def evalD (S : Sum) (cl : CallFn) : List GI → St → Option (List Rec × St)
  | [], L => some ([], L)
  | o :: os, L => match (o.rp S cl).val L.get with
    | some (ws, ns) => if ns.all L.fresh && okWs ws then match evalD S cl os (St.app (ws ++ marksW ws) L) with
        | some (rs, L') => some (⟨(o.rp S cl).reads L.get, ws ++ marksW ws, ns⟩ :: rs, L')
        | none => none
      else none
    | none => none
def writes (l : Loc) (ws : Ws) : Bool := ws.any fun x => x.1.eqb l
def mentions (k : Key) (r : Rec) : Bool := !(r.rs.all fun l => noKey k l.keys) || !(r.ws.all fun x => noKey k x.1.keys && noKey k (valKeys x.2))
def indep (x y : Rec) : Bool :=
  x.rs.all (fun l => !writes l y.ws) && y.rs.all (fun l => !writes l x.ws) && x.ws.all (fun e => !writes e.1 y.ws) &&
  x.ns.all (fun k => !mentions k y) && y.ns.all (fun k => !mentions k x)
/-- each operation is told apart from those ahead of it that it need not follow -/
def tells (k : Key) (ws : Ws) : Bool := !(ws.all fun x => noKey k x.1.keys && noKey k (valKeys x.2))
def okPair (ord : Nat) (i : Nat) (x y : Rec) : Bool := y.ns.all (fun k => !tells k x.ws) && (ord.testBit i || indep x y)
def okAll (ord : List Nat) : Nat → List Rec → List Rec → Bool
  | _, _, [] => true
  | j, done, r :: rs => (done.zipIdx.all fun e => okPair (ord.getD j 0) (j - 1 - e.2) e.1 r) && okAll ord (j + 1) (r :: done) rs
def evalR (S : Sum) (cl : CallFn) (is : List GI) (ord : Option (List Nat)) (L : St) : Option St :=
  match ord with
  | none => evalSeq S cl is L
  | some o => match evalD S cl is L with
    | some (rs, L') => if rs.all (fun r => r.ns.all L.fresh) && okAll o 0 [] rs then some L' else none
    | none => none
def slotsL : List Nat → St → Option (List (Nat × SV))
  | [], _ => some []
  | s :: ss, L => match L.get (.s s), slotsL ss L with
    | some (.sv v), some r => some ((s, v) :: r)
    | _, _ => none
def cellsL (k : Key) : Nat → List AV → St
  | _, [] => []
  | i, x :: l => (.c k i, .cell x) :: cellsL k (i + 1) l
def memL : List (Key × Mem) → St
  | [] => []
  | (k, .box l) :: ms => cellsL k 0 l ++ memL ms
  | (k, .arr sz es) :: ms => (.a k, .arr sz es) :: memL ms
/-- these slots, and what they lead to, and no more -/
def filtL (ss : List Nat) (L : St) : Option St :=
  match slotsL ss L with
  | some vs => match (gather 60 (vs.flatMap fun x => x.2.refs) [] (fun l => RP.ret l)).val L.get with
    | some l => some (vs.map (fun x => (.s x.1, .sv x.2)) ++ memL l ++ marksL L)
    | none => none
  | none => none
def ownL (s sz : Nat) (k : Key) (L : St) : Option St :=
  match L.get (.s s) with
  | some (.sv (.c (.one (.nilsl _)))) => if L.fresh k && k < 1000000 then some (St.app [(.a k, some (.arr sz [])), (.s s, some (.sv (.c (.one (.own k sz 0 0 0)))))] L) else none
  | some (.sv (.c (.one (.own k' sz' 0 len _)))) => match L.get (.a k') with
    | some (.arr sz'' es) =>
      let L1 := St.app [(.s s, none), (.a k', none)] L
      if sz' = sz ∧ sz'' = sz ∧ len ≤ es.length ∧ L1.fresh k = true ∧ L1.fresh k' = true ∧ k < 1000000 then
        some (St.app [(.a k, some (.arr sz (es.take len))), (.s s, some (.sv (.c (.one (.own k sz 0 len len)))))] L1)
      else none
    | _ => none
  | _ => none
/-- the same for a cell of a variable of the call's own -/
def ownC (k0 i sz : Nat) (k : Key) (L : St) : Option St :=
  match L.get (.c k0 i) with
  | some (.cell (.nilsl _)) => if L.fresh k && k < 1000000 && k0 < 1000000 && k != k0 then some (St.app [(.a k, some (.arr sz [])), (.c k0 i, some (.cell (.own k sz 0 0 0)))] L) else none
  | some (.cell (.own k' sz' 0 len _)) => match L.get (.a k') with
    | some (.arr sz'' es) =>
      let L1 := St.app [(.c k0 i, none), (.a k', none)] L
      if sz' = sz ∧ sz'' = sz ∧ len ≤ es.length ∧ L1.fresh k = true ∧ L1.fresh k' = true ∧ k < 1000000 ∧ k0 < 1000000 ∧ k ≠ k0 then
        some (St.app [(.a k, some (.arr sz (es.take len))), (.c k0 i, some (.cell (.own k sz 0 len len)))] L1)
      else none
    | _ => none
  | _ => none
def ownX (s sz : Nat) (k : Key) (L : St) : Option St := if s < 100000000 then ownL s sz k L else ownC ((s - 100000000) / 100) ((s - 100000000) % 100) sz k L
def loopN : Nat → (St → Option Out) → St → Option Out
  | 0, _, _ => none
  | n + 1, f, L => match f L with
    | some (.norm L') => loopN n f L'
    | r => r
def boolV (L : St) : Opd → Option Bool
  | .t s => match L.get (.s s) with
    | some (.sv (.c (.one (.t (.bool b))))) => some b
    | _ => none
  | .b v => some v
  | _ => none
def evalC (S : Sum) (cl : CallFn) (n : Nat) : AC → St → Option Out
  | .skip, L => some (.norm L)
  | .region is ord, L => (evalR S cl is ord L).map .norm
  | .seq a b, L => match evalC S cl n a L with
    | some (.norm L') => evalC S cl n b L'
    | r => r
  | .cond c a b, L => match boolV L c with
    | some true => evalC S cl n a L
    | some false => evalC S cl n b L
    | none => none
  | .block id a, L => match evalC S cl n a L with
    | some (.exit i L') => if i = id then some (.norm L') else some (.exit i L')
    | r => r
  | .loop a, L => loopN n (evalC S cl n a) L
  | .exit id, L => some (.exit id L)
  | .ret, L => some (.ret L)
  | .filt ss a, L => match filtL ss L with
    | some L' => evalC S cl n a L'
    | none => none
  | .own s sz k a, L => match ownX s sz k L with
    | some L' => evalC S cl n a L'
    | none => none

/-! #### functions -/
inductive RV where
  | tmp (s : Nat)
  | cell (s : Nat) (agg : Bool) (n : Nat)
  deriving Inhabited
structure FnC where
  np : Nat
  N : Nat
  res : List RV
  body : AC
  deriving Inhabited
def slotsOf : Nat → List SV → St
  | _, [] => []
  | i, v :: vs => (.s i, .sv v) :: slotsOf (i + 1) vs
def memsOf : Nat → List Mem → St
  | _, [] => []
  | j, .box l :: ms => cellsL (kin j) 0 l ++ memsOf (j + 1) ms
  | j, .arr sz es :: ms => (.a (kin j), .arr sz es) :: memsOf (j + 1) ms
def rvRP {α : Type} (r : RV) (c : CV → RP α) : RP α :=
  match r with
  | .tmp s => .rd (.s s) fun
    | .sv (.c v) => c v
    | _ => .fail
  | .cell s agg n => .rd (.s s) fun
    | .sv (.c (.one (.ptr k _ off))) => rdCells k off n fun l => match mkV agg l with
      | some (.c v) => c v
      | _ => .fail
    | _ => .fail
def rvsRP {α : Type} : List RV → (List CV → RP α) → RP α
  | [], c => c []
  | r :: rs, c => rvRP r fun v => rvsRP rs fun l => c (v :: l)
def joinV : List CV → SV
  | [v] => .c v
  | l => .tup l
def marked (L : St) (l : Loc) : Bool := match markOf l with
  | some n => (L.get (.s n)).isSome
  | none => true
def backC (L : St) (k : Key) : Nat → Nat → Option (List (Option AV))
  | _, 0 => some []
  | i, n + 1 => match L.get (.c k i), backC L k (i + 1) n with
    | some (.cell x), some r => some ((if marked L (.c k i) then some x else none) :: r)
    | _, _ => none
/-- what became of what was handed over -/
def backO (L : St) : Nat → List Mem → Option (List Bk)
  | _, [] => some []
  | j, .box l :: ms => match backC L (kin j) 0 l.length, backO L (j + 1) ms with
    | some l', some r => some (.box l' :: r)
    | _, _ => none
  | j, .arr sz _ :: ms => match L.get (.a (kin j)), backO L (j + 1) ms with
    | some (.arr sz' es), some r => if marked L (.a (kin j)) then (if sz' = sz then some (.arr sz es :: r) else none) else some (.keep :: r)
    | none, some r => some (.gone :: r)
    | _, _ => none
def renUp (ks : List Key) : Ren := fun k => if 2000000 ≤ k then none else if 1000000 ≤ k then some k else match ks.findIdx? (· == k) with
  | some j => some (knew j)
  | none => none
def cellRefs : List (Option AV) → List (Key × Option Nat)
  | [] => []
  | some x :: l => x.refs ++ cellRefs l
  | none :: l => cellRefs l
def backRefs : List Bk → List (Key × Option Nat)
  | [] => []
  | .box l :: r => cellRefs l ++ backRefs r
  | _ :: r => backRefs r
def renCells (r : Ren) : List (Option AV) → Option (List (Option AV))
  | [] => some []
  | none :: l => (renCells r l).map (none :: ·)
  | some x :: l => match x.ren r, renCells r l with
    | some y, some m => some (some y :: m)
    | _, _ => none
def renBack (r : Ren) : List Bk → Option (List Bk)
  | [] => some []
  | .box l :: bs => match renCells r l, renBack r bs with
    | some m, some r' => some (.box m :: r')
    | _, _ => none
  | b :: bs => (renBack r bs).map (b :: ·)
def endFn (res : SV) (back : List Bk) (l : List (Key × Mem)) : Option CRes :=
  let own := l.filter fun p => p.1 < 1000000
  let r := renUp (own.map (·.1))
  match res.ren r, renBack r back, (own.map (·.2)).mapM (Mem.ren r) with
  | some res', some back', some news => some (res', back', news)
  | _, _, _ => none
def leaveFn (fc : FnC) (ms : List Mem) (L : St) : Option CRes :=
  match (rvsRP fc.res (fun l => RP.ret l)).val L.get, backO L 0 ms with
  | some cvs, some back =>
    match (gather 60 ((joinV cvs).refs ++ backRefs back) [] (fun l => RP.ret l)).val L.get with
    | some l => endFn (joinV cvs) back l
    | none => none
  | _, _ => none
def Mem.low : Mem → Bool
  | .box l => l.all fun a => a.keys.all fun k => decide (k < 2000000)
  | .arr _ _ => true
def evalFn (S : Sum) (cl : CallFn) (n : Nat) (fc : FnC) (vs : List SV) (ms : List Mem) : Option CRes :=
  if vs.length = fc.np ∧ ms.length ≤ 1000 ∧ ms.all Mem.low = true then
    match evalC S cl n fc.body (slotsOf 0 vs ++ memsOf 0 ms) with
    | some (.ret L) => leaveFn fc ms L
    | some (.norm L) => leaveFn fc ms L
    | _ => none
  else none
abbrev Tab := FuncId → Option FnC
/-- calls, so deep and no deeper -/
def callN (A : Tab) (S : Sum) (n : Nat) : Nat → CallFn
  | 0 => fun _ _ _ => none
  | d + 1 => fun f vs ms => match A f with
    | some fc => evalFn S (callN A S n d) n fc vs ms
    | none => none

/-! #### made of the model's code -/
def guardOf (ops : Array Oper) : Option (Nat × Bool) → Option (Option (Nat × Bool))
  | none => some none
  | some (j, want) => match (ops[j]?).bind (·.dst) with
    | some s => some (some (s, want))
    | none => none
def compG (P : Program) (N : Nat) (ops : Array Oper) (o : Oper) : Option GI :=
  match comp P N o, guardOf ops o.guard with
  | some i, some g => some ⟨i, g⟩
  | _, _ => none
def compL (P : Program) (N : Nat) (ops : Array Oper) : List Oper → Option (List GI)
  | [] => some []
  | o :: os => match compG P N ops o, compL P N ops os with
    | some i, some is => some (i :: is)
    | _, _ => none
/-- the numbers of what goes ahead are closed, and tell of each edge -/
def edgesOf (o : Oper) : List Nat := (o.after.toList.filter (Region.binds .any)).map (·.on)
def ordChk1 (ord : List Nat) (i : Nat) (o : Oper) : Bool :=
  (edgesOf o).all (fun e => e < i) && (List.range i).all fun j => !((ord.getD i 0).testBit j) || (edgesOf o).any fun e => e == j || ((ord.getD e 0).testBit j && decide (j < e))
def ordChk (ord : List Nat) : Nat → List Oper → Bool
  | _, [] => true
  | i, o :: os => ordChk1 ord i o && ordChk ord (i + 1) os
def compC (P : Program) (N : Nat) : Code → Option AC
  | .skip => some .skip
  | .label _ => some .skip
  | .region _ ops draw => match compL P N ops ops.toList with
    | some is => if draw then (if ordChk (Region.before ops).toList 0 ops.toList = true then some (.region is (some (Region.before ops).toList)) else none) else some (.region is none)
    | none => none
  | .seq a b => match compC P N a, compC P N b with
    | some x, some y => some (.seq x y)
    | _, _ => none
  | .cond c a b => match opdOf P 0 c, compC P N a, compC P N b with
    | some o, some x, some y => some (.cond o x y)
    | _, _, _ => none
  | .block id a => (compC P N a).map (.block id)
  | .loop a => (compC P N a).map .loop
  | .exit id => some (.exit id)
  | .ret => some .ret
  | _ => none
def AC.strip : AC → AC
  | .seq a b => .seq a.strip b.strip
  | .cond c a b => .cond c a.strip b.strip
  | .block id a => .block id a.strip
  | .loop a => .loop a.strip
  | .filt _ a => a.strip
  | .own _ _ _ a => a.strip
  | c => c
def rvOf (P : Program) : ResultVar → Option RV
  | .tmp t => some (.tmp t)
  | .cell s t => match aggOf P t, (P.info? t).isSome with
    | some b, true => some (.cell s b (if b then szOf P t else 1))
    | _, _ => none
def rvsOf (P : Program) : List ResultVar → Option (List RV)
  | [] => some []
  | r :: rs => match rvOf P r, rvsOf P rs with
    | some x, some xs => some (x :: xs)
    | _, _ => none
def compF (P : Program) (f : FuncId) : Option FnC :=
  match P.funcs[f]? with
  | none => none
  | some fn => if okFn P f = true ∧ fn.ntmps ≤ 9999 ∧ fn.params.size + fn.nfree ≤ fn.ntmps then match fn.body with
    | none => none
    | some c => match compC P fn.ntmps c, rvsOf P fn.results.toList with
      | some b, some rs => some ⟨fn.params.size + fn.nfree, fn.ntmps, rs, b⟩
      | _, _ => none
    else none
def FnC.strip (fc : FnC) : FnC := { fc with body := fc.body.strip }
end Go.Ev

namespace Go.Ev

def Post (G : Gh) (g : Facts) (K : Act → World → Prop) : Prop := ∀ a w, R G g a w → K a w
section
variable {P : Program} {o : Oper} {G : Gh} {β : Beta} {I : Nat → Prop} {g : Facts} {a : Act} {w : World} {K : Act → World → Prop} {Q : Exit → Act → World → Prop}
theorem wp_value {w' : World} {v : Value} {g' : Facts} (hrun : (execOp a.eval o).run P w = .ok (.value v) w') (hR : R G g' (a.put o.dst v) w') (hK : Post G g' K) : o.wp P a w K Q := by
  unfold Oper.wp
  rw [hrun]
  exact hK _ _ hR
theorem wp_skip_ {w' : World} {g' : Facts} (hrun : (execOp a.eval o).run P w = .ok .skip w') (hR : R G g' (a.put o.dst undef) w') (hK : Post G g' K) : o.wp P a w K Q := by
  unfold Oper.wp
  rw [hrun]
  exact hK _ _ hR
/-- A value is written into a slot; the world may have gone on. -/
theorem wp_put {w' : World} {v : Value} {d : Nat} {x : SV} {ws : Ws} {ns : List Key} (h : R1 G β I g a w') (hrun : (execOp a.eval o).run P w = .ok (.value v) w') (hd : o.dst = some d) (hdN : d < G.N)
    (hx : RepSV w' I β x v) (hw : some ([(Loc.s d, some (Val.sv x))], ([] : List Key)) = some (ws, ns)) (hK : Post G (applyW ws g) K) : o.wp P a w K Q := by
  injection hw with hw
  injection hw with hw _
  subst hw
  refine wp_value hrun ?_ hK
  rw [hd]
  exact ⟨β, I, h.put hdN hx⟩
theorem opd_ok {t : TypeId} {x : Operand} {y : Opd} {α : Type} {k : SV → RP α} {r : α} (h : opdOf P t x = some y) (hr : R1 G β I g a w) (hv : (y.get k).val g = some r) :
    ∃ v, RepSV w I β v (a.eval x) ∧ (k v).val g = some r := by
  unfold opdOf at h
  split at h
  · injection h with h; subst h
    rename_i s
    simp only [Opd.get, RP.val] at hv
    cases hg : g (.s s) with
    | none => rw [hg] at hv; cases hv
    | some v =>
      rw [hg] at hv
      have hf := hr.facts _ _ hg
      cases v with
      | sv x => exact ⟨x, hf, hv⟩
      | cell x => exact hf.elim
      | arr sz es => exact hf.elim
  · injection h with h; subst h
    exact ⟨.c (.one (.t (.int _ _))), Rd.int _ _, hv⟩
  · injection h with h; subst h
    exact ⟨.c (.one (.t (.bool _))), Rd.bool _, hv⟩
  · injection h with h; subst h
    exact ⟨.c (.one (.t (.str _))), Rd.str _, hv⟩
  · injection h with h; subst h
    exact ⟨.c (.one (.nilsl _)), rfl, hv⟩
  · injection h with h; subst h
    exact ⟨.c (.one (.fn _ [])), ⟨[], rfl, trivial⟩, hv⟩
  · cases h
theorem opd_new {t : TypeId} {x : Operand} {y : Opd} {α : Type} {k : SV → RP α} {r : α} (h : opdOf P t x = some y) (hr : R1 G β I g a w) (hv : (y.get k).val g = some r) :
    ∃ v, RepSV w I β v (a.eval x) ∧ (∀ k, Fresh g k → k ∉ v.keys) ∧ (k v).val g = some r := by
  unfold opdOf at h
  split at h
  · injection h with h; subst h
    rename_i s
    simp only [Opd.get, RP.val] at hv
    cases hg : g (.s s) with
    | none => rw [hg] at hv; cases hv
    | some v =>
      rw [hg] at hv
      have hf := hr.facts _ _ hg
      cases v with
      | sv x => exact ⟨x, hf, fun k hk => (hk _ _ hg).2, hv⟩
      | cell x => exact hf.elim
      | arr sz es => exact hf.elim
  · injection h with h; subst h
    exact ⟨.c (.one (.t (.int _ _))), Rd.int _ _, fun _ _ => by simp [SV.keys, CV.keys, AV.keys], hv⟩
  · injection h with h; subst h
    exact ⟨.c (.one (.t (.bool _))), Rd.bool _, fun _ _ => by simp [SV.keys, CV.keys, AV.keys], hv⟩
  · injection h with h; subst h
    exact ⟨.c (.one (.t (.str _))), Rd.str _, fun _ _ => by simp [SV.keys, CV.keys, AV.keys], hv⟩
  · injection h with h; subst h
    exact ⟨.c (.one (.nilsl _)), rfl, fun _ _ => by simp [SV.keys, CV.keys, AV.keys], hv⟩
  · injection h with h; subst h
    exact ⟨.c (.one (.fn _ [])), ⟨[], rfl, trivial⟩, fun _ _ => by simp [SV.keys, CV.keys, AV.keys], hv⟩
  · cases h
theorem opds_new {xs : List Operand} {α : Type} {r : α} (hr : R1 G β I g a w) : ∀ {ts : List TypeId} {ys : List Opd} {k : List SV → RP α}, opdsOf P ts xs = some ys → (gets ys k).val g = some r →
    ∃ vs, All2 (fun v x => RepSV w I β v (a.eval x)) vs xs ∧ (∀ k, Fresh g k → ∀ v, v ∈ vs → k ∉ v.keys) ∧ (k vs).val g = some r := by
  induction xs with
  | nil => intro ts ys k h hv; cases ts <;> (simp only [opdsOf] at h; injection h with h; subst h; exact ⟨[], trivial, by simp, hv⟩)
  | cons x xs ih =>
    intro ts ys k h hv
    have key : ∀ t ts', (match opdOf P t x, opdsOf P ts' xs with | some y, some ys => some (y :: ys) | _, _ => none) = some ys → ∃ vs, All2 (fun v x => RepSV w I β v (a.eval x)) vs (x :: xs) ∧ (∀ k, Fresh g k → ∀ v, v ∈ vs → k ∉ v.keys) ∧ (k vs).val g = some r := by
      intro t ts' h
      split at h
      · rename_i y ys' h1 h2
        injection h with h; subst h
        simp only [gets] at hv
        obtain ⟨v, h3, hf, h4⟩ := opd_new h1 hr hv
        obtain ⟨vs, h5, hf', h6⟩ := ih h2 h4
        refine ⟨v :: vs, ⟨h3, h5⟩, fun k hk u hu => ?_, h6⟩
        rcases List.mem_cons.1 hu with rfl | hu
        · exact hf k hk
        · exact hf' k hk u hu
      · cases h
    cases ts with
    | nil => exact key 0 [] h
    | cons t ts => exact key t ts h
theorem opdO_ok {t : TypeId} {x : Option Operand} {y : Option Opd} {α : Type} {k : Option SV → RP α} {r : α} (h : opdO P t x = some y) (hr : R1 G β I g a w) (hv : (getOpt y k).val g = some r) :
    ∃ v, (match x, v with | none, none => True | some x, some v => RepSV w I β v (a.eval x) | _, _ => False) ∧ (k v).val g = some r := by
  cases x with
  | none => injection h with h; subst h; exact ⟨none, trivial, hv⟩
  | some x =>
    simp only [opdO, Option.map_eq_some_iff] at h
    obtain ⟨y', h1, rfl⟩ := h
    obtain ⟨v, h2, h3⟩ := opd_ok h1 hr hv
    exact ⟨some v, h2, h3⟩
theorem opds_ok {xs : List Operand} {α : Type} {r : α} (hr : R1 G β I g a w) : ∀ {ts : List TypeId} {ys : List Opd} {k : List SV → RP α}, opdsOf P ts xs = some ys → (gets ys k).val g = some r →
    ∃ vs, All2 (fun v x => RepSV w I β v (a.eval x)) vs xs ∧ (k vs).val g = some r := by
  induction xs with
  | nil => intro ts ys k h hv; cases ts <;> (simp only [opdsOf] at h; injection h with h; subst h; exact ⟨[], trivial, hv⟩)
  | cons x xs ih =>
    intro ts ys k h hv
    have key : ∀ t ts', (match opdOf P t x, opdsOf P ts' xs with | some y, some ys => some (y :: ys) | _, _ => none) = some ys → ∃ vs, All2 (fun v x => RepSV w I β v (a.eval x)) vs (x :: xs) ∧ (k vs).val g = some r := by
      intro t ts' h
      split at h
      · rename_i y ys' h1 h2
        injection h with h; subst h
        simp only [gets] at hv
        obtain ⟨v, h3, h4⟩ := opd_ok h1 hr hv
        obtain ⟨vs, h5, h6⟩ := ih h2 h4
        exact ⟨v :: vs, ⟨h3, h5⟩, h6⟩
      · cases h
    cases ts with
    | nil => exact key 0 [] h
    | cons t ts => exact key t ts h
theorem run_und {t : TypeId} {d : TypeDesc} (h : P.underlying t = some d) (w : World) : (underlying t).run P w = .ok d w := run_underlying h w
theorem run_size {t : TypeId} (h : (P.info? t).isSome = true) (w : World) : (sizeOf t).run P w = .ok (szOf P t) w := by
  unfold szOf
  cases hi : P.info? t with
  | none => rw [hi] at h; cases h
  | some i => simp [sizeOf, typeInfo, hi]
theorem run_agg {t : TypeId} {b : Bool} (h : aggOf P t = some b) (w : World) : (isAgg t).run P w = .ok b w := by
  unfold aggOf at h
  rw [Option.map_eq_some_iff] at h
  obtain ⟨d, h1, rfl⟩ := h
  cases d <;> simp [isAgg, run_und h1, aggD]
theorem aggOf_und {t : TypeId} {b : Bool} (h : aggOf P t = some b) : ∃ d, P.underlying t = some d ∧ aggD d = b := by
  unfold aggOf at h
  rw [Option.map_eq_some_iff] at h
  exact h
theorem elemOfT_und {t e : TypeId} (h : elemOfT P t = some e) : P.underlying t = some (.slice e) := by
  unfold elemOfT at h
  split at h
  · injection h with h; subst h; assumption
  · cases h
theorem fieldsOf_und {t : TypeId} {fs : List Field} (h : fieldsOf P t = some fs) : ∃ f : Array Field, P.underlying t = some (.struct f) ∧ f.toList = fs := by
  unfold fieldsOf at h
  split at h
  · injection h with h; exact ⟨_, by assumption, h⟩
  · cases h
theorem Rd.notAgg {v : Value} {x : T} {l : Array Value} (h : Rd w I v x) (e : v = .agg l) : False := by subst e; cases h
theorem RepAV.notAgg {x : AV} {l : Array Value} (h : RepAV w I β x (.agg l)) : False := by
  cases x with
  | t x => exact Rd.notAgg h rfl
  | nilsl sz => simp [RepAV] at h
  | own k sz off len c =>
    rcases h with ⟨_, _, _, _, h⟩ | ⟨_, _, _, _, _, _, _, _, h, _⟩ <;> cases h
  | ptr k n off => obtain ⟨_, _, h, _⟩ := h; cases h
  | eptr k sz i off => obtain ⟨_, _, _, h⟩ := h; cases h
  | rptr e off => obtain ⟨_, _, _, h, _⟩ := h; cases h
  | fn f caps => obtain ⟨_, h, _⟩ := h; cases h
theorem RepAV.cells_one {x : AV} {v : Value} (h : RepAV w I β x v) : v.cells = #[v] := by
  cases v with
  | agg l => exact (RepAV.notAgg h).elim
  | _ => rfl
/-- A value's cells, one by one. -/
theorem RepCV.cells {x : CV} {v : Value} (h : RepCV w I β x v) : All2 (RepAV w I β) x.cells v.cells.toList := by
  cases x with
  | one x =>
    have hc := RepAV.cells_one h
    rw [hc]
    exact ⟨h, trivial⟩
  | agg l =>
    obtain ⟨vs, rfl, hall⟩ := h
    simpa [Value.cells, CV.cells] using hall
theorem rep_int {v : Value} {k : IntKind} {n : Int} (h : RepSV w I β (.c (.one (.t (.int k n)))) v) : v = .int k n := by cases h; rfl
theorem rep_bool {v : Value} {b : Bool} (h : RepSV w I β (.c (.one (.t (.bool b)))) v) : v = .bool b := by cases h; rfl
theorem rep_str {v : Value} {l : List UInt8} (h : RepSV w I β (.c (.one (.t (.str l)))) v) : ∃ s : ByteArray, v = .string s ∧ s.data.toList = l := by
  simp only [RepSV, RepCV, RepAV] at h
  cases h
  exact ⟨_, rfl, rfl⟩
theorem mkV_ok {agg : Bool} {l : List AV} {x : SV} {vs : List Value} (h : mkV agg l = some x) (hl : All2 (RepAV w I β) l vs) : RepSV w I β x (if agg then .agg vs.toArray else vs.headD undef) := by
  unfold mkV at h
  cases agg with
  | true =>
    simp only [if_true] at h ⊢
    injection h with h; subst h
    exact ⟨vs, rfl, hl⟩
  | false =>
    simp only [Bool.false_eq_true, if_false] at h ⊢
    split at h
    · injection h with h; subst h
      cases vs with
      | nil => exact hl.elim
      | cons v m => exact hl.1
    · cases h
theorem wrO_val {d : Nat} {x : Option SV} {r : Eff} (h : (wrO d x).val g = some r) : ∃ y, x = some y ∧ r = ([(Loc.s d, some (.sv y))], []) := by
  cases x with
  | none => cases h
  | some y => injection h with h; exact ⟨y, rfl, h.symm⟩
end
end Go.Ev

namespace Go.Ev
section
variable {P : Program} {o : Oper} {G : Gh} {β : Beta} {I : Nat → Prop} {g : Facts} {a : Act} {w : World} {K : Act → World → Prop} {Q : Exit → Act → World → Prop} {S : Sum} {cl : CallFn} {ws : Ws} {ns : List Key} {d : Nat} {t : TypeId}
theorem mv_ok {x : Operand} {y : Opd} (hop : o.op = .move x ∨ o.op = .assign x) (hc : opdOf P t x = some y) (hd : o.dst = some d) (hdN : d < G.N) (hr : R1 G β I g a w)
    (hv : ((Ins.mv d y).rp S cl).val g = some (ws, ns)) (hK : Post G (applyW ws g) K) : o.wp P a w K Q := by
  simp only [Ins.rp] at hv
  obtain ⟨v, h1, h2⟩ := opd_ok hc hr hv
  refine wp_put (v := a.eval x) hr ?_ hd hdN h1 h2 hK
  rcases hop with h | h <;> simp [execOp, h]
theorem pick_ok {c x y : Operand} {c' x' y' : Opd} {tc : TypeId} (hop : o.op = .pick c x y) (hc : opdOf P tc c = some c') (hx : opdOf P t x = some x') (hy : opdOf P t y = some y') (hd : o.dst = some d) (hdN : d < G.N) (hr : R1 G β I g a w)
    (hv : ((Ins.pick d c' x' y').rp S cl).val g = some (ws, ns)) (hK : Post G (applyW ws g) K) : o.wp P a w K Q := by
  simp only [Ins.rp] at hv
  obtain ⟨v, h1, h2⟩ := opd_ok hc hr hv
  split at h2
  · rename_i b
    have hb := rep_bool h1
    cases b with
    | true =>
      simp only [if_true] at h2
      obtain ⟨u, h3, h4⟩ := opd_ok hx hr h2
      exact wp_put (v := a.eval x) hr (by simp [execOp, hop, hb, asBool]) hd hdN h3 h4 hK
    | false =>
      simp only [Bool.false_eq_true, if_false] at h2
      obtain ⟨u, h3, h4⟩ := opd_ok hy hr h2
      exact wp_put (v := a.eval y) hr (by simp [execOp, hop, hb, asBool]) hd hdN h3 h4 hK
  · cases h2
theorem nilchk_ok {x : Operand} {y : Opd} (hop : o.op = .nilCheck x) (hc : opdOf P t x = some y) (hd : o.dst = some d) (hdN : d < G.N) (hr : R1 G β I g a w)
    (hv : ((Ins.nilchk d y).rp S cl).val g = some (ws, ns)) (hK : Post G (applyW ws g) K) : o.wp P a w K Q := by
  simp only [Ins.rp] at hv
  obtain ⟨v, h1, h2⟩ := opd_ok hc hr hv
  split at h2
  · obtain ⟨b, h3, h4, h5⟩ := h1
    refine wp_put (v := a.eval x) hr (by simp [execOp, hop, h4]) hd hdN ?_ h2 hK
    exact ⟨b, h3, h4, h5⟩
  · obtain ⟨b, base, h3, h4⟩ := h1
    refine wp_put (v := a.eval x) hr (by simp [execOp, hop, h4]) hd hdN ?_ h2 hK
    exact ⟨b, base, h3, h4⟩
  · obtain ⟨b, off, us, h3, h4⟩ := h1
    refine wp_put (v := a.eval x) hr (by simp [execOp, hop, h3]) hd hdN ?_ h2 hK
    exact ⟨b, off, us, h3, h4⟩
  · cases h2
theorem ext_ok {x : Operand} {y : Opd} {j : Nat} (hop : o.op = .extract x j) (hc : opdOf P t x = some y) (hd : o.dst = some d) (hdN : d < G.N) (hr : R1 G β I g a w)
    (hv : ((Ins.ext d y j).rp S cl).val g = some (ws, ns)) (hK : Post G (applyW ws g) K) : o.wp P a w K Q := by
  simp only [Ins.rp] at hv
  obtain ⟨v, h1, h2⟩ := opd_ok hc hr hv
  split at h2
  · rename_i l
    obtain ⟨vs, h3, h4⟩ := h1
    split at h2
    · rename_i u hu
      obtain ⟨v', h5, h6⟩ := h4.get j u hu
      refine wp_put (v := v') hr ?_ hd hdN (x := .c u) h6 h2 hK
      simp [execOp, hop, h3, Instr.extract, h5]
    · cases h2
  · cases h2
theorem mkfn_all {xs : List Operand} : ∀ {vs : List SV} {ks : List (Key × Nat)}, All2 (fun v x => RepSV w I β v (a.eval x)) vs xs → vs.mapM capOf = some ks → All2 (fun c u => IsBox w β c.1 c.2 u 0) ks (xs.map a.eval) := by
  induction xs with
  | nil => intro vs ks h1 hks; cases vs with
    | nil => simp at hks; subst hks; trivial
    | cons => exact h1.elim
  | cons x xs ih => intro vs ks h1 hks; cases vs with
    | nil => exact h1.elim
    | cons v vs =>
      simp only [List.mapM_cons, Option.pure_def, Option.bind_eq_bind, Option.bind_eq_some_iff, Option.some.injEq] at hks
      obtain ⟨k, hk, ks', hks', rfl⟩ := hks
      refine ⟨?_, ih h1.2 hks'⟩
      unfold capOf at hk
      split at hk
      · injection hk with hk
        subst hk
        exact h1.1
      · cases hk
theorem mkfn_ok {f : FuncId} {caps : Array Operand} {ys : List Opd} (hop : o.op = .makeFunc (.func f) #[] caps) (hc : opdsOf P [] caps.toList = some ys) (hd : o.dst = some d) (hdN : d < G.N) (hr : R1 G β I g a w)
    (hv : ((Ins.mkfn d f ys).rp S cl).val g = some (ws, ns)) (hK : Post G (applyW ws g) K) : o.wp P a w K Q := by
  simp only [Ins.rp] at hv
  obtain ⟨vs, h1, h2⟩ := opds_ok hr hc hv
  split at h2
  · rename_i ks hks
    refine wp_put (v := .func (.func f) #[] (caps.map a.eval)) hr (by simp [execOp, hop, Instr.makeFunc]) hd hdN ?_ h2 hK
    refine ⟨caps.toList.map a.eval, by rw [← Array.toList_map], ?_⟩
    exact mkfn_all h1 hks
  · cases h2
theorem own_len {v : Value} {k : Key} {sz off len c : Nat} (h : RepAV w I β (.own k sz off len c) v) : ∃ ad cap, v = .slice ad len cap := by
  rcases h with ⟨_, _, rfl, _, rfl⟩ | ⟨_, _, ad, cap, _, _, _, _, rfl, _⟩
  · exact ⟨_, _, rfl⟩
  · exact ⟨_, _, rfl⟩
theorem run_v {s : Sem Value} {v : Value} {w w' : World} (h : s.run P w = .ok v w') : (s >>= fun x => (pure (.value x) : Sem Next)).run P w = .ok (.value v) w' := by
  rw [Sem.run_bind, h]
  rfl
theorem run_u {s : Sem Unit} {w w' : World} (h : s.run P w = .ok () w') : (s >>= fun _ => (pure .skip : Sem Next)).run P w = .ok .skip w' := by
  rw [Sem.run_bind, h]
  rfl
theorem run_built {c : Call} {b : Builtin} (hop : o.op = .call c) (hcal : c.callee = .builtin b) : ∃ consts, execOp a.eval o = builtin b c.argTypes o.type consts (c.args.map a.eval) := by
  refine ⟨c.args.map fun | .const _ => true | _ => false, ?_⟩
  unfold execOp
  rw [hop]
  simp only [resolve, hcal]
  rfl
theorem len_ok {x : Operand} {y : Opd} {c : Call} {b : Bool} (hop : o.op = .call c) (hcal : c.callee = .builtin .len) (hts : c.argTypes.toList = [t]) (hxs : c.args.toList = [x]) (ht : if b then P.underlying t = some .string else ∃ e, P.underlying t = some (.slice e)) (hc : opdOf P t x = some y) (hd : o.dst = some d) (hdN : d < G.N) (hr : R1 G β I g a w)
    (hv : ((Ins.len d b y).rp S cl).val g = some (ws, ns)) (hK : Post G (applyW ws g) K) : o.wp P a w K Q := by
  obtain ⟨consts, he⟩ := run_built (a := a) hop hcal
  have hx : c.args = #[x] := by rw [← Array.toList_inj, hxs]
  have ht' : c.argTypes = #[t] := by rw [← Array.toList_inj, hts]
  rw [hx, ht'] at he
  simp only [Ins.rp] at hv
  obtain ⟨v, h1, h2⟩ := opd_ok hc hr hv
  have key : ∀ (n : Nat), (Builtin.len_ #[t] o.type #[a.eval x]).run P w = .ok (.int .i64 n) w → (wrT d (.int .i64 n)).val g = some (ws, ns) → o.wp P a w K Q := by
    intro n hn h2
    refine wp_put (x := .c (.one (.t (.int .i64 n)))) (v := .int .i64 n) hr ?_ hd hdN (Rd.int _ _) h2 hK
    rw [he]
    exact run_v (by simpa using hn)
  split at h2
  · rename_i l
    obtain ⟨s, h3, h4⟩ := rep_str h1
    cases b with
    | false => cases h2
    | true =>
      simp only [if_true] at ht h2
      refine key _ ?_ h2
      subst h4
      simp [Builtin.len_, run_und ht, h3, goInt]
  · rename_i sz es
    cases b with
    | true => cases h2
    | false =>
      simp only [Bool.false_eq_true, if_false] at ht h2
      obtain ⟨e, ht⟩ := ht
      refine key _ ?_ h2
      simp only [RepSV, RepCV, RepAV] at h1
      generalize hx : a.eval x = u at h1
      cases h1 with
      | sl ad n cap _ _ bb oo vs hn =>
        simp [Builtin.len_, run_und ht, goInt, hn]
  · cases b with
    | true => cases h2
    | false =>
      simp only [Bool.false_eq_true, if_false] at ht h2
      obtain ⟨e, ht⟩ := ht
      simp only [RepSV, RepCV, RepAV] at h1
      refine key 0 ?_ h2
      simp [Builtin.len_, run_und ht, h1, goInt]
  · rename_i k sz off ln c
    cases b with
    | true => cases h2
    | false =>
      simp only [Bool.false_eq_true, if_false] at ht h2
      obtain ⟨e, ht⟩ := ht
      obtain ⟨ad, cap, h3⟩ := own_len (I := I) h1
      refine key _ ?_ h2
      simp [Builtin.len_, run_und ht, h3, goInt]
  · cases h2
theorem bitsT_ok {op : BinOp} {k : IntKind} {x y : Int} {r : T} (h : bitsT op k x y = some r) : ∃ v, (Op.intBits op k x y).run P w = .ok v w ∧ Rd w I v r := by
  unfold bitsT at h
  unfold Op.intBits
  cases op <;> simp only [Option.some.injEq, reduceCtorEq] at h <;> subst h <;> exact ⟨_, rfl, .int _ _⟩
theorem intBin_ok {op : BinOp} {k k' : IntKind} {x y : Int} {r : T} {t : TypeId} (h : intBin op k x k' y = some r) : ∃ v, (binOp op t (.int k x) (.int k' y)).run P w = .ok v w ∧ Rd w I v r := by
  have sh : ∀ op, (op = .shl ∨ op = .shr) → intBin op k x k' y = some r → ∃ v, (Op.shift op k x k' y).run P w = .ok v w ∧ Rd w I v r := by
    intro op ho h
    unfold Op.shift
    rcases ho with rfl | rfl <;> simp only [intBin] at h <;> split at h <;> (try cases h) <;> rename_i hy <;> simp only [hy, if_false] <;> exact ⟨_, rfl, .int _ _⟩
  by_cases ho : op = .shl ∨ op = .shr
  · have := sh op ho h
    rcases ho with rfl | rfl <;> exact this
  · have hk : k = k' := by
      refine Classical.byContradiction fun hk => ?_
      cases op <;> simp_all [intBin]
    subst hk
    cases op <;> simp only [intBin, if_true, bitsT] at h <;> (try split at h) <;> (try cases h) <;> (try exact absurd (.inl rfl) ho) <;> (try exact absurd (.inr rfl) ho)
    all_goals simp [binOp, Op.intArith, Op.intDiv, Op.intBits, Op.intCmp, *]
    all_goals constructor
theorem list_beq_iff {x y : ByteArray} : (x.toList == y.toList) = (x.data.toList == y.data.toList) := by rw [ByteArray.toList_eq, ByteArray.toList_eq]
theorem strBin_ok {op : BinOp} {x y : ByteArray} {r : T} {t : TypeId} (h : strBin op x.data.toList y.data.toList = some r) : ∃ v, (binOp op t (.string x) (.string y)).run P w = .ok v w ∧ Rd w I v r := by
  have hb : (binOp op t (.string x) (.string y)) = Op.stringOp op x y := by cases op <;> rfl
  rw [hb]
  cases op <;> simp only [strBin, Option.some.injEq, reduceCtorEq] at h
  case add =>
    split at h
    · rename_i hl
      injection h with h
      subst h
      refine ⟨_, run_string_add_sum w x y (by unfold maxN at hl; simp only [Array.length_toList, ByteArray.size_data] at hl; exact hl), ?_⟩
      rw [← Array.toList_append, ← ByteArray.data_append]
      exact .str _
    · cases h
  all_goals
    subst h
    refine ⟨_, by simp only [Op.stringOp, ByteArray.toList_eq, Sem.run_pure], .bool _⟩
theorem exec_bin {op : BinOp} {xT : TypeId} {x y : Operand} {z} {v : Value} (hop : o.op = .binOp op xT x y z) (hg : (eqGuard op xT x y (a.eval x) (a.eval y)).run P w = .ok () w)
    (hb : (binOp op xT (a.eval x) (a.eval y)).run P w = .ok v w) : (execOp a.eval o).run P w = .ok (.value v) w := by
  unfold execOp
  rw [hop]
  refine run_v ?_
  rw [Sem.run_bind, hg]
  exact hb
theorem eqGuard_scalar {op : BinOp} {xT : TypeId} {x y : Operand} {u v : Value} (h : ∀ l m, u = .agg l → v = .agg m → False) (h' : u = .nilIface → False) : (eqGuard op xT x y u v).run P w = .ok () w := by
  unfold eqGuard
  by_cases ho : op = .eql ∨ op = .neq
  · rcases ho with rfl | rfl <;> cases u <;> (try exact absurd rfl (fun e => h' e)) <;> cases v <;> (try exact absurd rfl (fun e => h _ _ rfl e)) <;> rfl
  · cases op <;> (try rfl) <;> simp at ho
theorem boolOp_ok {op : BinOp} {r : Option Bool} {x : T} (h : boolOp op r = some x) : ∃ b, r = some b ∧ ((op = .eql ∧ x = .bool b) ∨ (op = .neq ∧ x = .bool !b)) := by
  unfold boolOp at h
  split at h
  · rename_i b
    injection h with h
    exact ⟨b, rfl, .inl ⟨rfl, h.symm⟩⟩
  · rename_i b
    injection h with h
    exact ⟨b, rfl, .inr ⟨rfl, h.symm⟩⟩
  · cases h
theorem eqFields_ok {n : Nat} {xs ys : Array Value} : ∀ {fs : List Field} {ks : List SK} {i : Nat} {l m : List AV} {b : Bool}, eqFields P i fs = some ks → eqTs ks l m = some b →
    All2 (RepAV w I β) l (xs.toList.drop i) → All2 (RepAV w I β) m (ys.toList.drop i) → (Op.eqFields (n + 1) xs ys fs).run P w = .ok b w
  | [], ks, i, l, m, b, h1, h2, hl, hm => by
    injection h1 with h1
    subst h1
    cases l <;> cases m <;> simp [eqTs] at h2
    subst h2
    rfl
  | f :: fs, ks, i, l, m, b, h1, h2, hl, hm => by
    simp only [eqFields] at h1
    split at h1
    · rename_i hf
      split at h1
      · rename_i k ks' hk hks
        injection h1 with h1
        subst h1
        cases l with
        | nil => simp [eqTs] at h2
        | cons x l => cases m with
          | nil => simp [eqTs] at h2
          | cons y m =>
            cases x with
            | t x => cases y with
              | t y =>
                simp only [eqTs] at h2
                split at h2
                · rename_i b1 b2 hb1 hb2
                  injection h2 with h2
                  subst h2
                  cases hxs : xs.toList.drop i with
                  | nil => rw [hxs] at hl; exact hl.elim
                  | cons u us => cases hys : ys.toList.drop i with
                    | nil => rw [hys] at hm; exact hm.elim
                    | cons v vs =>
                      rw [hxs] at hl
                      rw [hys] at hm
                      have hu : xs[i]? = some u := by
                        have := congrArg (·[0]?) hxs
                        simpa [List.getElem?_drop] using this
                      have hv : ys[i]? = some v := by
                        have := congrArg (·[0]?) hys
                        simpa [List.getElem?_drop] using this
                      have hus : us = xs.toList.drop (i + 1) := by
                        have := congrArg List.tail hxs
                        simpa [List.tail_drop] using this.symm
                      have hvs : vs = ys.toList.drop (i + 1) := by
                        have := congrArg List.tail hys
                        simpa [List.tail_drop] using this.symm
                      have ih := eqFields_ok (n := n) hks hb2 (hus ▸ hl.2) (hvs ▸ hm.2)
                      rw [Option.bind_eq_some_iff] at hk
                      obtain ⟨dd, hd1, hd2⟩ := hk
                      have pt : ∀ (zs : Array Value) (z : Value), zs[i]? = some z → (part f.type zs f.offset).run P w = .ok z w := by
                        intro zs z hz
                        have : aggD dd = false := by cases dd <;> simp [scalarD] at hd2 <;> rfl
                        have ha := run_agg (P := P) (t := f.type) (b := false) (by simp [aggOf, hd1, this]) w
                        simp [part, ha, hf.2, hz]
                      have he : (Op.equalIn (n + 1) f.type u v).run P w = .ok b1 w := by
                        have h1 : Rd w I u x := hl.1
                        have h2 : Rd w I v y := hm.1
                        cases h1 <;> cases h2 <;> cases k <;> simp only [eqT, reduceCtorEq, Option.some.injEq] at hb1
                        · split at hb1
                          · rename_i hk
                            subst hk
                            injection hb1 with hb1
                            subst hb1
                            cases dd <;> simp [scalarD] at hd2
                            exact run_equalIn_int w n f.type _ _ _ _ hd1
                          · cases hb1
                        · subst hb1
                          cases dd <;> simp [scalarD] at hd2
                          exact run_equalIn_bool w n f.type _ _ hd1
                        · subst hb1
                          cases dd <;> simp [scalarD] at hd2
                          rw [← list_beq_iff]
                          exact run_equalIn_string w n f.type _ _ hd1
                      have hf1 : f.name ≠ "_" := hf.1
                      simp only [Op.eqFields, ne_eq, hf1, not_false_eq_true, if_true, Sem.run_bind, pt xs u hu, pt ys v hv, Result.andThen_ok, he]
                      cases b1
                      · simp
                      · simpa using ih
                · cases h2
              | _ => simp [eqTs] at h2
            | _ => simp [eqTs] at h2
      · cases h1
    · cases h1
theorem bin_ok {op : BinOp} {xT : TypeId} {x y : Operand} {z} {k : BK} {x' y' : Opd} (hop : o.op = .binOp op xT x y z) (hk : bkOf P op xT = some k) (hx : opdOf P xT x = some x') (hy : opdOf P xT y = some y') (hd : o.dst = some d) (hdN : d < G.N) (hr : R1 G β I g a w)
    (hv : ((Ins.bin d op k x' y').rp S cl).val g = some (ws, ns)) (hK : Post G (applyW ws g) K) : o.wp P a w K Q := by
  simp only [Ins.rp] at hv
  obtain ⟨u, h1, h2⟩ := opd_ok hx hr hv
  obtain ⟨v, h3, h4⟩ := opd_ok hy hr h2
  split at h4
  · rename_i s1 s2 hadd
    obtain ⟨hlen, h5⟩ := need_ok h4
    unfold addOf at hadd
    split at hadd
    · split at hadd
      · injection hadd with hadd
        injection hadd with q1 q2
        subst q1 q2
        obtain ⟨b1, e1, rfl⟩ := rep_str h1
        obtain ⟨b2, e2, rfl⟩ := rep_str h3
        obtain ⟨z, hz, hz'⟩ := strBin_ok (P := P) (w := w) (I := I) (t := xT) (op := .add) (x := b1) (y := b2) (r := .str (b1.data.toList ++ b2.data.toList)) (by simp only [strBin]; rw [if_pos hlen])
        exact wp_put (x := .c (.one (.t (.str _)))) hr (exec_bin hop (eqGuard_scalar (by rw [e1]; intro _ _ h; cases h) (by rw [e1]; intro h; cases h)) (by rw [e1, e2]; exact hz)) hd hdN hz' h5 hK
      · cases hadd
    · cases hadd
  rename_i hnone
  clear hnone
  split at h4
  · rename_i r hr'
    rw [wrB_val] at h4
    suffices hs : ∃ z, (execOp a.eval o).run P w = .ok (.value z) w ∧ Rd w I z r by
      obtain ⟨z, hz, hz'⟩ := hs
      exact wp_put (x := .c (.one (.t r))) hr hz hd hdN hz' h4 hK
    unfold binV at hr'
    split at hr'
    · cases k <;> simp only [reduceCtorEq] at hr'
      have e1 := rep_int h1
      have e2 := rep_int h3
      obtain ⟨z, hz, hz'⟩ := intBin_ok (P := P) (w := w) (I := I) (t := xT) hr'
      exact ⟨z, exec_bin hop (eqGuard_scalar (by rw [e1]; intro _ _ h; cases h) (by rw [e1]; intro h; cases h)) (by rw [e1, e2]; exact hz), hz'⟩
    · cases k <;> simp only [reduceCtorEq] at hr'
      obtain ⟨s1, e1, rfl⟩ := rep_str h1
      obtain ⟨s2, e2, rfl⟩ := rep_str h3
      obtain ⟨z, hz, hz'⟩ := strBin_ok (P := P) (w := w) (I := I) (t := xT) hr'
      exact ⟨z, exec_bin hop (eqGuard_scalar (by rw [e1]; intro _ _ h; cases h) (by rw [e1]; intro h; cases h)) (by rw [e1, e2]; exact hz), hz'⟩
    · cases k <;> simp only [reduceCtorEq] at hr'
      have e1 := rep_bool h1
      have e2 := rep_bool h3
      have hu : P.underlying xT = some .bool := by
        unfold bkOf at hk
        split at hk <;> (try cases hk) <;> (try assumption)
        · cases op <;> simp at hk
          all_goals (rename_i h; cases hq : eqOk P xT <;> rw [hq] at hk <;> simp at hk)
      obtain ⟨b, hb, hc⟩ := boolOp_ok hr'
      injection hb with hb
      subst hb
      have he := fun p q => run_equalIn_bool (P := P) w 9999 xT p q hu
      rcases hc with ⟨rfl, rfl⟩ | ⟨rfl, rfl⟩
      · refine ⟨_, exec_bin hop (eqGuard_scalar (by rw [e1]; intro _ _ h; cases h) (by rw [e1]; intro h; cases h)) ?_, .bool _⟩
        rw [e1, e2]
        simp [binOp, Op.equal, Op.maxDepth, he]
      · refine ⟨_, exec_bin hop (eqGuard_scalar (by rw [e1]; intro _ _ h; cases h) (by rw [e1]; intro h; cases h)) ?_, .bool _⟩
        rw [e1, e2]
        simp [binOp, Op.equal, Op.maxDepth, he]
    · cases k <;> simp only [reduceCtorEq] at hr'
      rename_i ks
      obtain ⟨vs, e1, ha1⟩ := h1
      obtain ⟨us, e2, ha2⟩ := h3
      obtain ⟨b, hb, hc⟩ := boolOp_ok hr'
      have hq : eqOk P xT = some ks := by
        unfold bkOf at hk
        split at hk <;> (try cases hk) <;> split at hk <;> (try cases hk)
        all_goals
          rw [Option.map_eq_some_iff] at hk
          obtain ⟨_, h1, h2⟩ := hk
          injection h2 with h2
          subst h2
          exact h1
      unfold eqOk at hq
      split at hq
      · rename_i fs hfs
        split at hq
        · rename_i hh
          have hF : P.fieldsOf xT = fs := by simp [Program.fieldsOf, hfs]
          have he := run_equalIn_struct (P := P) w 9999 xT vs.toArray us.toArray (by rw [hF]; exact hfs) hh.1
          rw [hF, eqFields_ok (I := I) (β := β) hq hb (by simpa using ha1) (by simpa using ha2)] at he
          rcases hc with ⟨rfl, rfl⟩ | ⟨rfl, rfl⟩
          · refine ⟨_, exec_bin hop (by rw [e1, e2]; exact run_eqGuard_agg w _ _ _ _ _ _ hh.2) ?_, .bool _⟩
            rw [e1, e2, run_eql_struct, he]
            rfl
          · refine ⟨_, exec_bin hop (by rw [e1, e2]; exact run_eqGuard_agg w _ _ _ _ _ _ hh.2) ?_, .bool _⟩
            rw [e1, e2, run_neq_struct, he]
            rfl
        · cases hq
      · cases hq
    · cases hr'
  · cases h4
end
end Go.Ev

namespace Go.Ev
section
variable {P : Program} {o : Oper} {G : Gh} {β : Beta} {I : Nat → Prop} {g : Facts} {a : Act} {w : World} {K : Act → World → Prop} {Q : Exit → Act → World → Prop} {S : Sum} {cl : CallFn} {ws : Ws} {ns : List Key} {d : Nat} {t : TypeId}
theorem un_ok {op : UnOp} {x : Operand} {y : Opd} (hop : o.op = .unOp op t x) (hc : opdOf P t x = some y) (hd : o.dst = some d) (hdN : d < G.N) (hr : R1 G β I g a w)
    (hv : ((Ins.un d op y).rp S cl).val g = some (ws, ns)) (hK : Post G (applyW ws g) K) : o.wp P a w K Q := by
  simp only [Ins.rp] at hv
  obtain ⟨u, h1, h2⟩ := opd_ok hc hr hv
  split at h2
  · rename_i r hr'
    suffices hs : ∃ z, (Op.unary op (a.eval x)).run P w = .ok z w ∧ Rd w I z r by
      obtain ⟨z, hz, hz'⟩ := hs
      refine wp_put (x := .c (.one (.t r))) hr ?_ hd hdN hz' h2 hK
      unfold execOp
      rw [hop]
      exact run_v hz
    unfold unV at hr'
    split at hr'
    · rw [rep_int h1]
      cases op <;> simp only [reduceCtorEq] at hr'
      · injection hr' with hr'
        subst hr'
        exact ⟨_, rfl, .int _ _⟩
      · exact bitsT_ok (P := P) (w := w) (I := I) hr'
    · rw [rep_bool h1]
      cases op <;> simp only [reduceCtorEq] at hr'
      injection hr' with hr'
      subst hr'
      exact ⟨_, rfl, .bool _⟩
    · cases hr'
  · cases h2
theorem conv_int_ok {src dst : TypeId} {k : IntKind} {x : Operand} {y : Opd} (hop : o.op = .convert src dst x) (hk : P.underlying dst = some (.int k)) (hks : ∃ k', P.underlying src = some (.int k')) (hc : opdOf P src x = some y) (hd : o.dst = some d) (hdN : d < G.N) (hr : R1 G β I g a w)
    (hv : ((Ins.conv d (.int k) y).rp S cl).val g = some (ws, ns)) (hK : Post G (applyW ws g) K) : o.wp P a w K Q := by
  obtain ⟨k', hks⟩ := hks
  simp only [Ins.rp] at hv
  obtain ⟨u, h1, h2⟩ := opd_ok hc hr hv
  split at h2
  · rename_i kk n
    refine wp_put (x := .c (.one (.t (.int k (k.wrap n))))) (v := .int k (k.wrap n)) hr ?_ hd hdN (Rd.int _ _) h2 hK
    unfold execOp
    rw [hop]
    refine run_v ?_
    rw [rep_int h1]
    simp [convert, run_und hk, run_und hks, Conv.intToInt]
  · cases h2
theorem All2.seg {α β : Type} {R : α → β → Prop} {l : List α} {m : List β} (h : All2 R l m) (off n : Nat) : All2 R ((l.drop off).take n) ((m.drop off).take n) := (h.drop off).take n
theorem part_ok {ft : TypeId} {b : Bool} {vs : List Value} {l : List AV} {off : Nat} {y : SV} (ha : aggOf P ft = some b) (hi : (P.info? ft).isSome = true) (hl : All2 (RepAV w I β) l vs)
    (hy : mkV b ((l.drop off).take (if b then szOf P ft else 1)) = some y) : ∃ v, (part ft vs.toArray off).run P w = .ok v w ∧ RepSV w I β y v := by
  have h1 := mkV_ok hy (hl.seg off (if b then szOf P ft else 1))
  cases b with
  | true =>
    simp only [if_true] at h1
    refine ⟨_, ?_, h1⟩
    simp only [part, Sem.run_bind, run_agg ha, Result.andThen_ok, if_true, run_size hi, Sem.run_pure]
    refine congrArg (fun z => Result.ok (Value.agg z) w) ?_
    apply Array.ext'
    simp
  | false =>
    simp only [Bool.false_eq_true, if_false] at h1 hy
    refine ⟨_, ?_, h1⟩
    simp only [part, Sem.run_bind, run_agg ha, Result.andThen_ok, Bool.false_eq_true, if_false]
    have hlen : off < vs.length := by
      rw [← hl.len]
      refine Classical.byContradiction fun hn => ?_
      rw [List.drop_eq_nil_of_le (by omega)] at hy
      simp [mkV] at hy
    rw [List.drop_eq_getElem_cons hlen, List.take_succ_cons]
    simp [hlen]
theorem fld_ok {xT : TypeId} {x : Operand} {y : Opd} {i m : Nat} {f : Field} {b : Bool} (hm : m = if b then szOf P f.type else 1) (hop : o.op = .field xT x i) (hf : (fieldsOf P xT).bind (·[i]?) = some f) (ha : aggOf P f.type = some b) (hi : (P.info? f.type).isSome = true) (hc : opdOf P xT x = some y)
    (hd : o.dst = some d) (hdN : d < G.N) (hr : R1 G β I g a w)
    (hv : ((Ins.fld d b f.offset m y).rp S cl).val g = some (ws, ns)) (hK : Post G (applyW ws g) K) : o.wp P a w K Q := by
  simp only [Ins.rp] at hv
  obtain ⟨u, h1, h2⟩ := opd_ok hc hr hv
  split at h2
  · rename_i l
    obtain ⟨vs, e1, hl⟩ := h1
    split at h2
    · obtain ⟨z, hz, hz'⟩ := wrO_val h2
      obtain ⟨v, hv, hv'⟩ := part_ok ha hi hl (hm ▸ hz)
      refine wp_put hr ?_ hd hdN hv' (congrArg some hz'.symm) hK
      unfold execOp
      rw [hop]
      refine run_v ?_
      rw [Option.bind_eq_some_iff] at hf
      obtain ⟨fs, h3, h4⟩ := hf
      obtain ⟨fa, h5, h6⟩ := fieldsOf_und h3
      have h7 : fa[i]? = some f := by rw [← h6] at h4; simpa using h4
      simp only [Instr.field, Sem.run_bind, run_und h5, Result.andThen_ok, h7, e1, asAgg, Sem.run_pure]
      exact hv
    · cases h2
  · cases h2
theorem addr_add (b off n : Nat) : (⟨b, off, none⟩ : Addr).add n = ⟨b, off + n, none⟩ := by
  unfold Addr.add
  split
  · rename_i h; subst h; rfl
  · rfl
theorem faddr_ok {s : TypeId} {x : Operand} {y : Opd} {i : Nat} {f : Field} (hop : o.op = .fieldAddr s x i) (hf : (fieldsOf P s).bind (·[i]?) = some f) (hn : szOf P f.type ≠ 0) (hc : opdOf P t x = some y)
    (hd : o.dst = some d) (hdN : d < G.N) (hr : R1 G β I g a w)
    (hv : ((Ins.faddr d f.offset y).rp S cl).val g = some (ws, ns)) (hK : Post G (applyW ws g) K) : o.wp P a w K Q := by
  simp only [Ins.rp] at hv
  obtain ⟨u, h1, h2⟩ := opd_ok hc hr hv
  have hi : (P.info? f.type).isSome = true := by
    unfold szOf at hn
    split at hn
    · rename_i h; rw [h]; rfl
    · exact absurd rfl hn
  have run : ∀ (b off : Nat), a.eval x = .pointer (some ⟨b, off, none⟩) → (execOp a.eval o).run P w = .ok (.value (.pointer (some ⟨b, off + f.offset, none⟩))) w := by
    intro b off e
    unfold execOp
    rw [hop]
    refine run_v ?_
    rw [Option.bind_eq_some_iff] at hf
    obtain ⟨fs, h3, h4⟩ := hf
    obtain ⟨fa, h5, h6⟩ := fieldsOf_und h3
    have h7 : fa[i]? = some f := by rw [← h6] at h4; simpa using h4
    simp only [Instr.fieldAt, Sem.run_bind, run_und h5, Result.andThen_ok, h7, e, Instr.sureAddr, Sem.run_pure, fieldPlace, run_size hi, hn, if_false, addr_add]
  split at h2
  · obtain ⟨b, h3, h4, h5⟩ := h1
    refine wp_put hr (run _ _ h4) hd hdN ?_ h2 hK
    exact ⟨b, h3, rfl, h5⟩
  · obtain ⟨b, base, h3, h4⟩ := h1
    refine wp_put hr (run _ _ h4) hd hdN ?_ h2 hK
    exact ⟨b, base, h3, by rw [Nat.add_assoc]⟩
  · obtain ⟨b, off, us, h3, h4⟩ := h1
    refine wp_put hr (run _ _ h3) hd hdN ?_ h2 hK
    exact ⟨b, off, us, by rw [Nat.add_assoc], h4⟩
  · cases h2
theorem natOf_ok {x : SV} {v : Value} {n : Nat} (h : RepSV w I β x v) (hn : natOf x = some n) : ∃ k, v = .int k n := by
  unfold natOf at hn
  split at hn
  · rename_i k m
    split at hn
    · rename_i hm
      injection hn with hn
      exact ⟨k, by rw [rep_int h, ← hn]; congr; omega⟩
    · cases hn
  · cases hn
theorem natRP_ok {x : SV} {α : Type} {k : Nat → RP α} {r : α} (h : (natRP x k).val g = some r) : ∃ n, natOf x = some n ∧ (k n).val g = some r := by
  unfold natRP at h
  split at h
  · rename_i kk n
    obtain ⟨h1, h2⟩ := need_ok h
    exact ⟨n.toNat, by simp only [natOf]; rw [if_pos h1], h2⟩
  · cases h
theorem natOrRP_ok {d : Nat} {x : Option SV} {α : Type} {k : Nat → RP α} {r : α} (h : (natOrRP d x k).val g = some r) : ∃ n, natOr d x = some n ∧ (k n).val g = some r := by
  cases x with
  | none => exact ⟨d, rfl, h⟩
  | some x => exact natRP_ok h
theorem iaddr_ok {e : TypeId} {x i : Operand} {y j : Opd} (hop : o.op = .indexAddr t x i) (he : elemOfT P t = some e) (hi : (P.info? e).isSome = true) (hc : opdOf P t x = some y) (hj : opdOf P 0 i = some j)
    (hd : o.dst = some d) (hdN : d < G.N) (hr : R1 G β I g a w)
    (hv : ((Ins.iaddr d (szOf P e) y j).rp S cl).val g = some (ws, ns)) (hK : Post G (applyW ws g) K) : o.wp P a w K Q := by
  simp only [Ins.rp] at hv
  obtain ⟨u, h1, h2⟩ := opd_ok hc hr hv
  obtain ⟨v, h3, h4⟩ := opd_ok hj hr h2
  obtain ⟨n, hn, h4⟩ := natRP_ok h4
  · obtain ⟨k, e2⟩ := natOf_ok h3 hn
    have run : ∀ (b off len cap : Nat), a.eval x = .slice (some ⟨b, off, none⟩) len cap → n < len → (execOp a.eval o).run P w = .ok (.value (.pointer (some ⟨b, off + n * szOf P e, none⟩))) w := by
      intro b off len cap e1 hlt
      unfold execOp
      rw [hop]
      refine run_v ?_
      have hlt' : ((0 : Int) ≤ n ∧ (n : Int) < len) := by omega
      simp only [Instr.indexAt, Sem.run_bind, e2, asIntOf, Sem.run_pure, Result.andThen_ok, run_und (elemOfT_und he), e1, hlt', and_self, if_true, run_size hi, Int.toNat_natCast, addr_add]
    split at h4
    · rename_i sz' es
      split at h4
      · rename_i hsz
        subst hsz
        obtain ⟨el, hel, h4⟩ := elem_ok h4
        · simp only [RepSV, RepCV, RepAV] at h1
          generalize hx : a.eval x = xv at h1
          cases h1 with
          | sl ad m cap _ _ b o vs hm hcap hmx h0 ha hI hs hvv hrr =>
            have hlt := (List.getElem?_eq_some_iff.1 hel).1
            have h0' : 0 < m := by omega
            refine wp_put hr (run b o m cap (by rw [hx, ha h0']) (by omega)) hd hdN ?_ h4 hK
            exact ⟨b, _, vs n, rfl, fun _ => hI h0', fun i t hit => ⟨hvv n el i t hel hit, hrr n el i t hel hit⟩⟩
      · cases h4
    · rename_i k' sz' off ln c h2
      split at h4
      · rename_i hh
        subst hh
        obtain ⟨hlt, h4⟩ := need_ok h4
        rcases h1 with ⟨_, _, h0, _⟩ | ⟨b, base, ad, cap, cs, e', fr, h5, h6, h7, h8, h9, h10, h11, h12⟩
        · omega
        · have had : ad = ⟨b, base + off * szOf P e, none⟩ := by
            rcases h8 with h8 | h8
            · exact h8
            · omega
          subst had
          refine wp_put hr (run b _ ln cap h6 hlt) hd hdN ?_ h4 hK
          exact ⟨b, base, h5, by rw [Nat.add_mul, Nat.add_assoc]; rfl⟩
      · cases h4
    · cases h4
theorem idx_ok {x i : Operand} {y j : Opd} (hop : o.op = .index t x i) (ht : isStr P t = true) (hc : opdOf P t x = some y) (hj : opdOf P 0 i = some j)
    (hd : o.dst = some d) (hdN : d < G.N) (hr : R1 G β I g a w)
    (hv : ((Ins.idx d y j).rp S cl).val g = some (ws, ns)) (hK : Post G (applyW ws g) K) : o.wp P a w K Q := by
  have hu : P.underlying t = some .string := by
    unfold isStr at ht
    split at ht
    · assumption
    · cases ht
  simp only [Ins.rp] at hv
  obtain ⟨u, h1, h2⟩ := opd_ok hc hr hv
  obtain ⟨v, h3, h4⟩ := opd_ok hj hr h2
  split at h4
  · rename_i l
    obtain ⟨n, hn, h5⟩ := natRP_ok h4
    clear h4
    obtain ⟨b, hb, h4⟩ := byte_ok h5
    obtain ⟨k, e2⟩ := natOf_ok h3 hn
    obtain ⟨s, e1, rfl⟩ := rep_str h1
    refine wp_put (x := .c (.one (.t (.int .u8 b.toNat)))) (v := .int .u8 b.toNat) hr ?_ hd hdN (Rd.int _ _) h4 hK
    unfold execOp
    rw [hop]
    refine run_v ?_
    have hb' : s[n]? = some b := by
      rw [Array.getElem?_toList] at hb
      obtain ⟨h1, h2⟩ := Array.getElem?_eq_some_iff.1 hb
      have h1' : n < s.size := h1
      rw [getElem?_pos s n h1']
      exact congrArg some h2
    simp [Instr.index, e2, asIntOf, run_und hu, e1, hb']
  · cases h4
end
end Go.Ev

namespace Go.Ev
section
variable {P : Program} {o : Oper} {G : Gh} {β : Beta} {I : Nat → Prop} {g : Facts} {a : Act} {w : World} {K : Act → World → Prop} {Q : Exit → Act → World → Prop} {S : Sum} {cl : CallFn} {ws : Ws} {ns : List Key} {d : Nat} {t : TypeId}
def RepO (w : World) (I : Nat → Prop) (β : Beta) (a : Act) : Option Operand → Option SV → Prop
  | none, none => True
  | some x, some v => RepSV w I β v (a.eval x)
  | _, _ => False
theorem opdO_ok' {t : TypeId} {x : Option Operand} {y : Option Opd} {α : Type} {k : Option SV → RP α} {r : α} (h : opdO P t x = some y) (hr : R1 G β I g a w) (hv : (getOpt y k).val g = some r) :
    ∃ v, RepO w I β a x v ∧ (k v).val g = some r := by
  obtain ⟨v, h1, h2⟩ := opdO_ok h hr hv
  refine ⟨v, ?_, h2⟩
  cases x <;> cases v <;> first | trivial | exact h1
theorem bound_ok {x : Operand} {v : SV} {n y : Nat} {code : BoundsCode} (h : RepSV w I β v (a.eval x)) (hn : natOf v = some n) (hle : n ≤ y) : (Instr.sliceBound (a.eval x) y code).run P w = .ok n w := by
  obtain ⟨k, e⟩ := natOf_ok h hn
  have : (0 : Int) ≤ n ∧ (n : Int) ≤ y := by omega
  simp [Instr.sliceBound, e, asIntOf, this]
theorem bounds_ok {b : Bool} {len cap c : Nat} {lo hi mx : Option Operand} {l h m : Option SV} {p q r : Nat} (hl : RepO w I β a lo l) (hh : RepO w I β a hi h) (hm : RepO w I β a mx m)
    (h1 : natOr 0 l = some p) (h2 : natOr len h = some q) (h3 : natOr c m = some r) (hpq : p ≤ q) (hqr : q ≤ r) (hrc : r ≤ c) (hc : c ≤ cap) (hx : mx.isSome = true → hi.isSome = true) :
    (Instr.sliceBounds b len cap (lo.map a.eval) (hi.map a.eval) (mx.map a.eval)).run P w = .ok (p, q, if mx.isSome then r else cap) w := by
  have mk : ∀ (x : Operand) (v : SV) (n y : Nat) (code : BoundsCode), RepSV w I β v (a.eval x) → natOf v = some n → n ≤ y → (Instr.sliceBound (a.eval x) y code).run P w = .ok n w := fun x v n y code => bound_ok
  unfold Instr.sliceBounds
  cases mx with
  | none =>
    cases m with
    | some _ => exact hm.elim
    | none =>
      simp only [natOr, Option.some.injEq] at h3
      subst h3
      cases hi with
      | none => cases h with
        | some _ => exact hh.elim
        | none =>
          simp only [natOr, Option.some.injEq] at h2
          subst h2
          cases lo with
          | none => cases l with
            | some _ => exact hl.elim
            | none => simp only [natOr, Option.some.injEq] at h1; subst h1; rfl
          | some lo => cases l with
            | none => exact hl.elim
            | some l => simp [mk lo l p len _ hl h1 hpq]
      | some hi => cases h with
        | none => exact hh.elim
        | some h =>
          have e2 : ∀ code, (Instr.sliceBound (a.eval hi) cap code).run P w = .ok q w := fun code => mk hi h q cap code hh h2 (by omega)
          cases lo with
          | none => cases l with
            | some _ => exact hl.elim
            | none => simp only [natOr, Option.some.injEq] at h1; subst h1; simp [e2]
          | some lo => cases l with
            | none => exact hl.elim
            | some l => simp [e2, mk lo l p q _ hl h1 hpq]
  | some mx => cases m with
    | none => exact hm.elim
    | some m => cases hi with
      | none => simp at hx
      | some hi => cases h with
        | none => exact hh.elim
        | some h =>
          have e3 : ∀ code, (Instr.sliceBound (a.eval mx) cap code).run P w = .ok r w := fun code => mk mx m r cap code hm h3 (by omega)
          have e2 : ∀ code, (Instr.sliceBound (a.eval hi) r code).run P w = .ok q w := fun code => mk hi h q r code hh h2 hqr
          cases lo with
          | none => cases l with
            | some _ => exact hl.elim
            | none => simp only [natOr, Option.some.injEq] at h1; subst h1; simp [e2, e3]
          | some lo => cases l with
            | none => exact hl.elim
            | some l => simp [e2, e3, mk lo l p q _ hl h1 hpq]
theorem exec_slice {e : TypeId} {x : Operand} {lo hi mx : Option Operand} {ad : Option Addr} {len cap p q r : Nat} (hop : o.op = .slice t x lo hi mx) (ht : P.underlying t = some (.slice e)) (hi' : (P.info? e).isSome = true)
    (hx : a.eval x = .slice ad len cap) (hb : (Instr.sliceBounds true len cap (lo.map a.eval) (hi.map a.eval) (mx.map a.eval)).run P w = .ok (p, q, r) w) :
    (execOp a.eval o).run P w = .ok (.value (.slice (if r = p then ad else ad.map (·.add (p * szOf P e))) (q - p) (r - p))) w := by
  unfold execOp
  rw [hop]
  refine run_v ?_
  simp only [Instr.sliceAt, Sem.run_bind, run_und ht, Result.andThen_ok, Instr.slice, hx, hb, run_size hi', Sem.run_pure]
theorem slc_ok {x : Operand} {lo hi mx : Option Operand} {y : Opd} {l h m : Option Opd} {b : Bool} {sz : Nat} (hop : o.op = .slice t x lo hi mx) (hc : opdOf P t x = some y) (hl : opdO P 0 lo = some l) (hh : opdO P 0 hi = some h) (hm : opdO P 0 mx = some m)
    (hx : mx.isSome = true → hi.isSome = true)
    (ht : if b then P.underlying t = some .string else ∃ e, P.underlying t = some (.slice e) ∧ (P.info? e).isSome = true ∧ sz = szOf P e)
    (hd : o.dst = some d) (hdN : d < G.N) (hr : R1 G β I g a w)
    (hv : ((Ins.slc d b sz y l h m).rp S cl).val g = some (ws, ns)) (hK : Post G (applyW ws g) K) : o.wp P a w K Q := by
  simp only [Ins.rp] at hv
  obtain ⟨u, h1, h2⟩ := opd_ok hc hr hv
  obtain ⟨lv, h3, h4⟩ := opdO_ok' hl hr h2
  obtain ⟨hv', h5, h6⟩ := opdO_ok' hh hr h4
  obtain ⟨mv, h7, h8⟩ := opdO_ok' hm hr h6
  clear hv h2 h4 h6
  split at h8
  · rename_i z
    obtain ⟨s, e1, rfl⟩ := rep_str h1
    split at h8
    · rename_i hcnd
      · obtain ⟨rfl, hmn⟩ := hcnd
        obtain ⟨p, h9, h8⟩ := natOrRP_ok h8
        obtain ⟨q, h10, h8⟩ := natOrRP_ok h8
        obtain ⟨⟨hp, hq⟩, h8⟩ := need_ok h8
        obtain rfl : mv = none := by cases mv with
          | none => rfl
          | some _ => cases hmn
        simp only [if_true] at ht
        have hmx : mx = none := by cases mx with
          | none => rfl
          | some _ => exact h7.elim
        subst hmx
        have hb := bounds_ok (P := P) (b := false) (cap := s.size) (c := s.size) h3 h5 h7 h9 h10 rfl hp (by simpa using hq) (Nat.le_refl _) (Nat.le_refl _) (by simp)
        refine wp_put (x := .c (.one (.t (.str _)))) (v := .string (s.extract p q)) hr ?_ hd hdN ?_ h8 hK
        · unfold execOp
          rw [hop]
          refine run_v ?_
          simp only [Option.map_none, Option.isSome_none, Bool.false_eq_true, if_false] at hb
          have hs : s.data.toList.length = s.size := by simp
          rw [hs] at hb
          simp [Instr.sliceAt, run_und ht, Instr.slice, e1, hb]
        · have : ((s.data.toList.take q).drop p) = (s.extract p q).data.toList := by
            simp [ByteArray.extract, ByteArray.copySlice, List.take_drop, Nat.add_sub_cancel' hp]
          rw [this]
          exact Rd.str _
    · cases h8
  · rename_i sz' es
    split at h8
    · rename_i hcnd
      · obtain ⟨rfl, hsz, hmn⟩ := hcnd
        subst hsz
        obtain ⟨p, h9, h8⟩ := natOrRP_ok h8
        obtain ⟨q, h10, h8⟩ := natOrRP_ok h8
        obtain ⟨⟨hp, hq⟩, h8⟩ := need_ok h8
        obtain rfl : mv = none := by cases mv with
          | none => rfl
          | some _ => cases hmn
        simp only [Bool.false_eq_true, if_false] at ht
        obtain ⟨e, he, hi', rfl⟩ := ht
        have hmx : mx = none := by cases mx with
          | none => rfl
          | some _ => exact h7.elim
        subst hmx
        simp only [RepSV, RepCV, RepAV] at h1
        generalize hxv : a.eval x = xv at h1
        cases h1 with
        | sl ad n cap _ _ bb oo vs hn hcap hmx h0 ha hI hs hvv hrr =>
          have hb := bounds_ok (P := P) (b := true) (cap := cap) (c := cap) (len := n) h3 h5 h7 h9 (by rw [← hn]; exact h10) rfl hp (by omega) (Nat.le_refl _) (Nat.le_refl _) (by simp)
          refine wp_put (x := .c (.one (.t (.sl _ _)))) hr (exec_slice hop he hi' hxv hb) hd hdN ?_ h8 hK
          simp only [Option.isSome_none, Bool.false_eq_true, if_false]
          have idx : ∀ (j : Nat) (el : List T), ((es.take q).drop p)[j]? = some el → es[p + j]? = some el := by
            intro j el hj
            rw [List.getElem?_drop, List.getElem?_take] at hj
            split at hj
            · exact hj
            · cases hj
          refine .sl _ _ _ _ _ bb (oo + p * szOf P e) (fun j => vs (p + j)) (by simp; omega) (by omega) (by omega) ?_ ?_ ?_ ?_ ?_ ?_
          · intro hnone
            split at hnone
            · omega
            · cases ad with
              | none => have := h0 rfl; omega
              | some _ => simp at hnone
          · intro hpos
            rw [if_neg (by omega), ha (by omega)]
            simp [addr_add]
          · intro hpos; exact hI (by omega)
          · intro j el hj; exact hs _ el (idx j el hj)
          · intro j el i t hj hi
            have := hvv _ el i t (idx j el hj) hi
            rw [Nat.add_mul] at this
            rw [← this]
            congr 2
            omega
          · intro j el i t hj hi; exact hrr _ el i t (idx j el hj) hi
    · cases h8
  · rename_i sz'
    split at h8
    · rename_i hcnd
      · obtain ⟨rfl, hmn⟩ := hcnd
        obtain ⟨p, h9, h8⟩ := natOrRP_ok h8
        obtain ⟨q, h10, h8⟩ := natOrRP_ok h8
        obtain ⟨⟨hp, hq⟩, h8⟩ := need_ok h8
        obtain rfl : mv = none := by cases mv with
          | none => rfl
          | some _ => cases hmn
        simp only [Bool.false_eq_true, if_false] at ht
        obtain ⟨e, he, hi', rfl⟩ := ht
        subst hp hq
        have hmx : mx = none := by cases mx with
          | none => rfl
          | some _ => exact h7.elim
        subst hmx
        simp only [RepSV, RepCV, RepAV] at h1
        have hb := bounds_ok (P := P) (b := true) (cap := 0) (c := 0) (len := 0) h3 h5 h7 h9 h10 rfl (Nat.le_refl _) (Nat.le_refl _) (Nat.le_refl _) (Nat.le_refl _) (by simp)
        refine wp_put (x := .c (.one (.nilsl _))) hr (exec_slice hop he hi' h1 hb) hd hdN ?_ h8 hK
        rfl
    · cases h8
  · rename_i k sz' off ln c
    split at h8
    · rename_i hcnd
      · obtain ⟨rfl, hsz⟩ := hcnd
        subst hsz
        obtain ⟨p, h9, h8⟩ := natOrRP_ok h8
        obtain ⟨q, h10, h8⟩ := natOrRP_ok h8
        obtain ⟨r, h11, h8⟩ := natOrRP_ok h8
        obtain ⟨⟨hp, hq, hrc⟩, h8⟩ := need_ok h8
        simp only [Bool.false_eq_true, if_false] at ht
        obtain ⟨e, he, hi', rfl⟩ := ht
        rcases h1 with ⟨hk, rfl, rfl, rfl, h1⟩ | ⟨bb, base, ad, cap, cs, e', fr, hk, h1, hheap, had, hsz, hlc, hcc, hmax⟩
        · have hr0 : r = 0 := by omega
          subst hr0
          have hq0 : q = 0 := by omega
          subst hq0
          have hp0 : p = 0 := by omega
          subst hp0
          have hb := bounds_ok (P := P) (b := true) (cap := 0) (c := 0) (len := 0) h3 h5 h7 h9 h10 h11 (Nat.le_refl _) (Nat.le_refl _) (Nat.le_refl _) (Nat.le_refl _) hx
          refine wp_put (x := .c (.one (.own _ _ _ _ _))) hr (exec_slice hop he hi' h1 hb) hd hdN ?_ h8 hK
          refine .inl ⟨hk, by simp, by simp, by simp, ?_⟩
          cases mx.isSome <;> rfl
        · have hb := bounds_ok (P := P) (b := true) (cap := cap) (c := c) (len := ln) h3 h5 h7 h9 h10 h11 hp hq hrc hcc hx
          refine wp_put (x := .c (.one (.own _ _ _ _ _))) hr (exec_slice hop he hi' h1 hb) hd hdN ?_ h8 hK
          have hle : r ≤ (if mx.isSome = true then r else cap) := by split <;> omega
          have hle2 : (if mx.isSome = true then r else cap) ≤ cap := by split <;> omega
          generalize (if mx.isSome = true then r else cap) = r' at hle hle2
          refine .inr ⟨bb, base, if r' = p then ad else ad.add (p * szOf P e), r' - p, cs, e', fr, hk, ?_, hheap, ?_, ?_, by omega, by omega, by omega⟩
          · split <;> rfl
          · split
            · exact .inr (by omega)
            · rcases had with rfl | had
              · refine .inl ?_
                rw [addr_add, Nat.add_mul]
                congr 1
                omega
              · omega
          · refine Nat.le_trans ?_ hsz
            have : off + p + (r' - p) ≤ off + cap := by omega
            have := Nat.mul_le_mul_right (szOf P e) this
            omega
    · cases h8
  · cases h8
theorem All2.mapR {α β γ : Type} {R : α → γ → Prop} {f : β → γ} : ∀ {l : List α} {m : List β}, All2 (fun x y => R x (f y)) l m → All2 R l (m.map f)
  | [], [], _ => trivial
  | _ :: _, _ :: _, h => ⟨h.1, All2.mapR h.2⟩
  | [], _ :: _, h => h.elim
  | _ :: _, [], h => h.elim
theorem maxL_ok {mx : Bool} {k : IntKind} : ∀ {l : List SV} {vs : List Value} {x : Int} {r : T}, All2 (RepSV w I β) l vs → maxL mx k x l = some r →
    ∃ v, (List.foldlM (if mx then Builtin.max2 else Builtin.min2) (.int k x) vs).run P w = .ok v w ∧ Rd w I v r
  | [], [], x, r, _, h => by
    injection h with h
    subst h
    exact ⟨_, rfl, .int _ _⟩
  | u :: l, v :: vs, x, r, hl, h => by
    unfold maxL at h
    split at h
    · rename_i heq; cases heq
    · rename_i k' y l' heq
      injection heq with h1 h2
      subst h1 h2
      split at h
      · rename_i hk
        subst hk
        obtain ⟨z, hz, hz'⟩ := maxL_ok hl.2 h
        refine ⟨z, ?_, hz'⟩
        have e := rep_int hl.1
        simp only [List.foldlM_cons, Sem.run_bind, e]
        cases mx <;> simpa [Builtin.max2, Builtin.min2] using hz
      · cases h
    · cases h
  | [], _ :: _, _, _, hl, _ => hl.elim
  | _ :: _, [], _, _, hl, _ => hl.elim
theorem mxn_ok {c : Call} {mx : Bool} {ts : List TypeId} {ys : List Opd} (hop : o.op = .call c) (hcal : c.callee = .builtin (if mx then .max else .min)) (hc : opdsOf P ts c.args.toList = some ys)
    (hd : o.dst = some d) (hdN : d < G.N) (hr : R1 G β I g a w)
    (hv : ((Ins.mxn d mx ys).rp S cl).val g = some (ws, ns)) (hK : Post G (applyW ws g) K) : o.wp P a w K Q := by
  obtain ⟨consts, he⟩ := run_built (a := a) hop hcal
  simp only [Ins.rp] at hv
  obtain ⟨vs, h1, h2⟩ := opds_ok hr hc hv
  split at h2
  · rename_i k x l
    split at h2
    · rename_i r hr'
      cases hargs : c.args.toList with
      | nil => rw [hargs] at h1; exact h1.elim
      | cons z zs =>
        rw [hargs] at h1
        have hl : All2 (RepSV w I β) l (zs.map a.eval) := h1.2.mapR
        obtain ⟨v, hv, hv'⟩ := maxL_ok hl hr'
        refine wp_put (x := .c (.one (.t r))) hr ?_ hd hdN hv' h2 hK
        rw [he]
        have e0 := rep_int h1.1
        have harr : (c.args.map a.eval).toList = .int k x :: zs.map a.eval := by rw [Array.toList_map, hargs, List.map_cons, e0]
        cases mx with
        | true =>
          refine run_v (s := Builtin.max_ c.argTypes o.type (c.args.map a.eval)) ?_
          unfold Builtin.max_
          rw [harr]
          exact hv
        | false =>
          refine run_v (s := Builtin.min_ c.argTypes o.type (c.args.map a.eval)) ?_
          unfold Builtin.min_
          rw [harr]
          exact hv
    · cases h2
  · cases h2
end
end Go.Ev
