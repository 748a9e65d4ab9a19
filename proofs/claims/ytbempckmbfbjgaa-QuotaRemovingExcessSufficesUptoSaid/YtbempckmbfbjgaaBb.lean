/- The evaluator over plain data, its soundness, second part. No condition. -/
import Derived.Test.YtbempckmbfbjgaaBa
import Derived.Laws.AppendOwn
import Derived.Laws.BytesArg
import Derived.Laws.BytesString
set_option linter.unusedVariables false
set_option linter.unusedSimpArgs false
set_option linter.constructorNameAsVariable false
set_option linter.unnecessarySimpa false
namespace Go.Ev
section
variable {P : Program} {G : Gh} {β : Beta} {I : Nat → Prop} {g : Facts} {a : Act} {w : World}
def csplice (cur : Array Value) (p : Nat) (vs : List Value) : Array Value := (cur.toList.take p ++ vs ++ cur.toList.drop (p + vs.length)).toArray
theorem csplice_size {cur : Array Value} {p : Nat} {vs : List Value} (h : p + vs.length ≤ cur.size) : (csplice cur p vs).size = cur.size := by
  simp [csplice]
  omega
theorem splice_get {α : Type} {l m : List α} {p : Nat} (h : p + m.length ≤ l.length) (j : Nat) : (splice l p m)[j]? = if p ≤ j ∧ j < p + m.length then m[j - p]? else l[j]? := by
  unfold splice
  rw [List.append_assoc, List.getElem?_append, List.length_take, Nat.min_eq_left (by omega)]
  split
  · rename_i hj
    rw [if_neg (by omega), List.getElem?_take, if_pos hj]
  · rename_i hj
    rw [List.getElem?_append]
    split
    · rw [if_pos (by omega)]
    · rw [if_neg (by omega), List.getElem?_drop]
      congr 1
      omega
theorem splice_length {α : Type} {l m : List α} {p : Nat} (h : p + m.length ≤ l.length) : (splice l p m).length = l.length := by
  simp [splice]
  omega
theorem csplice_get {cur : Array Value} {p : Nat} {vs : List Value} (h : p + vs.length ≤ cur.size) (j : Nat) : (csplice cur p vs)[j]? = if p ≤ j ∧ j < p + vs.length then vs[j - p]? else cur[j]? := by
  have := splice_get (l := cur.toList) (m := vs) (p := p) (by simpa using h) j
  simpa [csplice, splice] using this
theorem run_stores (b o : Nat) (e : TypeId) (fr : Nat × Nat) : ∀ (vs : List Value) (i : Nat) (cur : Array Value) (w : World), w.heap[b]? = some (.cells cur e fr) → okfr cur.size fr → o + i + vs.length ≤ cur.size → (∀ v ∈ vs, v.oneCell' = true) →
    (storeCells ⟨b, o, none⟩ vs i).run P w = .ok () (w.setRow b (csplice cur (o + i) vs))
  | [], i, cur, w, hg, _, _, _ => by
    simp only [storeCells, csplice, List.append_nil, List.length_nil, Nat.add_zero, List.take_append_drop, Array.toArray_toList]
    rw [setRow_self w b cur e fr hg]
    rfl
  | v :: rest, i, cur, w, hg, hf, hl, h1 => by
    have hi : o + i < cur.size := by simp at hl; omega
    have hcell : w.cell? ⟨b, o + i, none⟩ = some cur[o + i] := by simp [World.cell?, hg, hi]
    have hfro : w.frozen? ⟨b, o + i, none⟩ = false := by
      simp only [World.frozen?, hg]
      rcases hf with hf | hf <;> simp <;> omega
    have hst : (store ((⟨b, o, none⟩ : Addr).add i) v).run P w = .ok () (w.setRow b (cur.setIfInBounds (o + i) v)) := by
      rw [addr_add, run_store P w _ v _ (h1 v (by simp)), hcell]
      simp [hfro, setCell_eq_setRow w b (o + i) cur e fr v hg]
    have ih := run_stores b o e fr rest (i + 1) (cur.setIfInBounds (o + i) v) (w.setRow b (cur.setIfInBounds (o + i) v)) (setRow_heap w b cur _ e _ hg) (by simpa using hf) (by simp at hl ⊢; omega) (fun x hx => h1 x (by simp [hx]))
    simp only [storeCells, Sem.run_bind, hst, Result.andThen_ok, ih, setRow_setRow]
    congr 2
    have e := list_seg_step cur.toList (o + i) v rest (by simp at hl ⊢; omega)
    simp only [csplice, List.length_cons]
    congr 1
    simpa [Array.toList_setIfInBounds, Nat.add_assoc] using e
theorem Grow.setRow {b : Nat} {cs cs' : Array Value} {e : TypeId} {fr : Nat × Nat} (h : w.heap[b]? = some (.cells cs e fr)) (hs : cs'.size = cs.size) : Grow w (w.setRow b cs') (· = b) := by
  refine ⟨rfl, rfl, rfl, by simp, fun b' _ hb => setRow_other w b b' cs' hb, fun b' c e' f hb => ?_⟩
  by_cases he : b' = b
  · subst he
    rw [h] at hb
    injection hb with hb
    injection hb with h1 h2 h3
    subst h1 h2 h3
    exact ⟨cs', fr, setRow_heap w b' cs cs' e fr h, hs⟩
  · exact ⟨c, f, by rw [setRow_other w b b' cs' he]; exact hb, rfl⟩
theorem Rd.oneCell {v : Value} {x : T} (h : Rd w I v x) : v.oneCell' = true := by cases h <;> rfl
theorem RepAV.oneCell {v : Value} {x : AV} (h : RepAV w I β x v) : v.oneCell' = true := by
  cases x with
  | t x => exact Rd.oneCell h
  | nilsl sz => obtain rfl : v = _ := h; rfl
  | own k sz off len c =>
    rcases h with ⟨_, _, _, _, rfl⟩ | ⟨_, _, _, _, _, _, _, _, rfl, _⟩ <;> rfl
  | ptr k n off => obtain ⟨_, _, rfl, _⟩ := h; rfl
  | eptr k sz i off => obtain ⟨_, _, _, rfl⟩ := h; rfl
  | rptr e off => obtain ⟨_, _, _, rfl, _⟩ := h; rfl
  | fn f caps => obtain ⟨_, rfl, _⟩ := h; rfl
theorem All2.memR {α β : Type} {R : α → β → Prop} : ∀ {l : List α} {m : List β}, All2 R l m → ∀ b, b ∈ m → ∃ a, a ∈ l ∧ R a b
  | _ :: _, _ :: _, h, x, hx => by
    rcases List.mem_cons.1 hx with rfl | hx
    · exact ⟨_, List.mem_cons_self, h.1⟩
    · obtain ⟨a, h1, h2⟩ := h.2.memR x hx
      exact ⟨a, List.mem_cons_of_mem _ h1, h2⟩
  | [], [], _, _, hx => by cases hx
  | [], _ :: _, h, _, _ => h.elim
/-- a row of values that stands for elements -/
def RowL (w : World) (I : Nat → Prop) (vs : List Value) (sz : Nat) (es : List (List T)) : Prop := RowAt w I vs.toArray 0 sz es ∧ vs.length = es.length * sz ∧ ∀ v, v ∈ vs → v.oneCell' = true
theorem mul_lt {j m sz i : Nat} (h : j < m) (hi : i < sz) : j * sz + i < m * sz := by
  have := Nat.mul_le_mul_right sz (show j + 1 ≤ m from h)
  rw [Nat.add_mul] at this
  omega
/-- a stretch of a row -/
theorem RowAt.seg {cs : Array Value} {base sz : Nat} {es : List (List T)} (h : RowAt w I cs base sz es) {off len : Nat} (hl : off + len ≤ es.length) : RowAt w I cs (base + off * sz) sz ((es.drop off).take len) := by
  refine ⟨?_, fun j el hj => ?_⟩
  · have := Nat.mul_le_mul_right sz hl
    rw [Nat.add_mul] at this
    have hh := h.1
    simp only [List.length_take, List.length_drop]
    rw [Nat.min_eq_left (by omega)]
    omega
  · rw [List.getElem?_take] at hj
    split at hj
    · rw [List.getElem?_drop] at hj
      refine ⟨(h.2 _ el hj).1, fun i t hi => ?_⟩
      obtain ⟨u, h1, h2⟩ := (h.2 _ el hj).2 i t hi
      refine ⟨u, ?_, h2⟩
      rw [← h1]
      congr 1
      rw [Nat.add_mul]
      omega
    · cases hj
theorem idx_lt {α : Type} {l : List α} {i : Nat} {x : α} (h : l[i]? = some x) : i < l.length := (List.getElem?_eq_some_iff.1 h).1
theorem divmod {j sz : Nat} (h : 0 < sz) : j = j / sz * sz + j % sz := by
  have := Nat.div_add_mod j sz
  rw [Nat.mul_comm] at this
  omega
/-- the values of a row -/
theorem RowAt.list {cs : Array Value} {base sz : Nat} {es : List (List T)} (h : RowAt w I cs base sz es) : RowL w I ((cs.toList.drop base).take (es.length * sz)) sz es := by
  have hh := h.1
  have hlen : ((cs.toList.drop base).take (es.length * sz)).length = es.length * sz := by simp; omega
  have get : ∀ j, j < es.length * sz → ((cs.toList.drop base).take (es.length * sz))[j]? = cs[base + j]? := by
    intro j hj
    rw [List.getElem?_take, if_pos hj, List.getElem?_drop, Array.getElem?_toList]
  refine ⟨⟨by simp; omega, fun j el hj => ⟨(h.2 j el hj).1, fun i t hi => ?_⟩⟩, hlen, fun v hv => ?_⟩
  · obtain ⟨u, h1, h2⟩ := (h.2 j el hj).2 i t hi
    refine ⟨u, ?_, h2⟩
    have hi' : i < sz := by rw [← (h.2 j el hj).1]; exact idx_lt hi
    have := mul_lt (idx_lt hj) hi'
    rw [List.getElem?_toArray, Nat.zero_add, get _ this, ← h1]
    congr 1
    omega
  · obtain ⟨j, hj⟩ := List.getElem?_of_mem hv
    have hjl := idx_lt hj
    rw [hlen] at hjl
    rw [get j hjl] at hj
    have hsz : 0 < sz := by
      rcases Nat.eq_zero_or_pos sz with h0 | h0
      · subst h0; simp at hjl
      · exact h0
    have hd : j / sz < es.length := (Nat.div_lt_iff_lt_mul hsz).2 hjl
    have hes : es[j / sz]? = some es[j / sz] := List.getElem?_eq_getElem hd
    have hel := (h.2 _ _ hes).1
    have hm := Nat.mod_lt j hsz
    obtain ⟨u, h1, h2⟩ := (h.2 _ _ hes).2 (j % sz) _ (List.getElem?_eq_getElem (by omega))
    have : base + j / sz * sz + j % sz = base + j := by have := @divmod j sz hsz; omega
    rw [this, hj] at h1
    injection h1 with h1
    subst h1
    exact h2.oneCell
theorem RowAt.splice {cs : Array Value} {base sz off : Nat} {es ys : List (List T)} {vs : List Value} (h : RowAt w I cs base sz es) (hy : RowL w I vs sz ys) (hl : off + ys.length ≤ es.length) :
    RowAt w I (csplice cs (base + off * sz) vs) base sz (splice es off ys) := by
  have hh := h.1
  have hvl := hy.2.1
  have h1 := Nat.mul_le_mul_right sz hl
  rw [Nat.add_mul] at h1
  have hfit : base + off * sz + vs.length ≤ cs.size := by omega
  refine ⟨by rw [splice_length hl, csplice_size hfit]; exact hh, fun j el hj => ?_⟩
  rw [splice_get hl] at hj
  split at hj
  · rename_i hjr
    refine ⟨(hy.1.2 _ el hj).1, fun i t hi => ?_⟩
    obtain ⟨u, h3, h4⟩ := (hy.1.2 _ el hj).2 i t hi
    have hi' : i < sz := by rw [← (hy.1.2 _ el hj).1]; exact idx_lt hi
    refine ⟨u, ?_, h4⟩
    have hb := mul_lt (show j - off < ys.length by omega) hi'
    have hjj : j * sz = off * sz + (j - off) * sz := by rw [← Nat.add_mul]; congr 1; omega
    rw [csplice_get hfit, if_pos (by omega)]
    rw [List.getElem?_toArray] at h3
    rw [← h3]
    congr 1
    omega
  · rename_i hjr
    refine ⟨(h.2 _ el hj).1, fun i t hi => ?_⟩
    obtain ⟨u, h3, h4⟩ := (h.2 _ el hj).2 i t hi
    have hi' : i < sz := by rw [← (h.2 _ el hj).1]; exact idx_lt hi
    refine ⟨u, ?_, h4⟩
    rw [csplice_get hfit, if_neg ?_, h3]
    rcases Nat.lt_or_ge j off with hlt | hge
    · have := mul_lt hlt hi'
      omega
    · have hge' : off + ys.length ≤ j := by omega
      have := Nat.mul_le_mul_right sz hge'
      rw [Nat.add_mul] at this
      omega
theorem RowL.append {vs us : List Value} {sz : Nat} {es ys : List (List T)} (h : RowL w I vs sz es) (h' : RowL w I us sz ys) : RowL w I (vs ++ us) sz (es ++ ys) := by
  refine ⟨⟨by simp [h.2.1, h'.2.1, Nat.add_mul], fun j el hj => ?_⟩, by simp [h.2.1, h'.2.1, Nat.add_mul], fun v hv => ?_⟩
  · rw [List.getElem?_append] at hj
    split at hj
    · refine ⟨(h.1.2 _ el hj).1, fun i t hi => ?_⟩
      obtain ⟨u, h3, h4⟩ := (h.1.2 _ el hj).2 i t hi
      refine ⟨u, ?_, h4⟩
      rw [List.getElem?_toArray] at h3 ⊢
      rw [List.getElem?_append_left (idx_lt h3)]
      exact h3
    · rename_i hge
      refine ⟨(h'.1.2 _ el hj).1, fun i t hi => ?_⟩
      obtain ⟨u, h3, h4⟩ := (h'.1.2 _ el hj).2 i t hi
      refine ⟨u, ?_, h4⟩
      rw [List.getElem?_toArray] at h3 ⊢
      have hjj : j * sz = es.length * sz + (j - es.length) * sz := by rw [← Nat.add_mul]; congr 1; omega
      rw [List.getElem?_append_right (by rw [h.2.1]; omega), ← h3, h.2.1]
      congr 1
      omega
  · rcases List.mem_append.1 hv with hv | hv
    · exact h.2.2 v hv
    · exact h'.2.2 v hv
/-- more cells behind a row do no harm -/
theorem RowL.at {vs rest : List Value} {sz : Nat} {es : List (List T)} (h : RowL w I vs sz es) : RowAt w I (vs ++ rest).toArray 0 sz es := by
  refine ⟨by simp [h.2.1], fun j el hj => ⟨(h.1.2 j el hj).1, fun i t hi => ?_⟩⟩
  obtain ⟨u, h3, h4⟩ := (h.1.2 j el hj).2 i t hi
  refine ⟨u, ?_, h4⟩
  rw [List.getElem?_toArray] at h3 ⊢
  rw [List.getElem?_append_left (idx_lt h3)]
  exact h3
theorem RowL.nil {sz : Nat} : RowL w I [] sz [] := ⟨⟨by simp, fun j el hj => by simp at hj⟩, by simp, fun v hv => by cases hv⟩
theorem RowL.one {vs : List Value} {e : List T} (h : All2 (fun t v => Rd w I v t) e vs) : RowL w I vs e.length [e] := by
  refine ⟨⟨by simp [h.len], fun j el hj => ?_⟩, by simp [h.len], fun v hv => ?_⟩
  · cases j with
    | zero =>
      simp at hj
      subst hj
      refine ⟨rfl, fun i t hi => ?_⟩
      obtain ⟨u, h1, h2⟩ := h.get i t hi
      exact ⟨u, by simpa using h1, h2⟩
    | succ j => simp at hj
  · obtain ⟨t, _, h2⟩ := h.memR v hv
    exact h2.oneCell
theorem RowL.take {vs : List Value} {sz : Nat} {es : List (List T)} (h : RowL w I vs sz es) (n : Nat) (hn : n ≤ es.length) : RowL w I (vs.take (n * sz)) sz (es.take n) := by
  have hs := (h.1.seg (off := 0) (len := n) (by omega)).list
  have hlen : (es.take n).length = n := by simp; omega
  simpa [hlen] using hs
/-- bytes are a row -/
theorem RowL.bytes (l : List UInt8) : RowL w I (l.map fun b => Value.int .u8 b.toNat) 1 (l.map byteT) := by
  refine ⟨⟨by simp, fun j el hj => ?_⟩, by simp, fun v hv => ?_⟩
  · rw [List.getElem?_map, Option.map_eq_some_iff] at hj
    obtain ⟨b, hb, rfl⟩ := hj
    refine ⟨rfl, fun i t hi => ?_⟩
    have hi0 : i = 0 := by have := idx_lt hi; simp [byteT] at this; exact this
    subst hi0
    simp [byteT] at hi
    subst hi
    refine ⟨.int .u8 b.toNat, by simp [hb], .int _ _⟩
  · simp only [List.mem_map] at hv
    obtain ⟨b, _, rfl⟩ := hv
    rfl
theorem RowL.replicate {zs : List T} {vz : List Value} (h : All2 (fun t v => Rd w I v t) zs vz) : ∀ n : Nat, RowL w I (List.replicate n vz).flatten zs.length (List.replicate n zs)
  | 0 => RowL.nil
  | n + 1 => by
    rw [List.replicate_succ, List.replicate_succ, List.flatten_cons]
    exact (RowL.one h).append (RowL.replicate h n)
end
end Go.Ev

namespace Go.Ev
section
variable {P : Program} {G : Gh} {β : Beta} {I : Nat → Prop} {g : Facts} {a : Act} {w : World}
/-- where values to be appended or copied come from -/
structure Src (P : Program) (w : World) (v : Value) (sz n : Nat) (vs : List Value) : Prop where
  len : (Builtin.lenOf v).run P w = .ok n w
  first : ∀ w' : World, w'.heap = w.heap → ∀ m, m ≤ n → (Builtin.firstCells sz m v).run P w' = .ok (vs.take (m * sz)).toArray w'
theorem first_cells {b off n sz : Nat} {v : Value} {vs : List Value} {len cap : Nat} (hv : v = .slice (some ⟨b, off, none⟩) len cap) (hl : vs.length = n * sz) (h : ∀ j u, vs[j]? = some u → w.cell? ⟨b, off + j, none⟩ = some u) :
    ∀ w' : World, w'.heap = w.heap → ∀ m, m ≤ n → (Builtin.firstCells sz m v).run P w' = .ok (vs.take (m * sz)).toArray w' := by
  intro w' hw m hm
  subst hv
  have hml := Nat.mul_le_mul_right sz hm
  refine run_firstCells_some w' sz m _ len cap (vs.take (m * sz)) (by simp; omega) fun j u hj => ?_
  rw [List.getElem?_take] at hj
  split at hj
  · rw [addr_add, ← h j u hj]; exact World.cell?_of_block (w := w) (by rw [hw])
  · cases hj
theorem elemsOf_ok {sz : Nat} {y : SV} {v : Value} {α : Type} {c : List (List T) → RP α} {r : α} (hr : R1 G β I g a w) (h : RepSV w I β y v) (hv : (elemsOf sz y c).val g = some r) :
    ∃ es vs, (c es).val g = some r ∧ RowL w I vs sz es ∧ Src P w v sz es.length vs := by
  unfold elemsOf at hv
  split at hv
  · rename_i sz' es
    split at hv
    · rename_i hsz
      subst hsz
      simp only [RepSV, RepCV, RepAV] at h
      cases h with
      | sl ad n cap _ _ b o us hn hcap hmx h0 ha hI hs hvv hrr =>
        rcases Nat.eq_zero_or_pos n with hz | hpos
        · have : es = [] := List.eq_nil_of_length_eq_zero (by omega)
          subst this
          subst hz
          refine ⟨[], [], hv, RowL.nil, ⟨rfl, fun w' hw m hm => ?_⟩⟩
          obtain rfl : m = 0 := by simpa using hm
          cases ad <;> simp [Builtin.firstCells, loadCells, loadCellsFrom]
        · have had := ha hpos
          subst had
          subst hn
          have key : ∀ (j : Nat) (el : List T) (i : Nat) (t : T), es[j]? = some el → el[i]? = some t → w.cell? ⟨b, o + (j * sz' + i), none⟩ = some (us j i) := by
            intro j el i t hj hi
            rw [← hvv j el i t hj hi, Nat.add_assoc]
          refine ⟨es, (List.range es.length).flatMap fun j => (List.range sz').map fun i => us j i, hv, ?_⟩
          have hlen : ((List.range es.length).flatMap fun j => (List.range sz').map fun i => us j i).length = es.length * sz' := by
            simp [List.length_flatMap, List.map_const', List.sum_replicate_nat]
          have get : ∀ (m : Nat) (j i : Nat), j < m → i < sz' → ((List.range m).flatMap fun j => (List.range sz').map fun i => us j i)[j * sz' + i]? = some (us j i) := by
            intro m
            induction m with
            | zero => intro j i hj; omega
            | succ m ih =>
              intro j i hj hi
              rw [List.range_succ, List.flatMap_append]
              have hml : ((List.range m).flatMap fun j => (List.range sz').map fun i => us j i).length = m * sz' := by
                simp [List.length_flatMap, List.map_const', List.sum_replicate_nat]
              rcases Nat.lt_or_ge j m with hlt | hge
              · have := mul_lt hlt hi
                rw [List.getElem?_append_left (by omega)]
                exact ih j i hlt hi
              · have : j = m := by omega
                subst this
                rw [List.getElem?_append_right (by omega), hml]
                simp [hi]
          refine ⟨⟨⟨by simp [hlen], fun j el hj => ⟨hs j el hj, fun i t hi => ⟨us j i, ?_, hrr j el i t hj hi⟩⟩⟩, hlen, fun u hu => ?_⟩, ⟨rfl, first_cells rfl hlen fun j u hj => ?_⟩⟩
          · rw [List.getElem?_toArray, Nat.zero_add]
            exact get _ j i (idx_lt hj) (by rw [← hs j el hj]; exact idx_lt hi)
          · simp only [List.mem_flatMap, List.mem_range, List.mem_map] at hu
            obtain ⟨j, hj, i, hi, rfl⟩ := hu
            have hel := List.getElem?_eq_getElem hj
            exact (hrr j _ i _ hel (List.getElem?_eq_getElem (by rw [hs j _ hel]; exact hi))).oneCell
          · have hjl := idx_lt hj
            rw [hlen] at hjl
            have hsz : 0 < sz' := by
              rcases Nat.eq_zero_or_pos sz' with h0 | h0
              · subst h0; simp at hjl
              · exact h0
            have hd : j / sz' < es.length := (Nat.div_lt_iff_lt_mul hsz).2 hjl
            have hel := List.getElem?_eq_getElem hd
            have hm := Nat.mod_lt j hsz
            have hg := get _ (j / sz') (j % sz') hd hm
            have hk := key _ _ (j % sz') _ hel (List.getElem?_eq_getElem (by rw [hs _ _ hel]; exact hm))
            rw [← divmod hsz] at hg hk
            rw [hj] at hg
            rw [hk, hg]
    · cases hv
  · rename_i l
    split at hv
    · rename_i hsz
      subst hsz
      obtain ⟨s, rfl, rfl⟩ := rep_str h
      refine ⟨_, _, hv, RowL.bytes _, ⟨by simp [Builtin.lenOf], fun w' hw m hm => ?_⟩⟩
      have hm' : m ≤ s.size := by simpa using hm
      simp only [Builtin.firstCells, Sem.run_pure, Nat.mul_one]
      refine congrArg (fun z => Result.ok z w') ?_
      apply Array.ext'
      simp [ByteArray.extract, ByteArray.copySlice, List.map_take]
    · cases hv
  · obtain rfl : v = _ := h
    refine ⟨[], [], hv, RowL.nil, ⟨rfl, fun w' hw m hm => ?_⟩⟩
    obtain rfl : m = 0 := by simpa using hm
    simp [Builtin.firstCells]
  · rename_i k sz' off ln c'
    split at hv
    · rename_i hsz
      subst hsz
      simp only [rdArr, RP.val] at hv
      split at hv
      · rename_i x hx
        split at hv
        · rename_i sz'' es
          split at hv
          · rename_i hsz
            subst hsz
            obtain ⟨hfit, hv⟩ := need_ok hv
            · have hf := hr.facts _ _ hx
              have hlen : ((es.drop off).take ln).length = ln := by simp; omega
              rcases h with ⟨hk, rfl, rfl, _, rfl⟩ | ⟨b, base, ad, cap, cs, e, fr, hk, rfl, hheap, had, hsz, hlc, hcc, hmax⟩
              · refine ⟨_, [], hv, by simpa using RowL.nil, ⟨rfl, fun w' hw m hm => ?_⟩⟩
                obtain rfl : m = 0 := by simpa using hm
                simp [Builtin.firstCells]
              · rcases hf with ⟨h1, _⟩ | ⟨b', base', cs', e', fr', h1, h2, h3, h4⟩
                · rw [hk] at h1; cases h1
                · rw [hk] at h1
                  injection h1 with h1
                  injection h1 with h1 h1'
                  subst h1 h1'
                  rw [hheap] at h2
                  injection h2 with h2
                  injection h2 with h2 h2' h2''
                  subst h2 h2' h2''
                  have hrow := (h4.seg hfit).list
                  rw [hlen] at hrow
                  refine ⟨_, _, hv, hrow, ⟨by rw [hlen]; rfl, ?_⟩⟩
                  rw [hlen]
                  rcases had with rfl | hc0
                  · refine first_cells rfl (by rw [hrow.2.1, hlen]) fun j u hj => ?_
                    · rw [List.getElem?_take] at hj
                      split at hj
                      · rw [List.getElem?_drop] at hj
                        simp only [World.cell?, hheap]
                        simpa using hj
                      · cases hj
                  · have : ln = 0 := by omega
                    subst this
                    intro w' hw m hm
                    obtain rfl : m = 0 := by omega
                    simp [Builtin.firstCells, loadCells, loadCellsFrom]
          · cases hv
        · cases hv
      · cases hv
    · cases hv
  · cases hv
theorem R1.grow_step {w' : World} {X : Nat → Prop} (h : R1 G β I g a w) (hg : Grow w w' X) (hX : ∀ b, X b → b < w.heap.size → G.w0.heap.size ≤ b ∨ G.O b) : Grow G.w0 w' G.O := by
  refine ⟨hg.os.trans h.grow.os, hg.tape.trans h.grow.tape, hg.output.trans h.grow.output, Nat.le_trans h.grow.size hg.size, fun b hb ho => ?_, fun b cs e fr hb => ?_⟩
  · have hb' : b < w.heap.size := Nat.lt_of_lt_of_le hb h.grow.size
    by_cases hx : X b
    · rcases hX b hx hb' with h1 | h1
      · omega
      · exact absurd h1 ho
    · exact (hg.block b hb' hx).trans (h.grow.block b hb ho)
  · obtain ⟨c1, f1, h1, s1⟩ := h.grow.shape b cs e fr hb
    obtain ⟨c2, f2, h2, s2⟩ := hg.shape b c1 e f1 h1
    exact ⟨c2, f2, h2, s2.trans s1⟩
/-! ### the invariant over writes -/
theorem liveA {k : Key} {v : Val} (h : g (.a k) = some v) : Live g k := .inr ⟨v, h⟩
theorem liveC {k : Key} {i : Nat} {v : Val} (h : g (.c k i) = some v) : Live g k := .inl ⟨i, v, h⟩
/-- a row is written -/
theorem R1.writeA (h : R1 G β I g a w) {k : Key} {b base sz : Nat} {x : Val} {es : List (List T)} {cs cs' : Array Value} {e : TypeId} {fr : Nat × Nat} (hk : g (.a k) = some x) (hb : β k = some (b, base)) (hh : w.heap[b]? = some (.cells cs e fr))
    (hf : okfr cs.size fr) (hs : cs'.size = cs.size) (hrow : RowAt w I cs' base sz es) : R1 G β I (upd g (.a k) (some (.arr sz es))) a (w.setRow b cs') := by
  have hlive : Live g k := liveA hk
  have hsep := h.sep k b base hlive hb
  have hg := Grow.setRow (cs' := cs') hh hs
  have hX : ∀ b', I b' → ¬ (b' = b) := fun b' hI he => hsep.2 (he ▸ hI)
  have h1 : R1 G β I (upd g (.a k) none) a (w.setRow b cs') := by
    refine (h.forget (.a k)).step hg fun b' hb' _ => ?_
    subst hb'
    refine ⟨hsep.1, hsep.2, fun k' base' hl hb' => ?_⟩
    have := h.inj k k' _ _ _ hlive hl.upd_none hb hb'
    subst this
    rcases hl with ⟨i, v, hv⟩ | ⟨v, hv⟩
    · exact h.kind k i v x (upd_sub hv) hk
    · rw [upd_same] at hv; cases hv
  have h2 := h1.fact (l := .a k) (v := .arr sz es) (by
    refine .inr ⟨b, base, cs', e, fr, hb, setRow_heap w b cs cs' e fr hh, hs ▸ hf, hrow.grow hg hX h.lt fun _ h => h⟩) (fun k' hk' => .inr fun b' base' hb' => by
      have hkk : k' = k := by simpa [Loc.keys] using hk'
      subst hkk
      rw [hb] at hb'
      injection hb' with hb'
      injection hb' with hb' _
      subst hb'
      refine ⟨hsep.1, hsep.2, fun k2 base2 hne hl hb2 => hne (h.inj k' k2 _ _ _ hlive hl.upd_none hb hb2).symm⟩) (fun k i he => by cases he) (fun k' he i => by
      injection he with he
      subst he
      cases hc : upd g (.a k) none (.c k i) with
      | none => rfl
      | some v => exact (h.kind k i v x (upd_sub hc) hk).elim)
  have he : upd (upd g (.a k) none) (.a k) (some (.arr sz es)) = upd g (.a k) (some (.arr sz es)) := by
    funext m
    unfold upd
    split <;> rfl
  rw [he] at h2
  exact h2
theorem applyW_append (l m : Ws) (g : Facts) : applyW (l ++ m) g = applyW m (applyW l g) := by
  induction l generalizing g with
  | nil => rfl
  | cons x l ih => exact ih (upd g x.1 x.2)
theorem cellsW_get (k : Key) : ∀ (l : List AV) (i : Nat) (g : Facts) (m : Loc), applyW (cellsW k i l) g m = match m with
    | .c k' j => if k' = k ∧ i ≤ j ∧ j < i + l.length then (l[j - i]?).map Val.cell else g m
    | _ => g m
  | [], i, g, m => by
    cases m <;> simp [cellsW, applyW]
    omega
  | x :: l, i, g, m => by
    simp only [cellsW, applyW]
    rw [cellsW_get k l (i + 1)]
    cases m with
    | s n => exact upd_ne _ _ (by simp)
    | a n => exact upd_ne _ _ (by simp)
    | c k' j =>
      simp only [List.length_cons]
      by_cases hk : k' = k
      · subst hk
        by_cases hj : j = i
        · subst hj
          rw [if_neg (show ¬ (k' = k' ∧ j + 1 ≤ j ∧ j < j + 1 + l.length) by omega), if_pos (show k' = k' ∧ j ≤ j ∧ j < j + (l.length + 1) from ⟨rfl, by omega, by omega⟩), upd_same]
          simp
        · by_cases hr : i + 1 ≤ j ∧ j < i + 1 + l.length
          · rw [if_pos (show k' = k' ∧ i + 1 ≤ j ∧ j < i + 1 + l.length from ⟨rfl, hr⟩), if_pos (show k' = k' ∧ i ≤ j ∧ j < i + (l.length + 1) from ⟨rfl, by omega, by omega⟩)]
            have : j - i = (j - (i + 1)) + 1 := by omega
            rw [this, List.getElem?_cons_succ]
          · rw [if_neg (show ¬ (k' = k' ∧ i + 1 ≤ j ∧ j < i + 1 + l.length) from fun h => hr h.2), if_neg (show ¬ (k' = k' ∧ i ≤ j ∧ j < i + (l.length + 1)) from fun h => hr ⟨by omega, by omega⟩), upd_ne _ _ (by simp [hj])]
      · rw [if_neg (fun h => hk h.1), if_neg (fun h => hk h.1), upd_ne _ _ (by simp [hk])]
/-- cells of a variable are written -/
theorem R1.writeC (h : R1 G β I g a w) {k : Key} {b off : Nat} {x : Val} {i0 : Nat} {l : List AV} {vs : List Value} {cs : Array Value} {e : TypeId} {fr : Nat × Nat} (hk : g (.c k i0) = some x) (hb : β k = some (b, 0)) (hh : w.heap[b]? = some (.cells cs e fr))
    (hf : okfr cs.size fr) (hfit : off + vs.length ≤ cs.size) (hl : All2 (RepAV w I β) l vs) : R1 G β I (applyW (cellsW k off l) g) a (w.setRow b (csplice cs off vs)) := by
  have hlive : Live g k := liveC hk
  have hsep := h.sep k b 0 hlive hb
  have hs := csplice_size hfit
  have hg := Grow.setRow (cs' := csplice cs off vs) hh hs
  have hheap := setRow_heap w b cs (csplice cs off vs) e fr hh
  have hX : ∀ b', I b' → ¬ (b' = b) := fun b' hI he => hsep.2 (he ▸ hI)
  have hlen := hl.len
  have hga : g (.a k) = none := by
    cases hc : g (.a k) with
    | none => rfl
    | some v => exact (h.kind k i0 x v hk hc).elim
  have lv : ∀ k', Live (applyW (cellsW k off l) g) k' → Live g k' := by
    intro k' hl'
    rcases hl' with ⟨i, v, hv⟩ | ⟨v, hv⟩
    · rw [cellsW_get] at hv
      simp only at hv
      split at hv
      · rename_i hh; rw [hh.1]; exact hlive
      · exact .inl ⟨i, v, hv⟩
    · rw [cellsW_get] at hv
      exact .inr ⟨v, hv⟩
  refine ⟨h.defers, h.size, h.pin, h.imm0, h.imm1, fun b' hb' => Nat.lt_of_lt_of_le (h.lt b' hb') hg.size, ?_, fun k' b' base hl' => h.sep k' b' base (lv k' hl'), fun k1 k2 b1 s1 s2 h1 h2 => h.inj k1 k2 b1 s1 s2 (lv _ h1) (lv _ h2), fun k' i v v' h1 h2 => ?_, fun m v hm => ?_⟩
  · refine h.grow_step hg fun b' hb' _ => ?_
    subst hb'
    exact hsep.1
  · rw [cellsW_get] at h1 h2
    simp only at h1 h2
    split at h1
    · rename_i hh; rw [hh.1, hga] at h2; cases h2
    · exact h.kind k' i v v' h1 h2
  · rw [cellsW_get] at hm
    have other : ∀ m, g m = some v → k ∉ m.keys → Holds (w.setRow b (csplice cs off vs)) I β a.tmps m v := by
      intro m hm hne
      refine (h.facts m v hm).grow hg hX h.lt (fun _ h => h) fun k' b' base hk' hb' he => ?_
      subst he
      have hl' : Live g k' := by
        cases m with
        | s n => simp [Loc.keys] at hk'
        | c k2 i => simp [Loc.keys] at hk'; subst hk'; exact liveC hm
        | a k2 => simp [Loc.keys] at hk'; subst hk'; exact liveA hm
      exact hne ((h.inj k k' _ _ _ hlive hl' hb hb') ▸ hk')
    cases m with
    | s n => exact other _ hm (by simp [Loc.keys])
    | a n =>
      refine other _ hm ?_
      simp only [Loc.keys, List.mem_singleton]
      rintro rfl
      rw [hga] at hm
      cases hm
    | c k' j =>
      simp only at hm
      split at hm
      · rename_i hr
        obtain ⟨rfl, h1, h2⟩ := hr
        rw [Option.map_eq_some_iff] at hm
        obtain ⟨y, hy, rfl⟩ := hm
        obtain ⟨u, hu, hu'⟩ := hl.get _ _ hy
        refine ⟨b, _, e, fr, u, hb, hheap, hs ▸ hf, ?_, hu'.grow hg hX h.lt fun _ h => h⟩
        rw [csplice_get hfit, if_pos (by omega)]
        exact hu
      · rename_i hr
        by_cases hkk : k' = k
        · subst hkk
          have := h.facts _ _ hm
          cases v with
          | sv x => exact this.elim
          | arr sz es => exact this.elim
          | cell y =>
            obtain ⟨b', cs2, e2, fr2, u, h1, h2, h3, h4, h5⟩ := this
            rw [hb] at h1
            injection h1 with h1
            injection h1 with h1 _
            subst h1
            rw [hh] at h2
            injection h2 with h2
            injection h2 with h2 h2' h2''
            subst h2 h2' h2''
            refine ⟨b, _, e, fr, u, hb, hheap, hs ▸ hf, ?_, h5.grow hg hX h.lt fun _ h => h⟩
            rw [csplice_get hfit, if_neg (fun h => hr ⟨rfl, by omega, by omega⟩)]
            exact h4
        · exact other _ hm (by simp [Loc.keys]; exact fun h => hkk h.symm)
end
end Go.Ev

namespace Go.Ev
section
variable {P : Program} {G : Gh} {β : Beta} {I : Nat → Prop} {g : Facts} {a : Act} {w : World}
theorem Rd.more {I' : Nat → Prop} {v : Value} {x : T} (h : Rd w I v x) (hI : ∀ b, I b → I' b) : Rd w I' v x := h.mono hI fun _ _ => rfl
theorem RepAV.more {I' : Nat → Prop} {x : AV} {v : Value} (h : RepAV w I β x v) (hI : ∀ b, I b → I' b) : RepAV w I' β x v := by
  cases x with
  | t x => exact Rd.more h hI
  | rptr e off =>
    obtain ⟨b, o, us, h1, h2, h3⟩ := h
    exact ⟨b, o, us, h1, fun h => hI _ (h2 h), fun i t hi => ⟨(h3 i t hi).1, (h3 i t hi).2.more hI⟩⟩
  | _ => exact h
theorem RepCV.more {I' : Nat → Prop} {x : CV} {v : Value} (h : RepCV w I β x v) (hI : ∀ b, I b → I' b) : RepCV w I' β x v := by
  cases x with
  | one x => exact RepAV.more h hI
  | agg l =>
    obtain ⟨vs, h1, h2⟩ := h
    exact ⟨vs, h1, h2.imp fun _ _ _ h => h.more hI⟩
theorem RepSV.more {I' : Nat → Prop} {x : SV} {v : Value} (h : RepSV w I β x v) (hI : ∀ b, I b → I' b) : RepSV w I' β x v := by
  cases x with
  | c x => exact RepCV.more h hI
  | tup l =>
    obtain ⟨vs, h1, h2⟩ := h
    exact ⟨vs, h1, h2.imp fun _ _ _ h => h.more hI⟩
theorem RowAt.more {I' : Nat → Prop} {cs : Array Value} {base sz : Nat} {es : List (List T)} (h : RowAt w I cs base sz es) (hI : ∀ b, I b → I' b) : RowAt w I' cs base sz es :=
  ⟨h.1, fun j el hj => ⟨(h.2 j el hj).1, fun i t hi => by
    obtain ⟨u, h1, h2⟩ := (h.2 j el hj).2 i t hi
    exact ⟨u, h1, h2.more hI⟩⟩⟩
theorem Holds.more {I' : Nat → Prop} {t : Array Value} {l : Loc} {v : Val} (h : Holds w I β t l v) (hI : ∀ b, I b → I' b) : Holds w I' β t l v := by
  cases l with
  | s n => cases v with
    | sv x => exact RepSV.more h hI
    | cell x => exact h
    | arr sz es => exact h
  | c k i => cases v with
    | sv x => exact h
    | arr sz es => exact h
    | cell x =>
      obtain ⟨b, cs, e, fr, u, h1, h2, h3, h4, h5⟩ := h
      exact ⟨b, cs, e, fr, u, h1, h2, h3, h4, h5.more hI⟩
  | a k => cases v with
    | sv x => exact h
    | cell x => exact h
    | arr sz es =>
      rcases h with h | ⟨b, base, cs, e, fr, h1, h2, h3, h4⟩
      · exact .inl h
      · exact .inr ⟨b, base, cs, e, fr, h1, h2, h3, h4.more hI⟩
/-- a row of the call's own is given up: from here on nobody writes it -/
theorem R1.give (h : R1 G β I g a w) {k : Key} {x : Val} {b base : Nat} (hk : g (.a k) = some x) (hb : β k = some (b, base)) (hlt : b < w.heap.size) : R1 G β (fun y => I y ∨ y = b) (upd g (.a k) none) a w := by
  have hsep := h.sep k b base (liveA hk) hb
  refine ⟨h.defers, h.size, h.pin, fun c hc => .inl (h.imm0 c hc), fun c hc => ?_, fun c hc => ?_, h.grow, fun k' c s hl hc => ?_, (h.forget _).inj, (h.forget _).kind, fun m v hm => ((h.forget (.a k)).facts m v hm).more fun c hc => .inl hc⟩
  · rcases hc with hc | rfl
    · exact h.imm1 c hc
    · exact .inr hsep.1
  · rcases hc with hc | rfl
    · exact h.lt c hc
    · exact hlt
  · have := h.sep k' c s hl.upd_none hc
    refine ⟨this.1, ?_⟩
    rintro (h1 | rfl)
    · exact this.2 h1
    · have := h.inj k k' c base s (liveA hk) hl.upd_none hb hc
      subst this
      rcases hl with ⟨i, v, hv⟩ | ⟨v, hv⟩
      · exact h.kind k i v x (upd_sub hv) hk
      · rw [upd_same] at hv; cases hv
/-- only rows are given up -/
def Gone (ws : Ws) : Prop := ∀ x, x ∈ ws → ∃ k, x = (Loc.a k, none)
theorem Gone.nil : Gone [] := fun _ h => by cases h
theorem Gone.append {l m : Ws} (h : Gone l) (h' : Gone m) : Gone (l ++ m) := fun x hx => (List.mem_append.1 hx).elim (h x) (h' x)
theorem Gone.get {ws : Ws} : ∀ {g : Facts}, Gone ws → ∀ l, (∀ k, l = .a k → ∀ x, x ∈ ws → x.1 ≠ l) → applyW ws g l = g l := by
  induction ws with
  | nil => intro _ _ _ _; rfl
  | cons y ws ih =>
    intro g h l hl
    obtain ⟨k, rfl⟩ := h y List.mem_cons_self
    rw [applyW, ih (fun x hx => h x (List.mem_cons_of_mem _ hx)) l fun k' he x hx => hl k' he x (List.mem_cons_of_mem _ hx)]
    exact upd_ne _ _ fun he => hl k he _ List.mem_cons_self he.symm
theorem Gone.sub {ws : Ws} : ∀ {g : Facts}, Gone ws → ∀ l v, applyW ws g l = some v → g l = some v := by
  induction ws with
  | nil => intro _ _ _ _ h; exact h
  | cons y ws ih =>
    intro g h l v hv
    obtain ⟨k, rfl⟩ := h y List.mem_cons_self
    exact upd_sub (ih (fun x hx => h x (List.mem_cons_of_mem _ hx)) l v hv)
/-- Under way: g is what was told at first, g' what is told now; what is not told any more is never written. -/
structure Giving (G : Gh) (β : Beta) (a : Act) (w : World) (g : Facts) (I0 I : Nat → Prop) (w1 : Ws) : Prop where
  r : R1 G β I (applyW w1 g) a w
  gone : Gone w1
  more : ∀ b, I0 b → I b
  all : ∀ l v, g l = some v → Holds w I β a.tmps l v
  given : ∀ k v, g (.a k) = some v → applyW w1 g (.a k) = some v ∨ ∀ b base, β k = some (b, base) → I b
theorem Giving.start (h : R1 G β I g a w) : Giving G β a w g I I [] := ⟨h, Gone.nil, fun _ h => h, h.facts, fun _ _ h => .inl h⟩
theorem Giving.one {I0 : Nat → Prop} {w1 : Ws} (h : Giving G β a w g I0 I w1) {x : AV} {v : Value} {α : Type} {c : T → Ws → RP α} {r : α} (hx : RepAV w I β x v) (hv : (x.frz c).val g = some r) :
    ∃ t w2 I2, (c t w2).val g = some r ∧ Rd w I2 v t ∧ (∀ b, I b → I2 b) ∧ Giving G β a w g I0 I2 (w1 ++ w2) ∧ Gone w2 := by
  unfold AV.frz at hv
  split at hv
  · exact ⟨_, [], I, hv, hx, fun _ h => h, by rw [List.append_nil]; exact h, Gone.nil⟩
  · obtain rfl : v = _ := hx
    exact ⟨_, [], I, hv, .sl none 0 0 [] _ 0 0 (fun _ _ => undef) rfl (Nat.le_refl _) (Nat.zero_le _) (fun _ => rfl) (fun h => absurd h (Nat.lt_irrefl 0)) (fun h => absurd h (Nat.lt_irrefl 0)) (fun j e h => by simp at h) (fun j e i t h => by simp at h) (fun j e i t h => by simp at h), fun _ h => h, by rw [List.append_nil]; exact h, Gone.nil⟩
  · rename_i k sz off ln c'
    simp only [rdArr, RP.val] at hv
    split at hv
    · rename_i y hy
      split at hv
      · rename_i sz'' es
        split at hv
        · rename_i hsz
          subst hsz
          obtain ⟨hfit, hv⟩ := need_ok hv
          · have hf := h.all _ _ hy
            have hlen : ((es.drop off).take ln).length = ln := by simp; omega
            have hw2 : Gone [(Loc.a k, (none : Option Val))] := fun x hx => ⟨k, by simpa using hx⟩
            have happ : applyW (w1 ++ [(Loc.a k, none)]) g = upd (applyW w1 g) (.a k) none := by rw [applyW_append]; rfl
            rcases hx with ⟨hk, rfl, rfl, _, rfl⟩ | ⟨b, base, ad, cap, cs, e, fr, hk, rfl, hheap, had, hsz, hlc, hcc, hmax⟩
            · refine ⟨_, _, I, hv, .sl none 0 0 _ _ 0 0 (fun _ _ => undef) (by simp) (Nat.le_refl _) (Nat.zero_le _) (fun _ => rfl) (fun h => absurd h (Nat.lt_irrefl 0)) (fun h => absurd h (Nat.lt_irrefl 0)) (fun j e h => by simp at h) (fun j e i t h => by simp at h) (fun j e i t h => by simp at h), fun _ h => h, ⟨?_, h.gone.append hw2, h.more, h.all, fun k' v' hv' => ?_⟩, hw2⟩
              · rw [happ]; exact h.r.forget _
              · rw [happ]
                by_cases he : k' = k
                · subst he
                  exact .inr fun b base hb => by rw [hk] at hb; cases hb
                · rw [upd_ne _ _ (by simpa using he)]
                  exact h.given k' v' hv'
            · rcases hf with ⟨h1, _⟩ | ⟨b', base', cs', e', fr', h1, h2, h3, h4⟩
              · rw [hk] at h1; cases h1
              · rw [hk] at h1
                injection h1 with h1
                injection h1 with h1 h1'
                subst h1 h1'
                rw [hheap] at h2
                injection h2 with h2
                injection h2 with h2 h2' h2''
                subst h2 h2' h2''
                have hblt := lt_of_heap hheap
                have mk : ∀ I2 : Nat → Prop, (∀ b, I b → I2 b) → I2 b → Rd w I2 (.slice (some ad) ln cap) (.sl sz'' ((es.drop off).take ln)) := by
                  intro I2 hI2 hb2
                  have hseg := (h4.seg hfit).more hI2
                  refine .sl _ _ _ _ _ b (base + off * sz'') (fun j i => cs.getD (base + off * sz'' + j * sz'' + i) undef) hlen (by omega) hmax (fun h => by cases h) (fun hpos => ?_) (fun _ => hb2) (fun j el hj => (hseg.2 j el hj).1) (fun j el i t hj hi => ?_) (fun j el i t hj hi => ?_)
                  · rcases had with rfl | hc0
                    · rfl
                    · omega
                  · obtain ⟨u, h5, h6⟩ := (hseg.2 j el hj).2 i t hi
                    simp only [World.cell?, hheap]
                    rw [Array.getD_eq_getD_getElem?, h5]
                    simp
                  · obtain ⟨u, h5, h6⟩ := (hseg.2 j el hj).2 i t hi
                    show Rd w I2 (cs.getD (base + off * sz'' + j * sz'' + i) undef) t
                    rw [Array.getD_eq_getD_getElem?, h5]
                    exact h6
                rcases h.given k _ hy with hl | hgone
                · refine ⟨_, _, fun y => I y ∨ y = b, hv, mk _ (fun _ h => .inl h) (.inr rfl), fun _ h => .inl h, ⟨?_, h.gone.append hw2, fun b hb => .inl (h.more b hb), fun l v hv => (h.all l v hv).more fun _ h => .inl h, fun k' v' hv' => ?_⟩, hw2⟩
                  · rw [happ]; exact h.r.give hl hk hblt
                  · rw [happ]
                    by_cases he : k' = k
                    · subst he
                      exact .inr fun b2 base2 hb => by rw [hk] at hb; injection hb with hb; injection hb with hb _; exact .inr hb.symm
                    · rw [upd_ne _ _ (by simpa using he)]
                      rcases h.given k' v' hv' with h1 | h1
                      · exact .inl h1
                      · exact .inr fun b base hb => .inl (h1 b base hb)
                · refine ⟨_, _, I, hv, mk _ (fun _ h => h) (hgone b base hk), fun _ h => h, ⟨?_, h.gone.append hw2, h.more, h.all, fun k' v' hv' => ?_⟩, hw2⟩
                  · rw [happ]; exact h.r.forget _
                  · rw [happ]
                    by_cases he : k' = k
                    · subst he
                      exact .inr hgone
                    · rw [upd_ne _ _ (by simpa using he)]
                      exact h.given k' v' hv'
        · cases hv
      · cases hv
    · cases hv
  · cases hv
theorem Giving.many {I0 : Nat → Prop} {α : Type} {r : α} : ∀ {l : List AV} {vs : List Value} {I : Nat → Prop} {w1 : Ws} {c : List T → Ws → RP α}, Giving G β a w g I0 I w1 → All2 (RepAV w I β) l vs → (frz l c).val g = some r →
    ∃ ts w2 I2, (c ts w2).val g = some r ∧ All2 (fun t v => Rd w I2 v t) ts vs ∧ (∀ b, I b → I2 b) ∧ Giving G β a w g I0 I2 (w1 ++ w2) ∧ Gone w2
  | [], [], I, w1, c, h, _, hv => ⟨[], [], I, hv, trivial, fun _ h => h, by rw [List.append_nil]; exact h, Gone.nil⟩
  | x :: l, v :: vs, I, w1, c, h, hl, hv => by
    simp only [frz] at hv
    obtain ⟨t, w2, I2, h1, h2, h3, h4, h4'⟩ := h.one hl.1 hv
    obtain ⟨ts, w3, I3, h5, h6, h7, h8, h8'⟩ := h4.many (hl.2.imp fun _ _ _ h => h.more h3) h1
    exact ⟨t :: ts, w2 ++ w3, I3, h5, ⟨h2.more h7, h6⟩, fun b hb => h7 b (h3 b hb), by rw [← List.append_assoc]; exact h8, h4'.append h8'⟩
  | [], _ :: _, _, _, _, _, hl, _ => hl.elim
  | _ :: _, [], _, _, _, _, hl, _ => hl.elim
theorem Giving.all2 {I0 : Nat → Prop} {α : Type} {r : α} : ∀ {l : List SV} {vs : List Value} {I : Nat → Prop} {w1 : Ws} {c : List (List T) → Ws → RP α}, Giving G β a w g I0 I w1 → All2 (RepSV w I β) l vs → (frzAll l c).val g = some r →
    ∃ ts w2 I2, (c ts w2).val g = some r ∧ All2 (fun e v => All2 (fun t u => Rd w I2 u t) e v.cells.toList) ts vs ∧ (∀ b, I b → I2 b) ∧ Giving G β a w g I0 I2 (w1 ++ w2) ∧ Gone w2
  | [], [], I, w1, c, h, _, hv => ⟨[], [], I, hv, trivial, fun _ h => h, by rw [List.append_nil]; exact h, Gone.nil⟩
  | .c x :: l, v :: vs, I, w1, c, h, hl, hv => by
    simp only [frzAll] at hv
    obtain ⟨t, w2, I2, h1, h2, h3, h4, h4'⟩ := h.many (RepCV.cells (x := x) hl.1) hv
    obtain ⟨ts, w3, I3, h5, h6, h7, h8, h8'⟩ := h4.all2 (hl.2.imp fun _ _ _ h => h.more h3) h1
    exact ⟨t :: ts, w2 ++ w3, I3, h5, ⟨h2.imp fun _ _ _ h => h.more h7, h6⟩, fun b hb => h7 b (h3 b hb), by rw [← List.append_assoc]; exact h8, h4'.append h8'⟩
  | .tup _ :: _, _ :: _, _, _, _, _, _, hv => by cases hv
  | [], _ :: _, _, _, _, _, hl, _ => hl.elim
  | _ :: _, [], _, _, _, _, hl, _ => hl.elim
/-- the cells of a variable are told -/
theorem R1.addC (h : R1 G β I g a w) {k : Key} {b : Nat} {l : List AV} {cs : Array Value} {e : TypeId} {fr : Nat × Nat} (hb : β k = some (b, 0)) (hh : w.heap[b]? = some (.cells cs e fr)) (hf : okfr cs.size fr)
    (hc : ∀ i, g (.c k i) = none) (ha : g (.a k) = none) (hs : (G.w0.heap.size ≤ b ∨ G.O b) ∧ ¬ I b ∧ ∀ k' base', k' ≠ k → Live g k' → β k' ≠ some (b, base')) (hl : ∀ (i : Nat) (x : AV), l[i]? = some x → ∃ u, cs[i]? = some u ∧ RepAV w I β x u) :
    R1 G β I (applyW (cellsW k 0 l) g) a w := by
  have lv : ∀ k', Live (applyW (cellsW k 0 l) g) k' → k' = k ∨ Live g k' := by
    intro k' hl'
    rcases hl' with ⟨i, v, hv⟩ | ⟨v, hv⟩
    · rw [cellsW_get] at hv
      simp only at hv
      split at hv
      · rename_i hh; exact .inl hh.1
      · exact .inr (.inl ⟨i, v, hv⟩)
    · rw [cellsW_get] at hv
      exact .inr (.inr ⟨v, hv⟩)
  refine ⟨h.defers, h.size, h.pin, h.imm0, h.imm1, h.lt, h.grow, fun k' b' base hl' hb' => ?_, fun k1 k2 b1 s1 s2 h1 h2 hb1 hb2 => ?_, fun k' i v v' h1 h2 => ?_, fun m v hm => ?_⟩
  · rcases lv k' hl' with rfl | hl'
    · rw [hb] at hb'
      injection hb' with hb'
      injection hb' with hb' _
      subst hb'
      exact ⟨hs.1, hs.2.1⟩
    · exact h.sep k' b' base hl' hb'
  · have e1 := lv k1 h1
    have e2 := lv k2 h2
    clear h1 h2 lv
    rcases e1 with e1 | e1 <;> rcases e2 with e2 | e2
    · rw [e1, e2]
    · rw [e1, hb] at hb1
      injection hb1 with hb1
      injection hb1 with hb1 _
      subst hb1
      refine Classical.byContradiction fun hne => hs.2.2 k2 s2 (fun e => hne (e1.trans e.symm)) e2 hb2
    · rw [e2, hb] at hb2
      injection hb2 with hb2
      injection hb2 with hb2 _
      subst hb2
      exact Classical.byContradiction fun hne => hs.2.2 k1 s1 (fun e => hne (e.trans e2.symm)) e1 hb1
    · exact h.inj k1 k2 b1 s1 s2 e1 e2 hb1 hb2
  · rw [cellsW_get] at h1 h2
    simp only at h1 h2
    split at h1
    · rename_i hh; rw [hh.1, ha] at h2; cases h2
    · exact h.kind k' i v v' h1 h2
  · rw [cellsW_get] at hm
    cases m with
    | s n => exact h.facts _ _ hm
    | a n => exact h.facts _ _ hm
    | c k' j =>
      simp only at hm
      split at hm
      · rename_i hr
        obtain ⟨rfl, h1, h2⟩ := hr
        rw [Option.map_eq_some_iff] at hm
        obtain ⟨y, hy, rfl⟩ := hm
        obtain ⟨u, hu, hu'⟩ := hl _ _ hy
        exact ⟨b, cs, e, fr, u, hb, hh, hf, hu, hu'⟩
      · exact h.facts _ _ hm
theorem Fresh.noC {k : Key} (h : Fresh g k) (i : Nat) : g (.c k i) = none := by
  cases hc : g (.c k i) with
  | none => rfl
  | some v => exact ((h _ _ hc).1 (by simp [Loc.keys])).elim
theorem Fresh.noA {k : Key} (h : Fresh g k) : g (.a k) = none := by
  cases hc : g (.a k) with
  | none => rfl
  | some v => exact ((h _ _ hc).1 (by simp [Loc.keys])).elim
theorem R1.heapLt (h : R1 G β I g a w) {k : Key} {b base : Nat} (hl : Live g k) (hb : β k = some (b, base)) : b < w.heap.size := by
  rcases hl with ⟨i, v, hv⟩ | ⟨v, hv⟩
  · have hh := h.facts _ _ hv
    cases v with
    | sv x => exact hh.elim
    | arr sz es => exact hh.elim
    | cell x =>
      obtain ⟨b', cs, e, fr, u, h1, h2, _⟩ := hh
      rw [hb] at h1; injection h1 with h1; injection h1 with h1 _; subst h1; exact lt_of_heap h2
  · have hh := h.facts _ _ hv
    cases v with
    | sv x => exact hh.elim
    | cell x => exact hh.elim
    | arr sz es =>
      rcases hh with ⟨h1, _⟩ | ⟨b', base', cs, e, fr, h1, h2, _⟩
      · rw [hb] at h1; cases h1
      · rw [hb] at h1; injection h1 with h1; injection h1 with h1 _; subst h1; exact lt_of_heap h2
/-- a new variable -/
theorem R1.newC (h : R1 G β I g a w) {k : Key} (hk : Fresh g k) (hp : ¬ pinned k) {l : List AV} {vs : List Value} {e : TypeId} (hl : All2 (RepAV w I β) l vs) (hkl : ∀ x, x ∈ l → k ∉ x.keys) :
    R1 G (updB β k (some (w.heap.size, 0))) I (applyW (cellsW k 0 l) g) a (w.alloc (.cells vs.toArray e)) := by
  have h1 := (h.rebeta hk hp (some (w.heap.size, 0))).alloc (.cells vs.toArray e)
  have hg := Grow.alloc w (.cells vs.toArray e) (fun _ => False)
  refine h1.addC (b := w.heap.size) (cs := vs.toArray) (e := e) (fr := (0, 0)) (updB_same _ _ _) (heap_alloc_new w _) (.inl rfl) hk.noC hk.noA ⟨.inl h.grow.size, fun hI => Nat.lt_irrefl _ (h.lt _ hI), fun k' base' hne hl' hb' => ?_⟩ fun i x hx => ?_
  · rw [updB_ne _ _ hne] at hb'
    exact Nat.lt_irrefl _ (h.heapLt hl' hb')
  · obtain ⟨u, h2, h3⟩ := hl.get i x hx
    refine ⟨u, by simpa using h2, ?_⟩
    refine RepAV.beta (h3.grow hg (fun _ _ => id) h.lt fun _ h => h) fun k' hk' => updB_ne _ _ ?_
    rintro rfl
    exact hkl x (List.mem_of_getElem? hx) hk'
/-- a new row -/
theorem R1.newA (h : R1 G β I g a w) {k : Key} (hk : Fresh g k) (hp : ¬ pinned k) {sz : Nat} {es : List (List T)} {cs : Array Value} {e : TypeId} {fr : Nat × Nat} (hl : RowAt w I cs 0 sz es) (hf : okfr cs.size fr) :
    R1 G (updB β k (some (w.heap.size, 0))) I (upd g (.a k) (some (.arr sz es))) a (w.alloc (.cells cs e fr)) := by
  have h1 := (h.rebeta hk hp (some (w.heap.size, 0))).alloc (.cells cs e fr)
  have hg := Grow.alloc w (.cells cs e fr) (fun _ => False)
  refine h1.fact (l := .a k) (v := .arr sz es) (.inr ⟨w.heap.size, 0, cs, e, fr, updB_same _ _ _, heap_alloc_new w _, hf, hl.grow hg (fun _ _ => id) h.lt fun _ h => h⟩) (fun k' hk' => .inr fun b' base hb' => ?_) (fun _ _ h => by cases h) (fun k' he i => by injection he with he; subst he; exact hk.noC i)
  have : k' = k := by simpa [Loc.keys] using hk'
  subst this
  rw [updB_same] at hb'
  injection hb' with hb'
  injection hb' with hb' _
  subst hb'
  refine ⟨.inl h.grow.size, fun hI => Nat.lt_irrefl _ (h.lt _ hI), fun k2 base' hne hl' hb2 => ?_⟩
  rw [updB_ne _ _ hne] at hb2
  exact Nat.lt_irrefl _ (h.heapLt hl' hb2)
theorem rdCells_ok {k : Key} {α : Type} {r : α} : ∀ {n i : Nat} {c : List AV → RP α}, (rdCells k i n c).val g = some r → ∃ l, l.length = n ∧ (∀ (j : Nat) (x : AV), l[j]? = some x → g (.c k (i + j)) = some (.cell x)) ∧ (c l).val g = some r
  | 0, i, c, hv => ⟨[], rfl, by simp, hv⟩
  | n + 1, i, c, hv => by
    simp only [rdCells, RP.val] at hv
    split at hv
    · rename_i v hg
      split at hv
      · rename_i x
        obtain ⟨l, h1, h2, h3⟩ := rdCells_ok hv
        refine ⟨x :: l, by simp [h1], fun j y hj => ?_, h3⟩
        cases j with
        | zero => simp at hj; subst hj; exact hg
        | succ j =>
          have := h2 j y (by simpa using hj)
          rw [← this]
          congr 2
          omega
      · cases hv
    · cases hv
/-- cells that are told stand in the block -/
theorem cells_at (h : R1 G β I g a w) {k : Key} {b off : Nat} {l : List AV} (hb : β k = some (b, 0)) (hl : ∀ (j : Nat) (x : AV), l[j]? = some x → g (.c k (off + j)) = some (.cell x)) : ∃ vs : List Value, All2 (RepAV w I β) l vs ∧ ∀ (j : Nat) (u : Value), vs[j]? = some u → w.cell? ⟨b, off + j, none⟩ = some u := by
  have hx : ∀ (j : Nat) (x : AV), l[j]? = some x → ∃ u, w.cell? ⟨b, off + j, none⟩ = some u ∧ RepAV w I β x u := by
    intro j x hj
    obtain ⟨b', cs, e, fr, u, h1, h2, h3, h4, h5⟩ := h.facts _ _ (hl j x hj)
    rw [hb] at h1
    injection h1 with h1
    injection h1 with h1 _
    subst h1
    exact ⟨u, by simp [World.cell?, h2, h4], h5⟩
  clear hl
  induction l generalizing off with
  | nil => exact ⟨[], trivial, by simp⟩
  | cons x l ih =>
    obtain ⟨u, h1, h2⟩ := hx 0 x rfl
    obtain ⟨vs, h3, h4⟩ := ih (off := off + 1) fun j y hj => by
      obtain ⟨u, h5, h6⟩ := hx (j + 1) y (by simpa using hj)
      exact ⟨u, by rw [← h5]; congr 2; omega, h6⟩
    refine ⟨u :: vs, ⟨h2, h3⟩, fun j v hj => ?_⟩
    cases j with
    | zero => simp at hj; subst hj; exact h1
    | succ j =>
      rw [← h4 j v (by simpa using hj)]
      congr 2
      omega
end
end Go.Ev

namespace Go.Ev
section
variable {P : Program} {o : Oper} {G : Gh} {β : Beta} {I : Nat → Prop} {g : Facts} {a : Act} {w : World} {K : Act → World → Prop} {Q : Exit → Act → World → Prop} {S : Sum} {cl : CallFn} {ws : Ws} {ns : List Key} {d : Nat} {t : TypeId}
theorem avIs_ok {x : AV} {v : Value} (h : avIs x v = true) : RepAV w I β x v := by
  unfold avIs at h
  split at h
  · simp at h
    obtain ⟨rfl, rfl⟩ := h
    exact Rd.int _ _
  · simp at h
    subst h
    exact Rd.bool _
  · simp at h
    subst h
    exact Rd.str _
  · rfl
  · cases h
theorem avsIs_ok : ∀ {l : List AV} {vs : List Value}, avsIs l vs = true → All2 (RepAV w I β) l vs
  | [], [], _ => trivial
  | x :: l, v :: vs, h => by
    simp only [avsIs, Bool.and_eq_true] at h
    exact ⟨avIs_ok h.1, avsIs_ok h.2⟩
  | [], _ :: _, h => by cases h
  | _ :: _, [], h => by cases h
theorem zeroOf_ok {zs : List AV} (h : zeroOf P t = some zs) : ∃ z, (∀ w, (zeroValue t).run P w = .ok z w) ∧ ∀ w I β, All2 (RepAV w I β) zs z.cells.toList := by
  unfold zeroOf at h
  split at h
  · rename_i z hz
    split at h
    · rename_i zs' _
      split at h
      · rename_i his
        injection h with h
        subst h
        refine ⟨z, fun w => ?_, fun w I β => avsIs_ok his⟩
        rw [Option.bind_eq_some_iff] at hz
        obtain ⟨i, h1, h2⟩ := hz
        simp [zeroValue, typeInfo, h1, h2]
      · cases h
    · cases h
  · cases h
theorem toTs_ok : ∀ {l : List AV} {ts : List T} {vs : List Value}, toTs l = some ts → All2 (RepAV w I β) l vs → All2 (fun t v => Rd w I v t) ts vs
  | [], ts, vs, h, hl => by
    injection h with h
    subst h
    cases vs with
    | nil => trivial
    | cons => exact hl.elim
  | x :: l, ts, [], h, hl => hl.elim
  | x :: l, ts, v :: vs, h, hl => by
    simp only [toTs] at h
    split at h
    · rename_i t m h1 h2
      injection h with h
      subst h
      refine ⟨?_, toTs_ok h2 hl.2⟩
      unfold AV.toT at h1
      split at h1
      · injection h1 with h1
        subst h1
        exact hl.1
      · injection h1 with h1
        subst h1
        obtain rfl : v = _ := hl.1
        exact .sl none 0 0 [] _ 0 0 (fun _ _ => undef) rfl (Nat.le_refl _) (Nat.zero_le _) (fun _ => rfl) (fun h => absurd h (Nat.lt_irrefl 0)) (fun h => absurd h (Nat.lt_irrefl 0)) (fun j e h => by simp at h) (fun j e i t h => by simp at h) (fun j e i t h => by simp at h)
      · cases h1
    · cases h
theorem notPinned (hd9 : d < 9999) : ¬ pinned (kl d 0) := by
  show ¬ ((1000000 : Nat) ≤ 100 * d + 0)
  omega
theorem run_newVar (e : TypeId) (v : Value) (w : World) : (newVar e v).run P w = .ok ⟨w.heap.size, 0, none⟩ (w.alloc (.cells v.cells e)) := by
  simp only [newVar, newRow, Sem.run_bind, run_newObj, Result.andThen_ok, Sem.run_pure]
  rfl
theorem box_put (hr : R1 G β I g a w) (hk : Fresh g (kl d 0)) (hd9 : d < 9999) (hd : o.dst = some d) (hdN : d < G.N) {l : List AV} {vs : List Value} {e : TypeId} {n : Nat} (hn : l.length = n) (hl : All2 (RepAV w I β) l vs) (hkl : ∀ x, x ∈ l → kl d 0 ∉ x.keys)
    (hrun : (execOp a.eval o).run P w = .ok (.value (.pointer (some ⟨w.heap.size, 0, none⟩))) (w.alloc (.cells vs.toArray e)))
    (hv : some (cellsW (kl d 0) 0 l ++ [(Loc.s d, some (Val.sv (.c (.one (.ptr (kl d 0) n 0)))))], [kl d 0]) = some (ws, ns)) (hK : Post G (applyW ws g) K) : o.wp P a w K Q := by
  injection hv with hv
  injection hv with hv _
  subst hv
  have h1 := hr.newC hk (notPinned hd9) (e := e) hl hkl
  refine wp_value hrun ?_ hK
  rw [hd, applyW_append]
  exact ⟨_, _, h1.put hdN (x := .c (.one (.ptr (kl d 0) n 0))) ⟨_, updB_same _ _ _, rfl, vs.toArray, e, (0, 0), heap_alloc_new w _, by rw [← hn, hl.len]; simp⟩⟩
theorem avsIs_keys : ∀ {l : List AV} {vs : List Value}, avsIs l vs = true → ∀ x, x ∈ l → x.keys = []
  | [], _, _ => by simp
  | y :: l, [], h => by cases h
  | y :: l, v :: vs, h => by
    simp only [avsIs, Bool.and_eq_true] at h
    intro x hx
    rcases List.mem_cons.1 hx with rfl | hx
    · have := h.1
      unfold avIs at this
      split at this <;> first | rfl | cases this
    · exact avsIs_keys h.2 x hx
theorem zero_keys {zs : List AV} (h : zeroOf P t = some zs) : ∀ x, x ∈ zs → x.keys = [] := by
  unfold zeroOf at h
  split at h
  · split at h
    · split at h
      · rename_i his
        injection h with h
        subst h
        exact avsIs_keys his
      · cases h
    · cases h
  · cases h
theorem alloc_ok {zs : List AV} (hop : o.op = .alloc t) (hz : zeroOf P t = some zs) (hd : o.dst = some d) (hdN : d < G.N) (hd9 : d < 9999) (hr : R1 G β I g a w) (hN : ∀ k, k ∈ ns → Fresh g k)
    (hv : ((Ins.alloc d zs).rp S cl).val g = some (ws, ns)) (hK : Post G (applyW ws g) K) : o.wp P a w K Q := by
  have hns : ns = [kl d 0] := by injection hv with hv; injection hv with _ hv; exact hv.symm
  obtain ⟨z, hz1, hz2⟩ := zeroOf_ok hz
  refine box_put (vs := z.cells.toList) (e := t) hr (hN _ (by rw [hns]; simp)) hd9 hd hdN rfl (hz2 _ _ _) (fun x hx => ?_) ?_ hv hK
  · have hk := zero_keys hz
    rw [hk x hx]
    simp
  · unfold execOp
    rw [hop]
    refine run_v ?_
    simp [Instr.alloc, hz1, run_newVar]
theorem box_ok {x : Operand} {y : Opd} (hop : o.op = .box t x) (hc : opdOf P t x = some y) (hd : o.dst = some d) (hdN : d < G.N) (hd9 : d < 9999) (hr : R1 G β I g a w) (hN : ∀ k, k ∈ ns → Fresh g k) {n : Nat}
    (hv : ((Ins.box d n y).rp S cl).val g = some (ws, ns)) (hK : Post G (applyW ws g) K) : o.wp P a w K Q := by
  simp only [Ins.rp] at hv
  obtain ⟨v, h1, hf, h2⟩ := opd_new hc hr hv
  split at h2
  · rename_i u
    split at h2
    · rename_i hvn
      have hns : ns = [kl d 0] := by injection h2 with hv; injection hv with _ hv; exact hv.symm
      have hk := hN (kl d 0) (by rw [hns]; simp)
      have hcells := RepCV.cells (x := u) h1
      refine box_put (vs := (a.eval x).cells.toList) (e := t) hr hk hd9 hd hdN hvn hcells (fun y hy => ?_) ?_ h2 hK
      · intro hmem
        refine hf _ hk ?_
        cases u with
        | one z => simp [CV.cells] at hy; subst hy; exact hmem
        | agg l => exact List.mem_flatMap.2 ⟨y, hy, hmem⟩
      · unfold execOp
        rw [hop]
        refine run_v ?_
        simp [Instr.box, run_newVar]
    · cases h2
  · cases h2
/-! ### structs -/
theorem foldl_fill (off : Nat) : ∀ (vs : List Value) (j : Nat) (cs : Array Value), off + j + vs.length ≤ cs.size → (vs.zipIdx j).foldl (fun cs (x : Value × Nat) => cs.setIfInBounds (off + x.2) x.1) cs = csplice cs (off + j) vs
  | [], j, cs, h => by
    simp [csplice]
  | v :: vs, j, cs, h => by
    simp only [List.zipIdx_cons, List.foldl_cons]
    rw [foldl_fill off vs (j + 1) _ (by simp at h ⊢; omega)]
    have e := list_seg_step cs.toList (off + j) v vs (by simp at h ⊢; omega)
    simp only [csplice, List.length_cons]
    congr 1
    simpa [Array.toList_setIfInBounds, Nat.add_assoc] using e
theorem instr_fill_cons {place : Nat → Option (Nat × Nat)} {cs : Array Value} {i off n : Nat} {v : Value} {rest : List (Nat × Value)} (hp : place i = some (off, n)) (hn : v.cells.size = n) (hl : off + n ≤ cs.size) :
    Instr.fill place cs ((i, v) :: rest) = Instr.fill place (csplice cs off v.cells.toList) rest := by
  rw [Instr.fill, hp]
  have hl' : ¬ (off + n > cs.size) := by omega
  simp only [hn, ne_eq, not_true_eq_false, decide_false, Bool.false_or]
  rw [if_neg (by simpa using hl)]
  congr 1
  have := foldl_fill off v.cells.toList 0 cs (by simp [hn]; omega)
  rw [← Array.foldl_toList, Array.toList_zipIdx]
  exact this
theorem All2.splice {α β : Type} {R : α → β → Prop} {l l' : List α} {cs : Array β} {vs : List β} {p : Nat} (h : All2 R l cs.toList) (h' : All2 R l' vs) : All2 R (Go.Ev.splice l p l') (cs.toList.take p ++ vs ++ cs.toList.drop (p + vs.length)) := by
  unfold Go.Ev.splice
  rw [h'.len]
  exact ((h.take p).append h').append (h.drop _)
theorem fill_ok {place : Nat → Option (Nat × Nat)} : ∀ {ps : List (Nat × Value)} {qs : List (Nat × Nat × SV)} {zs l : List AV} {cs : Array Value}, All2 (RepAV w I β) zs cs.toList →
    All2 (fun q p => place p.1 = some (q.1, q.2.1) ∧ RepSV w I β q.2.2 p.2) qs ps → fill zs qs = some l → ∃ cs', Instr.fill place cs ps = some cs' ∧ All2 (RepAV w I β) l cs'.toList
  | [], [], zs, l, cs, hz, _, h => by
    injection h with h
    subst h
    exact ⟨cs, rfl, hz⟩
  | (i, v) :: ps, (off, n, x) :: qs, zs, l, cs, hz, hq, h => by
    cases x with
    | tup m => cases h
    | c x =>
      simp only [fill] at h
      split at h
      · rename_i hh
        have hcells := RepCV.cells (x := x) hq.1.2
        have hvl : v.cells.size = n := by rw [← hh.1, hcells.len]; simp
        have hzl := hz.len
        have hfit : off + n ≤ cs.size := by simp at hzl; omega
        rw [instr_fill_cons hq.1.1 hvl hfit]
        refine fill_ok (cs := csplice cs off v.cells.toList) ?_ hq.2 h
        exact hz.splice hcells
      · cases h
  | [], _ :: _, _, _, _, _, hq, _ => hq.elim
  | _ :: _, [], _, _, _, _, hq, _ => hq.elim
theorem sizes_ok : ∀ {fs : List Field}, fs.all (fun f => (P.info? f.type).isSome) = true → ∀ w, (fs.mapM (fun f => do pure (f.offset, ← sizeOf f.type) : Field → Sem (Nat × Nat))).run P w = .ok (fs.map fun f => (f.offset, szOf P f.type)) w
  | [], _, w => rfl
  | f :: fs, h, w => by
    simp only [List.all_cons, Bool.and_eq_true] at h
    simp only [List.mapM_cons, Sem.run_bind, run_size h.1, Result.andThen_ok, Sem.run_pure, sizes_ok h.2, List.map_cons]
theorem parts_ok {fs : List Field} {place : Nat → Option (Nat × Nat)} (hpl : ∀ i, place i = (fs[i]?).map fun f => (f.offset, szOf P f.type)) : ∀ {ps : List (Nat × Operand)} {qs : List (Nat × Nat × Opd)} {α : Type} {k : List SV → RP α} {r : α}, partsOf P fs ps = some qs → R1 G β I g a w → (gets (qs.map (·.2.2)) k).val g = some r →
    ∃ vs, All2 (fun q p => place p.1 = some (q.1, q.2.1) ∧ RepSV w I β q.2.2 p.2) ((qs.zip vs).map fun p => (p.1.1, p.1.2.1, p.2)) (ps.map fun p => (p.1, a.eval p.2)) ∧ (k vs).val g = some r
  | [], qs, α, k, r, h, hr, hv => by
    injection h with h
    subst h
    exact ⟨[], trivial, hv⟩
  | (i, x) :: ps, qs, α, k, r, h, hr, hv => by
    simp only [partsOf] at h
    split at h
    · cases h
    · rename_i f hf
      split at h
      · rename_i y l h1 h2
        injection h with h
        subst h
        simp only [List.map_cons, gets] at hv
        obtain ⟨v, h3, h4⟩ := opd_ok h1 hr hv
        obtain ⟨vs, h5, h6⟩ := parts_ok hpl h2 hr h4
        refine ⟨v :: vs, ⟨⟨?_, h3⟩, h5⟩, h6⟩
        rw [hpl, hf]
        rfl
      · cases h
theorem build_ok {fs : List Field} {ps : Array (Nat × Operand)} {qs : List (Nat × Nat × Opd)} {zs : List AV} (hop : o.op = .build t ps) (hf : fieldsOf P t = some fs) (hz : zeroOf P t = some zs) (hall : fs.all (fun f => (P.info? f.type).isSome) = true) (hq : partsOf P fs ps.toList = some qs)
    (hd : o.dst = some d) (hdN : d < G.N) (hr : R1 G β I g a w)
    (hv : ((Ins.build d zs qs).rp S cl).val g = some (ws, ns)) (hK : Post G (applyW ws g) K) : o.wp P a w K Q := by
  obtain ⟨z, hz1, hz2⟩ := zeroOf_ok hz
  obtain ⟨fa, h5, h6⟩ := fieldsOf_und hf
  simp only [Ins.rp] at hv
  obtain ⟨vs, h1, h2⟩ := parts_ok (place := fun i => (fs[i]?).map fun f => (f.offset, szOf P f.type)) (fun _ => rfl) hq hr hv
  split at h2
  · rename_i l hl
    obtain ⟨cs', h3, h4⟩ := fill_ok (place := fun i => (fs[i]?).map fun (f : Field) => (f.offset, szOf P f.type)) (hz2 w I β) h1 hl
    refine wp_put (x := .c (.agg l)) (v := .agg cs') hr ?_ hd hdN ⟨cs'.toList, by simp, h4⟩ h2 hK
    unfold execOp
    rw [hop]
    refine run_v ?_
    have hm : (fa.mapM (fun f => do pure (f.offset, ← sizeOf f.type) : Field → Sem (Nat × Nat))).run P w = .ok (fs.map fun f => (f.offset, szOf P f.type)).toArray w := by
      rw [Array.mapM_eq_mapM_toList, Sem.run_map, h6, sizes_ok hall w]
      rfl
    have hp : (fun (i : Nat) => ((fs.map fun (f : Field) => (f.offset, szOf P f.type)).toArray)[i]?) = fun (i : Nat) => (fs[i]?).map fun (f : Field) => (f.offset, szOf P f.type) := by
      funext i
      simp
    simp only [Instr.build, Sem.run_bind, hz1, Result.andThen_ok, run_und h5, hm, hp, Array.toList_map]
    rw [h3]
    rfl
  · cases h2
/-! ### loads -/
theorem run_loadVar {b : Bool} {ad : Addr} {vs : List Value} {n : Nat} (ha : aggOf P t = some b) (hi : (P.info? t).isSome = true) (hn : n = if b then szOf P t else 1) (hl : vs.length = n) (hc : ∀ j u, vs[j]? = some u → w.cell? (ad.add j) = some u) :
    (loadVar t ad).run P w = .ok (if b then .agg vs.toArray else vs.headD undef) w := by
  cases b with
  | true =>
    simp only [if_true] at hn ⊢
    subst hn
    have := run_loadCells_list (P := P) w ad vs hc
    rw [hl] at this
    simp [loadVar, run_agg ha, run_size hi, this]
  | false =>
    simp only [Bool.false_eq_true, if_false] at hn ⊢
    subst hn
    cases vs with
    | nil => cases hl
    | cons v vs =>
      have h0 := hc 0 v rfl
      have : ad.add 0 = ad := by simp [Addr.add]
      rw [this] at h0
      simp [loadVar, run_agg ha, h0]
theorem exec_load {x : Operand} {ad : Addr} {v : Value} (hop : o.op = .load t x) (hx : a.eval x = .pointer (some ad)) (hl : (loadVar t ad).run P w = .ok v w) : (execOp a.eval o).run P w = .ok (.value v) w := by
  unfold execOp
  rw [hop]
  refine run_v ?_
  simp only [Instr.loadAt, hx, Instr.sureAddr, Sem.run_bind, Sem.run_pure, Result.andThen_ok]
  exact hl
theorem All2.mapL {α β γ : Type} {R : γ → β → Prop} {f : α → γ} : ∀ {l : List α} {m : List β}, All2 (fun x y => R (f x) y) l m → All2 R (l.map f) m
  | [], [], _ => trivial
  | _ :: _, _ :: _, h => ⟨h.1, All2.mapL h.2⟩
  | [], _ :: _, h => h.elim
  | _ :: _, [], h => h.elim
theorem All2.of_fun {α β : Type} {R : α → β → Prop} : ∀ {l : List α}, (∀ (i : Nat) (x : α), l[i]? = some x → ∃ u, R x u) → ∃ m, All2 R l m
  | [], _ => ⟨[], trivial⟩
  | x :: l, h => by
    obtain ⟨u, hu⟩ := h 0 x rfl
    obtain ⟨m, hm⟩ := All2.of_fun (l := l) fun i y hi => h (i + 1) y (by simpa using hi)
    exact ⟨u :: m, hu, hm⟩
/-- a stretch of an element's cells -/
theorem elem_cells {e : List T} {us : Nat → Value} {ad : Addr} {off n : Nat} (hle : off + n ≤ e.length) (h : ∀ (i : Nat) (t : T), e[off + i]? = some t → w.cell? (ad.add i) = some (us i) ∧ Rd w I (us i) t) :
    ∃ vs : List Value, vs.length = n ∧ All2 (RepAV w I β) (((e.drop off).take n).map .t) vs ∧ ∀ (j : Nat) (u : Value), vs[j]? = some u → w.cell? (ad.add j) = some u := by
  refine ⟨(List.range n).map us, by simp, All2.mapL (All2.of_get (by simp; omega) fun i t u ht hu => ?_), fun j u hj => ?_⟩
  · rw [List.getElem?_take] at ht
    split at ht
    · rename_i hin
      rw [List.getElem?_drop] at ht
      simp [hin] at hu
      subst hu
      exact (h i t ht).2
    · cases ht
  · have hjn := idx_lt hj
    simp at hjn
    simp [hjn] at hj
    subst hj
    exact (h j _ (List.getElem?_eq_getElem (show off + j < e.length by omega))).1
theorem load_ok {x : Operand} {y : Opd} {b : Bool} {n : Nat} (hop : o.op = .load t x) (ha : aggOf P t = some b) (hi : (P.info? t).isSome = true) (hn : n = if b then szOf P t else 1) (hc : opdOf P 0 x = some y)
    (hd : o.dst = some d) (hdN : d < G.N) (hr : R1 G β I g a w)
    (hv : ((Ins.load d b n y).rp S cl).val g = some (ws, ns)) (hK : Post G (applyW ws g) K) : o.wp P a w K Q := by
  simp only [Ins.rp] at hv
  obtain ⟨v, h1, h2⟩ := opd_ok hc hr hv
  split at h2
  · rename_i k m off
    obtain ⟨bb, hb, hx, _⟩ := h1
    obtain ⟨l, hl1, hl2, h3⟩ := rdCells_ok h2
    obtain ⟨z, hz, hz'⟩ := wrO_val h3
    obtain ⟨vs, hvs, hcell⟩ := cells_at hr hb hl2
    have := run_loadVar (P := P) (w := w) (ad := ⟨bb, off, none⟩) (vs := vs) ha hi hn (by rw [← hvs.len, hl1]) (fun j u hj => by rw [addr_add]; exact hcell j u hj)
    exact wp_put hr (exec_load hop hx this) hd hdN (mkV_ok hz hvs) (congrArg some hz'.symm) hK
  · rename_i k sz j off
    obtain ⟨bb, base, hb, hx⟩ := h1
    simp only [rdArr, RP.val] at h2
    split at h2
    · rename_i y hy
      split at h2
      · rename_i sz'' es
        split at h2
        · rename_i hsz
          subst hsz
          obtain ⟨e, he, h2⟩ := elem_ok h2
          · split at h2
            · rename_i hle
              obtain ⟨z, hz, hz'⟩ := wrO_val h2
              rcases hr.facts _ _ hy with ⟨h1, h1'⟩ | ⟨b', base', cs', e', fr', g1, g2, g3, g4⟩
              · rw [hb] at h1; cases h1
              · rw [hb] at g1
                injection g1 with g1
                injection g1 with g1 g1'
                subst g1 g1'
                have hel := g4.2 j e he
                obtain ⟨vs, hvl, hvs, hcell⟩ := elem_cells (w := w) (I := I) (β := β) (us := fun i => cs'.getD (base + j * sz'' + off + i) undef) (ad := ⟨bb, base + j * sz'' + off, none⟩) (off := off) (n := n) (e := e) (by rw [hel.1]; exact hle) (fun i t hit => by
                  obtain ⟨u, q1, q2⟩ := hel.2 _ t hit
                  rw [← Nat.add_assoc] at q1
                  rw [addr_add]
                  refine ⟨by simp [World.cell?, g2, Array.getD_eq_getD_getElem?, q1], ?_⟩
                  show Rd w I (cs'.getD (base + j * sz'' + off + i) undef) t
                  rw [Array.getD_eq_getD_getElem?, q1]
                  exact q2)
                have := run_loadVar (P := P) (w := w) (ad := ⟨bb, base + j * sz'' + off, none⟩) (vs := vs) ha hi hn hvl hcell
                exact wp_put hr (exec_load hop hx this) hd hdN (mkV_ok hz hvs) (congrArg some hz'.symm) hK
            · cases h2
        · cases h2
      · cases h2
    · cases h2
  · rename_i e off
    obtain ⟨bb, o', us, hx, hI, hus⟩ := h1
    split at h2
    · rename_i hle
      obtain ⟨z, hz, hz'⟩ := wrO_val h2
      obtain ⟨vs, hvl, hvs, hcell⟩ := elem_cells (w := w) (I := I) (β := β) (us := fun i => us (off + i)) (ad := ⟨bb, o' + off, none⟩) (off := off) (n := n) (e := e) hle (fun i t hit => by
        rw [addr_add, Nat.add_assoc]
        exact hus _ t hit)
      have := run_loadVar (P := P) (w := w) (ad := ⟨bb, o' + off, none⟩) (vs := vs) ha hi hn hvl hcell
      exact wp_put hr (exec_load hop hx this) hd hdN (mkV_ok hz hvs) (congrArg some hz'.symm) hK
    · cases h2
  · cases h2
end
end Go.Ev

namespace Go.Ev
section
variable {P : Program} {o : Oper} {G : Gh} {β : Beta} {I : Nat → Prop} {g : Facts} {a : Act} {w : World} {K : Act → World → Prop} {Q : Exit → Act → World → Prop} {S : Sum} {cl : CallFn} {ws : Ws} {ns : List Key} {d : Nat} {t : TypeId}
theorem All2.vals {R : T → Value → Prop} : ∀ {l : List T} {m : List Value}, All2 R l m → ∀ (i : Nat) (v : Value), m[i]? = some v → ∃ t, l[i]? = some t ∧ R t v := fun h i v hv => h.get' hv
/-- part of an element is written -/
theorem RowAt.part {cs : Array Value} {base sz j off : Nat} {es : List (List T)} {e ts : List T} {vs : List Value} (h : RowAt w I cs base sz es) (hj : es[j]? = some e) (hfit : off + ts.length ≤ sz) (hv : All2 (fun t v => Rd w I v t) ts vs) :
    RowAt w I (csplice cs (base + j * sz + off) vs) base sz (es.set j (Go.Ev.splice e off ts)) ∧ base + j * sz + off + vs.length ≤ cs.size := by
  have hlen := hv.len
  have hjl := idx_lt hj
  have hel := (h.2 j e hj).1
  have hh := h.1
  have hb : (j + 1) * sz ≤ es.length * sz := Nat.mul_le_mul_right sz hjl
  rw [Nat.add_mul] at hb
  have hfit' : base + j * sz + off + vs.length ≤ cs.size := by omega
  refine ⟨⟨by rw [csplice_size hfit', List.length_set]; exact hh, fun j' el hj' => ?_⟩, hfit'⟩
  rw [List.getElem?_set] at hj'
  split at hj'
  · rename_i hjj
    subst hjj
    injection hj' with hj'
    subst hj'
    have hsl := splice_length (l := e) (m := ts) (p := off) (by omega)
    refine ⟨hsl.trans hel, fun i t hi => ?_⟩
    rw [splice_get (by omega)] at hi
    rw [csplice_get hfit']
    split at hi
    · rename_i hr
      rw [if_pos (by omega)]
      obtain ⟨u, hu, hu'⟩ := hv.get _ _ hi
      refine ⟨u, ?_, hu'⟩
      rw [← hu]
      congr 1
      omega
    · rename_i hr
      rw [if_neg (by omega)]
      exact (h.2 j e hj).2 i t hi
  · rename_i hjj
    refine ⟨(h.2 j' el hj').1, fun i t hi => ?_⟩
    obtain ⟨u, h3, h4⟩ := (h.2 j' el hj').2 i t hi
    have hi' : i < sz := by rw [← (h.2 j' el hj').1]; exact idx_lt hi
    refine ⟨u, ?_, h4⟩
    rw [csplice_get hfit', if_neg ?_, h3]
    rcases Nat.lt_or_ge j' j with hlt | hge
    · have := mul_lt hlt hi'
      omega
    · have : (j + 1) * sz ≤ j' * sz := Nat.mul_le_mul_right sz (by omega)
      rw [Nat.add_mul] at this
      omega
theorem exec_store {x y : Operand} {ad : Addr} {w' : World} (hop : o.op = .store t x y) (hi : (P.info? t).isSome = true) (hx : a.eval x = .pointer (some ad)) (hn : (a.eval y).cells.size = szOf P t) (hs : (storeCells ad (a.eval y).cells.toList).run P w = .ok () w') :
    (execOp a.eval o).run P w = .ok .skip w' := by
  unfold execOp
  rw [hop]
  refine run_u ?_
  simp only [Instr.storeAt, hx, Instr.sureAddr, Sem.run_bind, Sem.run_pure, Result.andThen_ok, storeVar, run_size hi, hn, ne_eq, not_true_eq_false, if_false]
  exact hs
theorem put_none (a : Act) (v : Value) : a.put none v = a := rfl
theorem store_ok {x y : Operand} {x' y' : Opd} {n : Nat} (hop : o.op = .store t x y) (hi : (P.info? t).isSome = true) (hn : n = szOf P t) (hx : opdOf P 0 x = some x') (hy : opdOf P t y = some y') (hd : o.dst = none) (hr : R1 G β I g a w)
    (hv : ((Ins.store n x' y').rp S cl).val g = some (ws, ns)) (hK : Post G (applyW ws g) K) : o.wp P a w K Q := by
  simp only [Ins.rp] at hv
  obtain ⟨u, h1, h2⟩ := opd_ok hx hr hv
  obtain ⟨v, h3, h4⟩ := opd_ok hy hr h2
  split at h4
  · rename_i v
    split at h4
    · rename_i hlen
      have hcells := RepCV.cells (x := v) h3
      have hsz : (a.eval y).cells.size = szOf P t := by rw [← hn, ← hlen, hcells.len]; simp
      split at h4
      · rename_i k m off
        obtain ⟨b, hb, e1, _⟩ := h1
        obtain ⟨l, hl1, hl2, h5⟩ := rdCells_ok h4
        injection h5 with h5
        injection h5 with h5 _
        subst h5
        rcases Nat.eq_zero_or_pos n with hz | hpos
        · have hnil : v.cells = [] := List.eq_nil_of_length_eq_zero (by omega)
          have hnil' : (a.eval y).cells.toList = [] := List.eq_nil_of_length_eq_zero (by rw [Array.length_toList, hsz, ← hn]; exact hz)
          refine wp_skip_ (w' := w) (exec_store hop hi e1 hsz (by rw [hnil']; rfl)) ?_ hK
          rw [hd, hnil]
          exact ⟨β, I, hr⟩
        · have h0 := hl2 0 _ (List.getElem?_eq_getElem (show 0 < l.length by omega))
          obtain ⟨b', cs, e, fr, z, q1, q2, q3, q4, q5⟩ := hr.facts _ _ h0
          rw [hb] at q1
          injection q1 with q1
          injection q1 with q1 _
          subst q1
          have hfit : off + (a.eval y).cells.toList.length ≤ cs.size := by
            have hnl : n - 1 < l.length := by rw [hl1]; exact Nat.sub_lt hpos (by decide)
            have hlast := hl2 (n - 1) _ (List.getElem?_eq_getElem hnl)
            obtain ⟨b2, cs2, e2, fr2, z2, r1, r2, r3, r4, r5⟩ := hr.facts _ _ hlast
            rw [hb] at r1
            injection r1 with r1
            injection r1 with r1 _
            subst r1
            rw [q2] at r2
            injection r2 with r2
            injection r2 with r2 r2' r2''
            subst r2
            have := (Array.getElem?_eq_some_iff.1 r4).1
            simp only [Array.length_toList, hsz, ← hn]
            omega
          have hst := run_stores (P := P) b off e fr (a.eval y).cells.toList 0 cs w q2 q3 (by simpa using hfit) (fun z hz => by
            obtain ⟨_, _, h⟩ := hcells.memR z hz
            exact h.oneCell)
          refine wp_skip_ (exec_store hop hi e1 hsz hst) ?_ hK
          rw [hd]
          exact ⟨β, I, hr.writeC h0 hb q2 q3 hfit hcells⟩
      · rename_i k sz j off
        obtain ⟨b, base, hb, e1⟩ := h1
        obtain ⟨ts, w2, I2, h5, h6, h7, h8, h8'⟩ := (Giving.start hr).many hcells h4
        rw [List.nil_append] at h8
        simp only [rdArr, RP.val] at h5
        split at h5
        · rename_i z hz
          split at h5
          · rename_i sz'' es
            split at h5
            · rename_i hs
              subst hs
              obtain ⟨el, hel, h5⟩ := elem_ok h5
              · split at h5
                · rename_i hc
                  injection h5 with h5
                  injection h5 with h5 _
                  subst h5
                  have hkeep : applyW w2 g (.a k) = g (.a k) := h8'.get _ fun k' he y hy hyk => by
                    have := List.all_eq_true.1 hc.2 y hy
                    rw [hyk] at this
                    simp [Loc.eqb] at this
                  have hgk : applyW w2 g (.a k) = some (.arr sz'' es) := hkeep.trans hz
                  rcases h8.r.facts _ _ hgk with ⟨p1, _⟩ | ⟨b', base', cs, e, fr, q1, q2, q3, q4⟩
                  · rw [hb] at p1; cases p1
                  · rw [hb] at q1
                    injection q1 with q1
                    injection q1 with q1 q1'
                    subst q1 q1'
                    have hts : ts.length = n := by rw [h6.len]; simp [hsz, hn]
                    have hfit2 : off + ts.length ≤ sz'' := by rw [hts]; exact hc.1
                    obtain ⟨hp1, hp2⟩ := q4.part hel hfit2 h6
                    have hst := run_stores (P := P) b (base + j * sz'' + off) e fr (a.eval y).cells.toList 0 cs w q2 q3 (by simpa using hp2) (fun z hz => by
                      obtain ⟨_, _, h⟩ := hcells.memR z hz
                      exact h.oneCell)
                    refine wp_skip_ (exec_store hop hi e1 hsz hst) ?_ hK
                    rw [hd, applyW_append]
                    exact ⟨β, I2, h8.r.writeA hgk hb q2 q3 (csplice_size hp2) hp1⟩
                · cases h5
            · cases h5
          · cases h5
        · cases h5
      · cases h4
    · cases h4
  · cases h4
/-! ### slice literals -/
theorem zero_at {zero : Array Value} {n sz : Nat} {zs : List T} (hz : All2 (fun t v => Rd w I v t) zs zero.toList) (hs : zs.length = sz) : RowAt w I ((Array.range (n * sz)).map fun i => zero[i % zero.size]!) 0 sz (List.replicate n zs) := by
  have hzs : zero.size = sz := by rw [← hs, hz.len]; simp
  refine ⟨by simp, fun j el hj => ?_⟩
  have hjn := idx_lt hj
  simp at hjn
  simp [hjn] at hj
  subst hj
  refine ⟨hs, fun i t hi => ?_⟩
  obtain ⟨u, hu, hu'⟩ := hz.get i t hi
  have hi' : i < sz := by rw [← hs]; exact idx_lt hi
  have hlt := mul_lt hjn hi'
  refine ⟨u, ?_, hu'⟩
  rw [Nat.zero_add, Array.getElem?_map, Array.getElem?_range]
  simp only [hlt, if_true, Option.map_some]
  congr 1
  have hm : (j * sz + i) % zero.size = i := by rw [hzs, Nat.mul_comm, Nat.mul_add_mod, Nat.mod_eq_of_lt hi']
  rw [hm]
  simp at hu
  have := (Array.getElem?_eq_some_iff.1 hu)
  obtain ⟨q1, q2⟩ := this
  rw [getElem!_pos zero i q1]
  exact q2
theorem set_splice {α : Type} {l : List α} {j : Nat} {x : α} (h : j < l.length) : l.set j x = splice l j [x] := by
  unfold splice
  rw [List.set_eq_take_append_cons_drop, if_pos h]
  simp
theorem fillT_ok {sz : Nat} : ∀ {ps : List (Nat × Value)} {es r : List (List T)} {ts : List (List T)} {cs : Array Value}, RowAt w I cs 0 sz es → All2 (fun e (p : Nat × Value) => All2 (fun t u => Rd w I u t) e p.2.cells.toList) ts ps → fillT sz es ((ps.map (·.1)).zip ts) = some r →
    ∃ cs', Instr.fill (fun i => some (i * sz, sz)) cs ps = some cs' ∧ cs'.size = cs.size ∧ RowAt w I cs' 0 sz r
  | [], es, r, [], cs, h, _, hf => by
    injection hf with hf
    subst hf
    exact ⟨cs, rfl, rfl, h⟩
  | (j, v) :: ps, es, r, e :: ts, cs, h, hq, hf => by
    simp only [List.map_cons, List.zip_cons_cons, fillT] at hf
    split at hf
    · rename_i hc
      have hvl : v.cells.size = sz := by rw [← hc.1, hq.1.len]; simp
      have hb : (j + 1) * sz ≤ es.length * sz := Nat.mul_le_mul_right sz hc.2
      rw [Nat.add_mul] at hb
      have hh := h.1
      have hfit : j * sz + sz ≤ cs.size := by omega
      rw [instr_fill_cons rfl hvl hfit]
      have hrow : RowL w I v.cells.toList sz [e] := hc.1 ▸ RowL.one hq.1
      have h2 := h.splice (off := j) hrow (by have := hc.2; simp only [List.length_cons, List.length_nil]; omega)
      rw [← set_splice hc.2, Nat.zero_add] at h2
      obtain ⟨cs', h3, h4, h5⟩ := fillT_ok (cs := csplice cs (j * sz) v.cells.toList) h2 hq.2 hf
      exact ⟨cs', h3, h4.trans (csplice_size (by simp; omega)), h5⟩
    · cases hf
  | [], _, _, _ :: _, _, _, hq, _ => hq.elim
  | _ :: _, _, _, [], _, _, hq, _ => hq.elim
theorem partsE_ok {e : TypeId} : ∀ {ps : List (Nat × Operand)} {qs : List (Nat × Opd)} {α : Type} {k : List SV → RP α} {r : α}, partsE P e ps = some qs → R1 G β I g a w → (gets (qs.map (·.2)) k).val g = some r →
    qs.map (·.1) = ps.map (·.1) ∧ ∃ vs, All2 (RepSV w I β) vs (ps.map fun p => a.eval p.2) ∧ (k vs).val g = some r
  | [], qs, α, k, r, h, hr, hv => by
    injection h with h
    subst h
    exact ⟨rfl, [], trivial, hv⟩
  | (i, x) :: ps, qs, α, k, r, h, hr, hv => by
    simp only [partsE] at h
    split at h
    · rename_i y l h1 h2
      injection h with h
      subst h
      simp only [List.map_cons, gets] at hv
      obtain ⟨v, h3, h4⟩ := opd_ok h1 hr hv
      obtain ⟨h0, vs, h5, h6⟩ := partsE_ok h2 hr h4
      exact ⟨by simp [h0], v :: vs, ⟨h3, h5⟩, h6⟩
    · cases h
theorem row_put {I2 : Nat → Prop} (hr : R1 G β I2 g a w) (hk : Fresh g (kl d 0)) (hd9 : d < 9999) (hdN : d < G.N) {sz n c cap : Nat} {es : List (List T)} {cs : Array Value} {e : TypeId} {fr : Nat × Nat} (hf : okfr cs.size fr) (hrow : RowAt w I2 cs 0 sz es) (hsz : cap * sz ≤ cs.size) (hnc : n ≤ c) (hcc : c ≤ cap) (hm : cap ≤ maxLen) :
    R G (applyW [(.a (kl d 0), some (.arr sz es)), (.s d, some (.sv (.c (.one (.own (kl d 0) sz 0 n c)))))] g) (a.put (some d) (.slice (some ⟨w.heap.size, 0, none⟩) n cap)) (w.alloc (.cells cs e fr)) := by
  have h1 := hr.newA hk (notPinned hd9) (e := e) hrow hf
  refine ⟨_, _, h1.put hdN (x := .c (.one (.own (kl d 0) sz 0 n c))) ?_⟩
  exact .inr ⟨w.heap.size, 0, ⟨w.heap.size, 0, none⟩, cap, cs, e, fr, updB_same _ _ _, rfl, heap_alloc_new w _, .inl (by simp), by simpa using hsz, hnc, hcc, hm⟩
theorem Gone.fresh {ws : Ws} (h : Gone ws) {k : Key} (hk : Fresh g k) : Fresh (applyW ws g) k := fun l v hv => hk l v (h.sub l v hv)
theorem bsl_ok {e : TypeId} {n : Nat} {ps : Array (Nat × Operand)} {qs : List (Nat × Opd)} {zs : List T} (hop : o.op = .buildSlice t n ps) (he : elemOfT P t = some e) (hz : (zeroOf P e).bind toTs = some zs)
    (hlim : n * szOf P e ≤ 2 ^ 24) (hzl : zs.length = szOf P e) (hpos : 0 < szOf P e) (hq : partsE P e ps.toList = some qs)
    (hd : o.dst = some d) (hdN : d < G.N) (hd9 : d < 9999) (hr : R1 G β I g a w) (hN : ∀ k, k ∈ ns → Fresh g k)
    (hv : ((Ins.bsl d (szOf P e) n zs qs).rp S cl).val g = some (ws, ns)) (hK : Post G (applyW ws g) K) : o.wp P a w K Q := by
  rw [Option.bind_eq_some_iff] at hz
  obtain ⟨zl, hz0, hz00⟩ := hz
  obtain ⟨z, hz1, hz2⟩ := zeroOf_ok hz0
  have hi : (P.info? e).isSome = true := by
    unfold szOf at hpos
    split at hpos
    · rename_i h; rw [h]; rfl
    · exact absurd hpos (Nat.lt_irrefl 0)
  simp only [Ins.rp] at hv
  obtain ⟨h0, vs, h1, h2⟩ := partsE_ok hq hr hv
  obtain ⟨ts, w2, I2, h3, h4, h5, h6, h6'⟩ := (Giving.start hr).all2 h1 h2
  rw [List.nil_append] at h6
  split at h3
  · rename_i es hes
    injection h3 with h3
    injection h3 with h3 h3'
    subst h3 h3'
    have hk := hN (kl d 0) (by simp)
    have hzr : All2 (fun t v => Rd w I2 v t) zs z.cells.toList := toTs_ok hz00 (hz2 w I2 β)
    have hrow := zero_at (n := n) hzr hzl
    have h4' : All2 (fun e (p : Nat × Value) => All2 (fun t u => Rd w I2 u t) e p.2.cells.toList) ts (ps.toList.map fun p => (p.1, a.eval p.2)) := by
      refine All2.mapR (f := fun (p : Nat × Operand) => (p.1, a.eval p.2)) ?_
      have : ∀ {ts : List (List T)} {l : List (Nat × Operand)}, All2 (fun e v => All2 (fun t u => Rd w I2 u t) e v.cells.toList) ts (l.map fun p => a.eval p.2) → All2 (fun e (p : Nat × Operand) => All2 (fun t u => Rd w I2 u t) e (a.eval p.2).cells.toList) ts l := by
        intro ts l
        induction l generalizing ts with
        | nil => intro h; cases ts with
          | nil => trivial
          | cons => exact h.elim
        | cons p l ih => intro h; cases ts with
          | nil => exact h.elim
          | cons e ts => exact ⟨h.1, ih h.2⟩
      exact this h4
    have hzip : (qs.map (·.1)) = ((ps.toList.map fun p => (p.1, a.eval p.2)).map (·.1)) := by rw [h0]; simp
    rw [hzip] at hes
    obtain ⟨cs', h7, h8, h9⟩ := fillT_ok hrow h4' hes
    have hcs : cs'.size = n * szOf P e := by rw [h8]; simp
    have hn : n ≤ maxLen := by
      have : n * 1 ≤ n * szOf P e := Nat.mul_le_mul_left n hpos
      simp only [maxLen]
      omega
    refine wp_value (w' := w.alloc (.cells cs' e)) (v := .slice (some ⟨w.heap.size, 0, none⟩) n n) ?_ ?_ hK
    · unfold execOp
      rw [hop]
      refine run_v ?_
      simp only [Instr.buildSlice, Sem.run_bind, run_und (elemOfT_und he), Result.andThen_ok, run_size hi, Nat.not_lt.2 hlim, if_false, Array.toList_map]
      by_cases hc0 : n * szOf P e = 0
      · rw [if_pos hc0]
        have hr0 : (Array.map (fun (i : Nat) => (#[] : Array Value)[i % (#[] : Array Value).size]!) (Array.range (n * szOf P e))) = (Array.range (n * szOf P e)).map fun i => z.cells[i % z.cells.size]! := by rw [hc0]; simp
        simp only [Sem.run_bind, Sem.run_pure, Result.andThen_ok, hr0]
        rw [h7]
        rfl
      · rw [if_neg hc0]
        simp only [Sem.run_bind, hz1, Sem.run_pure, Result.andThen_ok]
        rw [h7]
        rfl
    · rw [hd, applyW_append]
      exact row_put h6.r (h6'.fresh hk) hd9 hdN (.inl rfl) h9 (by rw [hcs]; exact Nat.le_refl _) (Nat.le_refl _) (Nat.le_refl _) hn
  · cases h3
end
end Go.Ev

namespace Go.Ev
section
variable {P : Program} {o : Oper} {G : Gh} {β : Beta} {I : Nat → Prop} {g : Facts} {a : Act} {w : World} {K : Act → World → Prop} {Q : Exit → Act → World → Prop} {S : Sum} {cl : CallFn} {ws : Ws} {ns : List Key} {d : Nat} {t : TypeId}
theorem upd_self {g : Facts} {l : Loc} {v : Val} (h : g l = some v) : upd g l (some v) = g := by
  funext m
  unfold upd
  split
  · rename_i he; rw [he, h]
  · rfl
/-- what is told of a row of the call's own -/
theorem own_ok (hr : R1 G β I g a w) {k : Key} {sz off ln c : Nat} {v : Value} (h : RepAV w I β (.own k sz off ln c) v) {es : List (List T)} (hg : g (.a k) = some (.arr sz es)) (hfit : off + ln ≤ es.length) :
    (v = .slice none 0 0 ∧ β k = none ∧ off = 0 ∧ ln = 0 ∧ c = 0 ∧ es = []) ∨
      ∃ b base ad cap cs e fr, β k = some (b, base) ∧ v = .slice (some ad) ln cap ∧ w.heap[b]? = some (.cells cs e fr) ∧ okfr cs.size fr ∧ RowAt w I cs base sz es ∧ (ad = ⟨b, base + off * sz, none⟩ ∨ cap = 0) ∧ base + (off + cap) * sz ≤ cs.size ∧ ln ≤ c ∧ c ≤ cap ∧ cap ≤ maxLen := by
  have hf := hr.facts _ _ hg
  rcases h with ⟨hk, rfl, rfl, rfl, rfl⟩ | ⟨b, base, ad, cap, cs, e, fr, hk, rfl, hheap, had, hsz, hlc, hcc, hmax⟩
  · rcases hf with ⟨_, rfl⟩ | ⟨b', base', cs', e', fr', h1, _⟩
    · exact .inl ⟨rfl, hk, rfl, rfl, rfl, rfl⟩
    · rw [hk] at h1; cases h1
  · rcases hf with ⟨h1, _⟩ | ⟨b', base', cs', e', fr', h1, h2, h3, h4⟩
    · rw [hk] at h1; cases h1
    · rw [hk] at h1
      injection h1 with h1
      injection h1 with h1 h1'
      subst h1 h1'
      rw [hheap] at h2
      injection h2 with h2
      injection h2 with h2 h2' h2''
      subst h2 h2' h2''
      exact .inr ⟨b, base, ad, cap, cs, e, fr, hk, rfl, hheap, h3, h4, had, hsz, hlc, hcc, hmax⟩
theorem rdArr_ok {k : Key} {sz : Nat} {α : Type} {c : List (List T) → RP α} {r : α} (h : (rdArr k sz c).val g = some r) : ∃ es, g (.a k) = some (.arr sz es) ∧ (c es).val g = some r := by
  simp only [rdArr, RP.val] at h
  split at h
  · rename_i x hx
    split at h
    · rename_i sz' es
      split at h
      · rename_i hs
        subst hs
        exact ⟨es, hx, h⟩
      · cases h
    · cases h
  · cases h
theorem zeroCells_row {zero : Array Value} {n sz : Nat} {zs : List T} (hz : All2 (fun t v => Rd w I v t) zs zero.toList) (hs : zs.length = sz) : RowL w I (Builtin.zeroCells zero n).toList sz (List.replicate n zs) := by
  have h := zero_at (n := n) hz hs
  have hzs : zero.size = sz := by rw [← hs, hz.len]; simp
  have hl := h.list
  have he : (Builtin.zeroCells zero n) = (Array.range (n * sz)).map fun i => zero[i % zero.size]! := by rw [Builtin.zeroCells, hzs]
  rw [he]
  have : (List.drop 0 ((Array.range (n * sz)).map fun i => zero[i % zero.size]!).toList).take ((List.replicate n zs).length * sz) = ((Array.range (n * sz)).map fun i => zero[i % zero.size]!).toList := by
    rw [List.drop_zero, List.take_of_length_le]
    simp
  rw [this] at hl
  exact hl
theorem stored_row (hr : R1 G β I g a w) {k : Key} {sz b base off : Nat} {es ys : List (List T)} {vs : List Value} {cs : Array Value} {e : TypeId} {fr : Nat × Nat} {ad : Addr} {cap : Nat} (hg : g (.a k) = some (.arr sz es)) (hb : β k = some (b, base)) (hh : w.heap[b]? = some (.cells cs e fr)) (hf : okfr cs.size fr)
    (hrow : RowAt w I cs base sz es) (hy : RowL w I vs sz ys) (hl : off + ys.length ≤ es.length) (had : ad = ⟨b, base + off * sz, none⟩ ∨ cap = 0) (hcap : ys.length ≤ cap) :
    ∃ w', (storeCells ad vs).run P w = .ok () w' ∧ R1 G β I (upd g (.a k) (some (.arr sz (splice es off ys)))) a w' ∧ Grow w w' (· = b) ∧ w'.heap[b]? = some (.cells (csplice cs (base + off * sz) vs) e fr) ∧ (csplice cs (base + off * sz) vs).size = cs.size := by
  have h1 := hrow.splice hy hl
  have h2 := Nat.mul_le_mul_right sz hl
  rw [Nat.add_mul] at h2
  have h3 := hrow.1
  have hfit : base + off * sz + vs.length ≤ cs.size := by rw [hy.2.1]; omega
  have hst := run_stores (P := P) b (base + off * sz) e fr vs 0 cs w hh hf (by simpa using hfit) hy.2.2
  have hs := csplice_size hfit
  have hw := hr.writeA hg hb hh hf hs h1
  have hheap := setRow_heap w b cs (csplice cs (base + off * sz) vs) e fr hh
  refine ⟨_, ?_, hw, Grow.setRow hh hs, hheap, hs⟩
  rcases had with rfl | hc
  · exact hst
  · have : ys = [] := List.eq_nil_of_length_eq_zero (by omega)
    subst this
    have : vs = [] := List.eq_nil_of_length_eq_zero (by rw [hy.2.1]; simp)
    subst this
    have : csplice cs (base + off * sz) [] = cs := by simp [csplice]
    rw [this, setRow_self w b cs e fr hh]
    rfl
theorem clr_run {e : TypeId} {x : Operand} {y : Opd} {d? : Option Nat} {zs : List T} (hu : P.underlying t = some (.slice e)) (hz : (zeroOf P e).bind toTs = some zs) (hzl : zs.length = szOf P e) (hc : opdOf P t x = some y) (hr : R1 G β I g a w)
    (hv : ((Ins.clr d? (szOf P e) zs y).rp S cl).val g = some (ws, ns)) : ∃ w' g', (Builtin.clear_ #[t] 0 #[a.eval x]).run P w = .ok (.tuple #[]) w' ∧ R1 G β I g' a w' ∧ applyW ws g = applyW (dstW d?) g' := by
  rw [Option.bind_eq_some_iff] at hz
  obtain ⟨zl, hz0, hz00⟩ := hz
  obtain ⟨z, hz1, hz2⟩ := zeroOf_ok hz0
  simp only [Ins.rp] at hv
  obtain ⟨u, h1, h2⟩ := opd_ok hc hr hv
  split at h2
  · injection h2 with h2
    injection h2 with h2 _
    subst h2
    have e1 : a.eval x = .slice none 0 0 := h1
    refine ⟨w, g, ?_, hr, rfl⟩
    simp [Builtin.clear_, run_und hu, e1]
  · rename_i k sz' off ln c
    split at h2
    · rename_i hsz
      subst hsz
      obtain ⟨es, hg, h3⟩ := rdArr_ok h2
      · obtain ⟨hfit, h3⟩ := need_ok h3
        injection h3 with h3
        injection h3 with h3 _
        subst h3
        rcases own_ok hr h1 hg hfit with ⟨e1, hk, rfl, rfl, rfl, rfl⟩ | ⟨b, base, ad, cap, cs, e', fr, hk, e1, hh, hf, hrow, had, hsz, hlc, hcc, hmax⟩
        · refine ⟨w, g, by simp [Builtin.clear_, run_und hu, e1], hr, ?_⟩
          simp only [applyW]
          rw [upd_self (by simpa [splice] using hg)]
        · have hzr : All2 (fun t v => Rd w I v t) zs z.cells.toList := toTs_ok hz00 (hz2 w I β)
          obtain ⟨w', h4, h5, _⟩ := stored_row (P := P) hr hg hk hh hf hrow (zeroCells_row (n := ln) hzr hzl) (off := off) (by simpa using hfit) had (by simp; omega)
          refine ⟨w', _, ?_, h5, rfl⟩
          cases ln with
          | zero =>
            have hnil : (Builtin.zeroCells z.cells 0).toList = [] := by simp [Builtin.zeroCells]
            rw [hnil] at h4
            have : w' = w := by
              simp [storeCells] at h4
              exact h4.symm
            subst this
            simp [Builtin.clear_, run_und hu, e1]
          | succ ln =>
            simp [Builtin.clear_, run_und hu, e1, hz1, h4]
    · cases h2
  · cases h2
theorem clr_ok {e : TypeId} {x : Operand} {y : Opd} {c : Call} {d? : Option Nat} {zs : List T} (hop : o.op = .call c) (hcal : c.callee = .builtin .clear) (hts : c.argTypes.toList = [t]) (hxs : c.args.toList = [x]) (hu : P.underlying t = some (.slice e)) (hz : (zeroOf P e).bind toTs = some zs) (hzl : zs.length = szOf P e) (hc : opdOf P t x = some y)
    (hd : o.dst = d?) (hdN : ∀ d, d? = some d → d < G.N) (hr : R1 G β I g a w)
    (hv : ((Ins.clr d? (szOf P e) zs y).rp S cl).val g = some (ws, ns)) (hK : Post G (applyW ws g) K) : o.wp P a w K Q := by
  obtain ⟨w', g', h1, h2, h3⟩ := clr_run hu hz hzl hc hr hv
  obtain ⟨consts, he⟩ := run_built (a := a) hop hcal
  have hx : c.args = #[x] := by rw [← Array.toList_inj, hxs]
  have ht' : c.argTypes = #[t] := by rw [← Array.toList_inj, hts]
  rw [hx, ht'] at he
  refine wp_value (w' := w') (v := .tuple #[]) ?_ ?_ hK
  · rw [he]
    refine run_v (s := Builtin.clear_ #[t] o.type (#[x].map a.eval)) ?_
    have : #[x].map a.eval = #[a.eval x] := by simp
    rw [this]
    exact h1
  · rw [h3, hd]
    cases d? with
    | none => exact ⟨β, I, h2⟩
    | some d => exact ⟨β, I, h2.put (hdN d rfl) (x := .tup []) ⟨[], rfl, trivial⟩⟩
theorem cpy_ok {e u : TypeId} {x y : Operand} {x' y' : Opd} {c : Call} (hop : o.op = .call c) (hcal : c.callee = .builtin .copy) (hts : c.argTypes.toList = [t, u]) (hxs : c.args.toList = [x, y]) (hu : P.underlying t = some (.slice e)) (hpos : 0 < szOf P e)
    (hx : opdOf P t x = some x') (hy : opdOf P u y = some y') (hd : o.dst = some d) (hdN : d < G.N) (hr : R1 G β I g a w)
    (hv : ((Ins.cpy d (szOf P e) x' y').rp S cl).val g = some (ws, ns)) (hK : Post G (applyW ws g) K) : o.wp P a w K Q := by
  have hi : (P.info? e).isSome = true := by
    unfold szOf at hpos
    split at hpos
    · rename_i h; rw [h]; rfl
    · exact absurd hpos (Nat.lt_irrefl 0)
  simp only [Ins.rp] at hv
  obtain ⟨p, h1, h2⟩ := opd_ok hx hr hv
  obtain ⟨q, h3, h4⟩ := opd_ok hy hr h2
  obtain ⟨ys, vs, h5, hrl, hsrc⟩ := elemsOf_ok (P := P) hr h3 h4
  split at h5
  · rename_i k sz' off ln c'
    split at h5
    · rename_i hsz0
      subst hsz0
      obtain ⟨es, hg, h6⟩ := rdArr_ok h5
      obtain ⟨hfit, h6⟩ := need_ok h6
      · injection h6 with h6
        injection h6 with h6 _
        rw [← h6] at hK
        obtain ⟨consts, he⟩ := run_built (a := a) hop hcal
        have hx : c.args = #[x, y] := by rw [← Array.toList_inj, hxs]
        have ht' : c.argTypes = #[t, u] := by rw [← Array.toList_inj, hts]
        rw [hx, ht'] at he
        have hmin : Nat.min ys.length ln = (ys.take ln).length := by rw [List.length_take]; exact Nat.min_comm _ _
        have hfirst := hsrc.first w rfl (Nat.min ys.length ln) (Nat.min_le_left _ _)
        have hrl' := hrl.take (Nat.min ys.length ln) (Nat.min_le_left _ _)
        have htk : ys.take (Nat.min ys.length ln) = ys.take ln := by rw [List.take_eq_take_iff]; show min (min ys.length ln) ys.length = _; omega
        rw [htk] at hrl'
        have hmm : ((Nat.min ys.length ln : Nat) : Int) = ((min ys.length ln : Nat) : Int) := rfl
        have fin : ∀ w', (Builtin.copy_ #[t, u] o.type #[a.eval x, a.eval y]).run P w = .ok (goInt (Nat.min ys.length ln)) w' → R1 G β I (upd g (.a k) (some (.arr (szOf P e) (splice es off (ys.take ln))))) a w' → o.wp P a w K Q := by
          intro w' hrun hR
          refine wp_value (w' := w') (v := .int .i64 (Nat.min ys.length ln)) ?_ ?_ hK
          · rw [he]
            refine run_v (s := Builtin.copy_ #[t, u] o.type (#[x, y].map a.eval)) ?_
            have : #[x, y].map a.eval = #[a.eval x, a.eval y] := by simp
            rw [this]
            exact hrun
          · rw [hd]
            exact ⟨β, I, hR.put hdN (x := .c (.one (.t (.int .i64 (min ys.length ln : Nat))))) (Rd.int _ _)⟩
        rcases own_ok hr h1 hg hfit with ⟨e1, hk, rfl, rfl, rfl, rfl⟩ | ⟨b, base, ad, cap, cs, e', fr, hk, e1, hh, hf, hrow, had, hsz2, hlc, hcc, hmax⟩
        · refine fin w ?_ ?_
          · have h0 : Nat.min ys.length 0 = 0 := Nat.min_zero _
            rw [h0] at hfirst ⊢
            simp only [Builtin.copy_, List.getElem?_toArray, List.getElem?_cons_zero, List.getElem?_cons_succ, Sem.run_bind, run_und hu, Result.andThen_ok, e1, hsrc.len, run_size hi, h0, hfirst, Sem.run_pure]
          · have : splice ([] : List (List T)) 0 (ys.take 0) = [] := by simp [splice]
            rw [this, upd_self hg]
            exact hr
        · obtain ⟨w', h7, h8, _⟩ := stored_row (P := P) hr hg hk hh hf hrow hrl' (off := off) (by simp; omega) had (by simp; omega)
          refine fin w' ?_ h8
          simp only [Builtin.copy_, List.getElem?_toArray, List.getElem?_cons_zero, List.getElem?_cons_succ, Sem.run_bind, run_und hu, Result.andThen_ok, e1, hsrc.len, run_size hi, hfirst, h7, Sem.run_pure]
    · cases h5
  · cases h5
end
end Go.Ev

namespace Go.Ev
section
variable {P : Program} {o : Oper} {G : Gh} {β : Beta} {I : Nat → Prop} {g : Facts} {a : Act} {w : World} {K : Act → World → Prop} {Q : Exit → Act → World → Prop} {S : Sum} {cl : CallFn} {ws : Ws} {ns : List Key} {d : Nat} {t : TypeId}
theorem isSome_of_sz {e : TypeId} (hpos : 0 < szOf P e) : ∃ i, P.info? e = some i ∧ i.size = szOf P e ∧ i.bytes = byOf P e := by
  unfold szOf at hpos ⊢
  unfold byOf
  split at hpos
  · rename_i i h; exact ⟨i, h, rfl, rfl⟩
  · exact absurd hpos (Nat.lt_irrefl 0)
def notInt (P : Program) (u : TypeId) : Prop := ∃ dd, P.underlying u = some dd ∧ ∀ k, dd ≠ .int k
theorem append_fit {e u ty : TypeId} {x y : Value} {base : Option Addr} {sLen sCap n : Nat} {vs : List Value} {w' : World} (hu : P.underlying t = some (.slice e)) (hpos : 0 < szOf P e) (hn : notInt P u) (hx : x = .slice base sLen sCap) (hs : Src P w y (szOf P e) n vs) (hvs : vs.length = n * szOf P e) (hc : sLen + n ≤ sCap)
    (hst : match base with | some ad => (storeCells (ad.add (sLen * szOf P e)) vs).run P w = .ok () w' | none => w' = w) : (Builtin.append_ #[t, u] ty #[x, y]).run P w = .ok (.slice base (sLen + n) sCap) w' := by
  obtain ⟨i, hi, hsz, hby⟩ := isSome_of_sz hpos
  obtain ⟨dd, hd1, hd2⟩ := hn
  have hz : (match dd with | .int _ => true | _ => false) = false := by cases dd <;> simp at hd2 ⊢
  have hfirst := hs.first w rfl n (Nat.le_refl _)
  rw [List.take_of_length_le (by omega)] at hfirst
  have hlen := hs.len
  subst hx
  cases base with
  | none =>
    subst hst
    simp only [Builtin.append_, List.getElem?_toArray, List.getElem?_cons_zero, List.getElem?_cons_succ, Sem.run_bind, run_und hu, Result.andThen_ok, sizeOf, typeInfo, run_program, hi, hsz, run_und hd1, Sem.run_pure, hz, Bool.false_eq_true, if_false, hlen, hc, if_true, Bool.not_false, hfirst]
  | some ad =>
    simp only [Builtin.append_, List.getElem?_toArray, List.getElem?_cons_zero, List.getElem?_cons_succ, Sem.run_bind, run_und hu, Result.andThen_ok, sizeOf, typeInfo, run_program, hi, hsz, run_und hd1, Sem.run_pure, hz, Bool.false_eq_true, if_false, hlen, hc, if_true, Bool.not_false, hfirst, hst]
theorem append_grow {e u ty : TypeId} {x y z : Value} {base : Option Addr} {sLen sCap n : Nat} {vs us : List Value} (hu : P.underlying t = some (.slice e)) (hpos : 0 < szOf P e) (hby0 : 0 < byOf P e) (hn : notInt P u) (hx : x = .slice base sLen sCap) (hs : Src P w y (szOf P e) n vs) (hvs : vs.length = n * szOf P e) (hc : ¬ sLen + n ≤ sCap)
    (hz : ∀ w, (zeroValue e).run P w = .ok z w) (hlim : (sLen + n) * byOf P e ≤ 140737488355328) (hold : ∀ w', w'.heap = w.heap → (Builtin.firstCells (szOf P e) sLen x).run P w' = .ok us.toArray w') :
    (Builtin.append_ #[t, u] ty #[x, y]).run P w = .ok (.slice (some ⟨w.heap.size, 0, none⟩) (sLen + n) (grownCap w (sLen + n) sCap e)) (w.drew.alloc (.cells (us.toArray ++ vs.toArray ++ Builtin.zeroCells z.cells (grownCap w (sLen + n) sCap e - (sLen + n))) e)) := by
  obtain ⟨i, hi, hsz, hby⟩ := isSome_of_sz hpos
  obtain ⟨dd, hd1, hd2⟩ := hn
  have hz' : (match dd with | .int _ => true | _ => false) = false := by cases dd <;> simp at hd2 ⊢
  have hlen := hs.len
  have hcap : Builtin.nextslicecap (sLen + n) sCap * byOf P e ≤ 2 ^ 48 := by
    have h1 := nextslicecap_le (need := sLen + n) (old := sCap) (by omega)
    have h2 := Nat.mul_le_mul_right (byOf P e) h1
    rw [Nat.mul_assoc] at h2
    omega
  have hold' := hold w.drew rfl
  have hnew' := hs.first w.drew rfl n (Nat.le_refl _)
  rw [List.take_of_length_le (by omega)] at hnew'
  have hq : (Question.appendCap (sLen + n) sCap e).forced = false := rfl
  have hcap' : ¬ (Builtin.nextslicecap (sLen + n) sCap * byOf P e > 2 ^ 48) := by omega
  have hb0 : ¬ (byOf P e = 0) := by omega
  subst hx
  simp only [Builtin.append_, List.getElem?_toArray, List.getElem?_cons_zero, List.getElem?_cons_succ, Sem.run_bind, run_und hu, Result.andThen_ok, sizeOf, typeInfo, run_program, hi, hsz, hby, run_und hd1, Sem.run_pure, hz', Bool.false_eq_true, if_false, hlen, hc, Bool.not_false, if_true, false_or, hb0, and_false, hcap', run_choose, hq, run_askRoom]
  simp only [newRow, Sem.run_bind, run_newObj, Result.andThen_ok, Sem.run_pure]
  have hold2 : (Builtin.firstCells (szOf P e) sLen (.slice base sLen sCap)).run P { w with drawn := w.drawn + 1 } = _ := hold'
  have hnew2 : (Builtin.firstCells (szOf P e) n y).run P { w with drawn := w.drawn + 1 } = _ := hnew'
  rw [hold2]
  simp only [Result.andThen_ok]
  rw [show w.drew = { w with drawn := w.drawn + 1 } from rfl, hnew2]
  simp only [Result.andThen_ok, hz]
  rfl
theorem RowAt.extend {cs : Array Value} {base sz : Nat} {es ys : List (List T)} {vs : List Value} (h : RowAt w I cs base sz es) (hy : RowL w I vs sz ys) (hl : base + (es.length + ys.length) * sz ≤ cs.size) : RowAt w I (csplice cs (base + es.length * sz) vs) base sz (es ++ ys) := by
  have hvl := hy.2.1
  rw [Nat.add_mul] at hl
  have hfit : base + es.length * sz + vs.length ≤ cs.size := by omega
  refine ⟨by rw [csplice_size hfit, List.length_append, Nat.add_mul]; omega, fun j el hj => ?_⟩
  rw [List.getElem?_append] at hj
  split at hj
  · rename_i hjl
    refine ⟨(h.2 _ el hj).1, fun i t hi => ?_⟩
    obtain ⟨u, h3, h4⟩ := (h.2 _ el hj).2 i t hi
    have hi' : i < sz := by rw [← (h.2 _ el hj).1]; exact idx_lt hi
    have := mul_lt hjl hi'
    exact ⟨u, by rw [csplice_get hfit, if_neg (by omega)]; exact h3, h4⟩
  · rename_i hjl
    refine ⟨(hy.1.2 _ el hj).1, fun i t hi => ?_⟩
    obtain ⟨u, h3, h4⟩ := (hy.1.2 _ el hj).2 i t hi
    have hi' : i < sz := by rw [← (hy.1.2 _ el hj).1]; exact idx_lt hi
    have hb := mul_lt (idx_lt hj) hi'
    have hjj : j * sz = es.length * sz + (j - es.length) * sz := by rw [← Nat.add_mul]; congr 1; omega
    refine ⟨u, ?_, h4⟩
    rw [csplice_get hfit, if_pos (by omega)]
    rw [List.getElem?_toArray] at h3
    rw [← h3]
    congr 1
    omega
theorem own_src (hr : R1 G β I g a w) {k : Key} {sz off ln c : Nat} {v : Value} (h : RepAV w I β (.own k sz off ln c) v) {es : List (List T)} (hg : g (.a k) = some (.arr sz es)) (hfit : off + ln ≤ es.length) :
    ∃ us, RowL w I us sz ((es.drop off).take ln) ∧ Src P w v sz ((es.drop off).take ln).length us := by
  have hv : (elemsOf sz (.c (.one (.own k sz off ln c))) (fun es => RP.ret es)).val g = some ((es.drop off).take ln) := by
    simp [elemsOf, rdArr, RP.val, need, hg, hfit]
  obtain ⟨es', us, h1, h2, h3⟩ := elemsOf_ok (P := P) (y := .c (.one (.own k sz off ln c))) hr h hv
  injection h1 with h1
  subst h1
  exact ⟨us, h2, h3⟩
/-- what is left by an append that makes a new row -/
theorem grown_put (hr : R1 G β I g a w) (hk : Fresh g (kl d 0)) (hd9 : d < 9999) (hdN : d < G.N) {e : TypeId} {sz sCap : Nat} {es ys : List (List T)} {us vs : List Value} {rest : Array Value} (h1 : RowL w I us sz es) (h2 : RowL w I vs sz ys)
    (hm : es.length + ys.length ≤ maxLen) (hrest : rest.size = (grownCap w (es.length + ys.length) sCap e - (es.length + ys.length)) * sz) :
    R G (applyW [(.a (kl d 0), some (.arr sz (es ++ ys))), (.s d, some (.sv (.c (.one (.own (kl d 0) sz 0 (es.length + ys.length) (es.length + ys.length))))))] g) (a.put (some d) (.slice (some ⟨w.heap.size, 0, none⟩) (es.length + ys.length) (grownCap w (es.length + ys.length) sCap e))) (w.drew.alloc (.cells (us.toArray ++ vs.toArray ++ rest) e)) := by
  have hge := grownCap_ge w (es.length + ys.length) sCap e
  have hle := grownCap_le_maxLen w (es.length + ys.length) sCap e hm
  have hrow := (h1.append h2).at (rest := rest.toList)
  have he : (us ++ vs ++ rest.toList).toArray = us.toArray ++ vs.toArray ++ rest := by
    apply Array.ext'
    simp
  rw [he] at hrow
  have hrow' := hrow.grow (Grow.drew w (fun _ => False)) (fun _ _ => id) hr.lt fun _ h => h
  have hsz : grownCap w (es.length + ys.length) sCap e * sz ≤ (us.toArray ++ vs.toArray ++ rest).size := by
    simp only [Array.size_append, List.size_toArray, h1.2.1, h2.2.1, hrest]
    rw [← Nat.add_mul, ← Nat.add_mul]
    exact Nat.mul_le_mul_right sz (by omega)
  exact row_put hr.drew hk hd9 hdN (.inl rfl) hrow' hsz (Nat.le_refl _) hge hle
theorem app_ok {e u : TypeId} {x y : Operand} {x' y' : Opd} {c : Call} {zs : List AV} (hop : o.op = .call c) (hcal : c.callee = .builtin .append) (hts : c.argTypes.toList = [t, u]) (hxs : c.args.toList = [x, y]) (hu : P.underlying t = some (.slice e)) (hpos : 0 < szOf P e) (hby0 : 0 < byOf P e)
    (hz : zeroOf P e = some zs) (hzl : zs.length = szOf P e) (hn : notInt P u)
    (hx : opdOf P t x = some x') (hy : opdOf P u y = some y') (hd : o.dst = some d) (hdN : d < G.N) (hd9 : d < 9999) (hr : R1 G β I g a w) (hN : ∀ k, k ∈ ns → Fresh g k)
    (hv : ((Ins.app d (szOf P e) (byOf P e) x' y').rp S cl).val g = some (ws, ns)) (hK : Post G (applyW ws g) K) : o.wp P a w K Q := by
  obtain ⟨z, hz1, hz2⟩ := zeroOf_ok hz
  have hzsz : z.cells.size = szOf P e := by rw [← hzl, (hz2 w I β).len]; simp
  have hzc : ∀ m, (Builtin.zeroCells z.cells m).size = m * szOf P e := fun m => by rw [size_zeroCells, hzsz]
  obtain ⟨consts, he⟩ := run_built (a := a) hop hcal
  have hxa : c.args = #[x, y] := by rw [← Array.toList_inj, hxs]
  have hta : c.argTypes = #[t, u] := by rw [← Array.toList_inj, hts]
  rw [hxa, hta] at he
  have fin : ∀ {v : Value} {w' : World}, (Builtin.append_ #[t, u] o.type #[a.eval x, a.eval y]).run P w = .ok v w' → R G (applyW ws g) (a.put (some d) v) w' → o.wp P a w K Q := by
    intro v w' hrun hR
    refine wp_value (w' := w') (v := v) ?_ (by rw [hd]; exact hR) hK
    rw [he]
    refine run_v (s := Builtin.append_ #[t, u] o.type (#[x, y].map a.eval)) ?_
    have : #[x, y].map a.eval = #[a.eval x, a.eval y] := by simp
    rw [this]
    exact hrun
  simp only [Ins.rp] at hv
  obtain ⟨p, h1, h2⟩ := opd_ok hx hr hv
  obtain ⟨q, h3, h4⟩ := opd_ok hy hr h2
  obtain ⟨ys, vs, h5, hrl, hsrc⟩ := elemsOf_ok (P := P) hr h3 h4
  clear hv h2 h4
  split at h5
  · obtain ⟨hlim, h5⟩ := need_ok h5
    · injection h5 with h5
      injection h5 with h5 h5'
      have hk := hN (kl d 0) (by rw [← h5']; simp)
      rw [← h5] at fin
      have e1 : a.eval x = .slice none 0 0 := h1
      by_cases hy0 : ys = []
      · subst hy0
        refine fin (append_fit hu hpos hn e1 hsrc hrl.2.1 (Nat.le_refl _) (w' := w) rfl) ?_
        have h6 := hr.rebeta hk (notPinned hd9) none
        have h7 := h6.fact (l := .a (kl d 0)) (v := .arr (szOf P e) []) (.inl ⟨updB_same _ _ _, rfl⟩) (fun k hk' => .inr fun b base hb => by
          have : k = kl d 0 := by simpa [Loc.keys] using hk'
          rw [this, updB_same] at hb
          cases hb) (fun _ _ h => by cases h) (fun k h i => by injection h with h; rw [← h]; exact hk.noC i)
        exact ⟨_, _, h7.put hdN (x := .c (.one (.own (kl d 0) (szOf P e) 0 0 0))) (.inl ⟨updB_same _ _ _, rfl, rfl, rfl, rfl⟩)⟩
      · have hpos' : 0 < ys.length := List.length_pos_iff.2 hy0
        refine fin (append_grow hu hpos hby0 hn e1 hsrc hrl.2.1 (by omega) hz1 (by simpa [lim] using hlim.1) (us := []) (fun w' _ => by simp [e1, Builtin.firstCells])) ?_
        have := grown_put (e := e) (sCap := 0) (es := []) (us := []) hr hk hd9 hdN RowL.nil hrl (by have := hlim.2; simp only [maxN] at this; simp only [maxLen, List.length_nil]; omega) (hzc _)
        simpa using this
  · rename_i k sz' off ln c'
    split at h5
    · rename_i hsz0
      subst hsz0
      obtain ⟨es, hg, h6⟩ := rdArr_ok h5
      obtain ⟨hfit, h6⟩ := need_ok h6
      · rw [br_val] at h6
        obtain ⟨us, hus, husrc⟩ := own_src (P := P) hr h1 hg hfit
        have hseg : (es.take (off + ln)).drop off = (es.drop off).take ln := by rw [List.drop_take]; congr 1; omega
        have hsl : ((es.drop off).take ln).length = ln := by simp; omega
        have hgone : ∀ k', k' ≠ k → Live (upd g (.a k) none) k' → Live g k' := fun k' _ h => h.upd_none
        have hnew : (appNew k d (szOf P e) off ln (byOf P e) es ys).val g = some (ws, ns) → o.wp P a w K Q := by
          intro h6
          unfold appNew at h6
          obtain ⟨hlim, h6⟩ := need_ok h6
          · injection h6 with h6
            injection h6 with h6 h6'
            have hk0 := hN (kl d 0) (by rw [← h6']; simp)
            have hkk : k ≠ kl d 0 := by
              rintro rfl
              exact (hk0 _ _ hg).1 (by simp [Loc.keys])
            rw [← h6, hseg] at fin
            have hf0 : Fresh (upd g (.a k) none) (kl d 0) := fun l v hv => hk0 l v (upd_sub hv)
            by_cases hreal : ∃ ad cap, a.eval x = .slice ad ln cap ∧ ln + ys.length ≤ cap
            · rcases own_ok hr h1 hg hfit with ⟨e1, hk, rfl, rfl, rfl, rfl⟩ | ⟨b, base, ad, cap, cs, e', fr, hk, e1, hh, hf, hrow, had, hsz2, hlc, hcc, hmax⟩
              · obtain ⟨ad, cap, e2, hcap2⟩ := hreal
                rw [e1] at e2
                injection e2 with _ _ e2
                have hy0 : ys = [] := List.eq_nil_of_length_eq_zero (by omega)
                subst hy0
                refine fin (append_fit hu hpos hn e1 hsrc hrl.2.1 (Nat.le_refl _) (w' := w) rfl) ?_
                have q2 := (hr.forget (.a k)).rebeta hf0 (notPinned hd9) none
                have q3 := q2.fact (l := .a (kl d 0)) (v := .arr (szOf P e) (([] : List (List T)).drop 0 |>.take 0 |>.append [])) (.inl ⟨updB_same _ _ _, rfl⟩) (fun k' hk' => .inr fun b' base' hb' => by
                  have hkk' : k' = kl d 0 := by simpa [Loc.keys] using hk'
                  subst hkk'
                  rw [updB_same] at hb'
                  cases hb') (fun _ _ h => by cases h) (fun k2 h i => by injection h with h; rw [← h]; exact hf0.noC i)
                exact ⟨_, _, q3.put hdN (x := .c (.one (.own (kl d 0) (szOf P e) 0 (0 + 0) (0 + 0)))) (.inl ⟨updB_same _ _ _, rfl, rfl, rfl, rfl⟩)⟩
              · obtain ⟨ad', cap', e2, hcap2⟩ := hreal
                rw [e1] at e2
                injection e2 with _ _ e2
                subst e2
                have hm2 : (off + ln + ys.length) * szOf P e ≤ (off + cap) * szOf P e := Nat.mul_le_mul_right _ (by omega)
                rw [Nat.add_mul, Nat.add_mul] at hm2
                have hext := (hrow.seg hfit).extend hrl (by rw [hsl, Nat.add_mul]; omega)
                rw [hsl] at hext
                have hvl := hrl.2.1
                have hfit2 : base + off * szOf P e + ln * szOf P e + vs.length ≤ cs.size := by omega
                have hcsz := csplice_size hfit2
                have hst := run_stores (P := P) b (base + off * szOf P e + ln * szOf P e) e' fr vs 0 cs w hh hf (by simpa using hfit2) hrl.2.2
                have hst' : (storeCells (ad.add (ln * szOf P e)) vs).run P w = .ok () (w.setRow b (csplice cs (base + off * szOf P e + ln * szOf P e) vs)) := by
                  rcases had with rfl | h0
                  · rw [addr_add]; exact hst
                  · have : ys = [] := List.eq_nil_of_length_eq_zero (by omega)
                    subst this
                    have : vs = [] := List.eq_nil_of_length_eq_zero (by rw [hvl]; simp)
                    subst this
                    have : csplice cs (base + off * szOf P e + ln * szOf P e) [] = cs := by simp [csplice]
                    rw [this, setRow_self w b cs e' fr hh]
                    rfl
                refine fin (append_fit hu hpos hn e1 hsrc hrl.2.1 hcap2 hst') ?_
                have hsep := hr.sep k b base (liveA hg) hk
                have hdead : ¬ Live (upd g (.a k) none) k := by
                  rintro (⟨i, v, hv⟩ | ⟨v, hv⟩)
                  · exact hr.kind k i v _ (upd_sub hv) hg
                  · rw [upd_same] at hv; cases hv
                have hG := Grow.setRow (cs' := csplice cs (base + off * szOf P e + ln * szOf P e) vs) hh hcsz
                have hnoI : ∀ b', I b' → ¬ (b' = b) := fun b' h e => hsep.2 (e ▸ h)
                have q1 := (hr.forget (.a k)).step hG fun b' hb' _ => by
                  subst hb'
                  refine ⟨hsep.1, hsep.2, fun k' base' hl' hb' => ?_⟩
                  have := hr.inj k k' _ _ _ (liveA hg) hl'.upd_none hk hb'
                  subst this
                  exact hdead hl'
                have q2 := q1.rebeta hf0 (notPinned hd9) (some (b, base + off * szOf P e))
                have hheap := setRow_heap w b cs (csplice cs (base + off * szOf P e + ln * szOf P e) vs) e' fr hh
                have q3 := q2.fact (l := .a (kl d 0)) (v := .arr (szOf P e) ((es.drop off).take ln ++ ys)) (.inr ⟨b, base + off * szOf P e, _, e', fr, updB_same _ _ _, hheap, by rw [hcsz]; exact hf, hext.grow hG hnoI hr.lt fun _ h => h⟩) (fun k' hk' => .inr fun b' base' hb' => by
                  have hkk' : k' = kl d 0 := by simpa [Loc.keys] using hk'
                  subst hkk'
                  rw [updB_same] at hb'
                  injection hb' with hb'
                  injection hb' with hb' _
                  subst hb'
                  refine ⟨hsep.1, hsep.2, fun k2 base2 hne hl' hb2 => ?_⟩
                  rw [updB_ne _ _ hne] at hb2
                  have := hr.inj k k2 _ _ _ (liveA hg) hl'.upd_none hk hb2
                  subst this
                  exact hdead hl') (fun _ _ h => by cases h) (fun k2 h i => by injection h with h; rw [← h]; exact hf0.noC i)
                refine ⟨_, _, q3.put hdN (x := .c (.one (.own (kl d 0) (szOf P e) 0 (ln + ys.length) (ln + ys.length)))) ?_⟩
                refine .inr ⟨b, base + off * szOf P e, ad, cap, _, e', fr, updB_same _ _ _, rfl, hheap, ?_, ?_, Nat.le_refl _, hcap2, hmax⟩
                · rcases had with rfl | h
                  · exact .inl (by simp)
                  · exact .inr h
                · rw [hcsz, Nat.zero_add]
                  rw [Nat.add_mul] at hsz2
                  omega
            · obtain ⟨ad, cap, e1⟩ := own_len (I := I) h1
              have hno : ¬ ln + ys.length ≤ cap := fun h => hreal ⟨ad, cap, e1, h⟩
              refine fin (append_grow hu hpos hby0 hn e1 hsrc hrl.2.1 hno hz1 (by simpa [lim] using hlim.1) (us := us) (fun w' hw => by
                have := husrc.first w' hw ln (by rw [hsl]; exact Nat.le_refl _)
                rw [List.take_of_length_le (by rw [hus.2.1, hsl]; exact Nat.le_refl _)] at this
                exact this)) ?_
              have := grown_put (e := e) (sCap := cap) (hr.forget (.a k)) hf0 hd9 hdN hus hrl (by rw [hsl]; have := hlim.2; simp only [maxN] at this; simp only [maxLen]; omega) (hzc _)
              rw [hsl] at this
              exact this
        split at h6
        · rename_i hall
          have e0 : appNew k d (szOf P e) off ln (byOf P e) es ys = appAll k d (szOf P e) (byOf P e) es ys := by
            rw [appAll_new]
            have h0 := of_decide_eq_true hall
            congr 1
            · exact h0.1
            · exact h0.2
          exact hnew (by rw [e0]; exact h6)
        rw [br_val] at h6
        split at h6
        · rename_i hcap
          replace hcap := of_decide_eq_true hcap
          injection h6 with h6
          injection h6 with h6 h6'
          rw [← h6] at fin
          rcases own_ok hr h1 hg hfit with ⟨e1, hk, rfl, rfl, rfl, rfl⟩ | ⟨b, base, ad, cap, cs, e', fr, hk, e1, hh, hf, hrow, had, hsz2, hlc, hcc, hmax⟩
          · have hy0 : ys = [] := List.eq_nil_of_length_eq_zero (by omega)
            subst hy0
            refine fin (append_fit hu hpos hn e1 hsrc hrl.2.1 (Nat.le_refl _) (w' := w) rfl) ?_
            have : splice ([] : List (List T)) (0 + 0) [] = [] := by simp [splice]
            simp only [applyW]
            rw [this, upd_self hg]
            exact ⟨β, I, hr.put hdN (x := .c (.one (.own k (szOf P e) 0 0 0))) (.inl ⟨hk, rfl, rfl, rfl, rfl⟩)⟩
          · obtain ⟨w', h7, h8, h9, h10, h11⟩ := stored_row (P := P) hr hg hk hh hf hrow hrl (off := off + ln) (ad := ad.add (ln * szOf P e)) (cap := cap) (by omega) (by
              rcases had with rfl | h
              · refine .inl ?_
                rw [addr_add, Nat.add_mul]
                congr 1
                omega
              · exact .inr h) (by omega)
            refine fin (append_fit hu hpos hn e1 hsrc hrl.2.1 (by omega) (w' := w') h7) ?_
            refine ⟨β, I, h8.put hdN (x := .c (.one (.own k (szOf P e) off (ln + ys.length) c'))) ?_⟩
            exact .inr ⟨b, base, ad, cap, _, e', fr, hk, rfl, h10, had, by rw [h11]; exact hsz2, hcap.1, hcc, hmax⟩
        · exact hnew h6
    · cases h5
  · cases h5
end
end Go.Ev

namespace Go.Ev
section
variable {P : Program} {o : Oper} {G : Gh} {β : Beta} {I : Nat → Prop} {g : Facts} {a : Act} {w : World} {K : Act → World → Prop} {Q : Exit → Act → World → Prop} {S : Sum} {cl : CallFn} {ws : Ws} {ns : List Key} {d : Nat} {t : TypeId}
theorem bytesOfTs_ok : ∀ {es : List (List T)} {l : List UInt8} {vs : List Value}, bytesOfTs es = some l → RowL w I vs 1 es → ∃ ns : List Int, vs = ns.map (Value.int .u8) ∧ ns.map (fun n => UInt8.ofNat n.toNat) = l
  | [], l, vs, h, hr => by
    injection h with h
    subst h
    have : vs = [] := List.eq_nil_of_length_eq_zero (by rw [hr.2.1]; simp)
    subst this
    exact ⟨[], rfl, rfl⟩
  | e :: es, l, vs, h, hr => by
    simp only [bytesOfTs] at h
    split at h
    · rename_i b m h1 h2
      injection h with h
      subst h
      unfold byteOfT at h1
      split at h1
      · rename_i n
        injection h1 with h1
        subst h1
        cases vs with
        | nil => have := hr.2.1; simp at this
        | cons v vs =>
          obtain ⟨u, q1, q2⟩ := (hr.1.2 0 _ rfl).2 0 _ rfl
          simp at q1
          subst q1
          have hv : v = .int .u8 n := by cases q2; rfl
          have hr' : RowL w I vs 1 es := by
            refine ⟨⟨by have := hr.2.1; simp at this ⊢; omega, fun j el hj => ⟨(hr.1.2 (j + 1) el (by simpa using hj)).1, fun i t hi => ?_⟩⟩, by have := hr.2.1; simp at this ⊢; omega, fun v hv => hr.2.2 v (List.mem_cons_of_mem _ hv)⟩
            obtain ⟨u, q1, q2⟩ := (hr.1.2 (j + 1) el (by simpa using hj)).2 i t hi
            refine ⟨u, ?_, q2⟩
            rw [List.getElem?_toArray] at q1 ⊢
            have : 0 + (j + 1) * 1 + i = (0 + j * 1 + i) + 1 := by omega
            rw [this, List.getElem?_cons_succ] at q1
            exact q1
          obtain ⟨ns, h3, h4⟩ := bytesOfTs_ok h2 hr'
          exact ⟨n :: ns, by rw [hv, h3]; rfl, by simp [h4]⟩
      · cases h1
    · cases h
theorem foldl_bytes : ∀ (ns : List Int) (s : ByteArray), (ns.foldl (fun r n => r.push (UInt8.ofNat n.toNat)) s).data.toList = s.data.toList ++ ns.map fun n => UInt8.ofNat n.toNat
  | [], s => by simp
  | n :: ns, s => by
    rw [List.foldl_cons, foldl_bytes ns]
    simp [ByteArray.push]
theorem b2s_ok {src dst e : TypeId} {x : Operand} {y : Opd} (hop : o.op = .convert src dst x) (hs : P.underlying src = some (.slice e)) (hdst : P.underlying dst = some .string) (he : P.underlying e = some (.int .u8)) (hc : opdOf P src x = some y)
    (hd : o.dst = some d) (hdN : d < G.N) (hr : R1 G β I g a w)
    (hv : ((Ins.conv d .b2s y).rp S cl).val g = some (ws, ns)) (hK : Post G (applyW ws g) K) : o.wp P a w K Q := by
  simp only [Ins.rp] at hv
  obtain ⟨u, h1, h2⟩ := opd_ok hc hr hv
  obtain ⟨es, vs, h3, hrl, hsrc⟩ := elemsOf_ok (P := P) hr h1 h2
  obtain ⟨l, hl, h3⟩ := str_ok h3
  · obtain ⟨ns', e1, e2⟩ := bytesOfTs_ok hl hrl
    have hfirst := hsrc.first w rfl es.length (Nat.le_refl _)
    rw [List.take_of_length_le (by rw [hrl.2.1]; exact Nat.le_refl _)] at hfirst
    suffices hs : ∃ s : ByteArray, (convert src dst (a.eval x)).run P w = .ok (.string s) w ∧ s.data.toList = l by
      obtain ⟨s, h4, h5⟩ := hs
      refine wp_put (x := .c (.one (.t (.str l)))) (v := .string s) hr ?_ hd hdN (h5 ▸ Rd.str s) h3 hK
      unfold execOp
      rw [hop]
      exact run_v h4
    have hlen := hsrc.len
    generalize a.eval x = xv at hfirst hlen h1
    cases xv <;> simp only [Builtin.lenOf, run_stuck, reduceCtorEq, Sem.run_pure, Result.ok.injEq, and_true] at hlen
    · rename_i s
      refine ⟨s, ?_, ?_⟩
      · simp [convert, run_und hs, run_und hdst]
      · have hl1 : s.data.toList.length = es.length := by simpa using hlen
        simp only [Builtin.firstCells, Sem.run_pure, Result.ok.injEq, and_true] at hfirst
        have h6 := congrArg Array.toList hfirst
        rw [e1] at h6
        simp [ByteArray.extract, ByteArray.copySlice] at h6
        rw [← e2]
        have h7 : s.data.toList.map (fun b => (b.toNat : Int)) = ns' := by
          have : (s.data.toList.take es.length) = s.data.toList := List.take_of_length_le (by omega)
          have h8 : (List.map (fun b => Value.int .u8 b.toNat) (List.take es.length s.data.toList)) = List.map (Value.int .u8) ns' := by simpa using h6
          rw [this] at h8
          have h9 : ∀ {p : List UInt8} {q : List Int}, p.map (fun b => Value.int .u8 b.toNat) = q.map (Value.int .u8) → p.map (fun b => (b.toNat : Int)) = q := by
            intro p
            induction p with
            | nil => intro q h; cases q with
              | nil => rfl
              | cons => cases h
            | cons b p ih => intro q h; cases q with
              | nil => cases h
              | cons n q =>
                simp only [List.map_cons, List.cons.injEq, Value.int.injEq, true_and] at h ⊢
                exact ⟨h.1, ih h.2⟩
          exact h9 h8
        rw [← h7]
        simp [Function.comp_def]
    · rename_i ad n cap
      subst hlen
      cases ad with
      | none =>
        refine ⟨.empty, by simp [convert, run_und hs, run_und hdst, run_und he, Conv.bytesToString], ?_⟩
        simp only [Builtin.firstCells, Sem.run_pure, Result.ok.injEq, and_true] at hfirst
        have h6 := congrArg Array.toList hfirst
        rw [e1] at h6
        simp at h6
        subst h6
        rw [← e2]
        rfl
      | some ad =>
        have h4 : (loadCells ad es.length).run P w = .ok (ns'.map (Value.int .u8)).toArray w := by
          rw [← e1]
          simpa [Builtin.firstCells] using hfirst
        have h5 := run_bytesToString w ad es.length cap ns' h4
        rw [← run_convert_bytes_string w src dst e _ _ cap hs he hdst] at h5
        exact ⟨_, h5, by rw [foldl_bytes, e2]; rfl⟩
theorem freeze_new (w : World) (cs : Array Value) (e : TypeId) (off : Nat) : (w.alloc (.cells cs e)).freeze ⟨w.heap.size, off, none⟩ 1 = w.alloc (.cells cs e (off, off + 1)) := by
  unfold World.freeze World.alloc
  simp only [Nat.one_ne_zero, if_false]
  congr 1
  apply Array.ext
  · simp
  · intro i h1 h2
    simp only [Array.getElem_modify, Array.getElem_push]
    by_cases hi : w.heap.size = i
    · subst hi
      simp
    · rw [if_neg hi]
      simp at h1
      rw [dif_pos (by omega), dif_pos (by omega)]
def s2bRow (s : ByteArray) (cap : Nat) : Array Value := ((s.data.toList.map fun (b : UInt8) => Value.int .u8 b.toNat) ++ List.replicate (cap - s.size) (Value.int .u8 0)).toArray
theorem s2b_ok {src dst e : TypeId} {x : Operand} {y : Opd} (hop : o.op = .convert src dst x) (hs : P.underlying src = some .string) (hdst : P.underlying dst = some (.slice e)) (he : P.underlying e = some (.int .u8)) (hc : opdOf P src x = some y)
    (hd : o.dst = some d) (hdN : d < G.N) (hd9 : d < 9999) (hr : R1 G β I g a w) (hN : ∀ k, k ∈ ns → Fresh g k)
    (hv : ((Ins.conv d .s2b y).rp S cl).val g = some (ws, ns)) (hK : Post G (applyW ws g) K) : o.wp P a w K Q := by
  simp only [Ins.rp] at hv
  obtain ⟨u, h1, h2⟩ := opd_ok hc hr hv
  split at h2
  · rename_i l
    obtain ⟨s, e1, rfl⟩ := rep_str h1
    obtain ⟨hlim, h2⟩ := need_ok h2
    · injection h2 with h2
      injection h2 with h2 h2'
      have hk := hN (kl d 0) (by rw [← h2']; simp)
      rw [← h2] at hK
      have hlen : s.data.toList.length = s.size := by simp
      rw [hlen] at hlim hK
      have hge := grownCap_ge w s.size 0 e
      have hle := grownCap_le_maxLen w s.size 0 e (by simp only [maxN] at hlim; simp only [maxLen]; omega)
      have hrow := (RowL.bytes (w := w) (I := I) s.data.toList).at (rest := List.replicate (grownCap w s.size 0 e - s.size) (.int .u8 0))
      have hcsz : (s2bRow s (grownCap w s.size 0 e)).size = grownCap w s.size 0 e := by
        simp [s2bRow]; omega
      have hrow' : RowAt w.drew I (s2bRow s (grownCap w s.size 0 e)) 0 1 (s.data.toList.map byteT) := RowAt.grow hrow (Grow.drew w (fun _ => False)) (fun _ _ => id) hr.lt fun _ h => h
      refine wp_value (v := .slice (some ⟨w.heap.size, 0, none⟩) s.size (grownCap w s.size 0 e)) (w' := w.drew.alloc (.cells (s2bRow s (grownCap w s.size 0 e)) e (grownCap w s.size 0 e, grownCap w s.size 0 e + 1))) ?_ ?_ hK
      · unfold execOp
        rw [hop]
        refine run_v ?_
        have hq : (Question.appendCap s.size 0 e).forced = false := rfl
        have hcs : (Array.map (fun b : UInt8 => Value.int .u8 (b.toNat : Int)) s.data ++ Array.replicate (grownCap w s.size 0 e - s.size) (Value.int .u8 0)) = s2bRow s (grownCap w s.size 0 e) := by
          apply Array.ext'
          simp [s2bRow]
        simp only [convert, Sem.run_bind, run_und hs, run_und hdst, Result.andThen_ok, e1, run_und he, Conv.stringToBytes, run_choose, hq, Bool.false_eq_true, if_false, newRow, run_newObj, Sem.run_pure, markStringish, run_shape]
        have hg : (Question.appendCap s.size 0 e).cut (w.tape w.drawn (.appendCap s.size 0 e)) = grownCap w s.size 0 e := rfl
        rw [hg, hcs]
        have hfr := freeze_new w.drew (s2bRow s (grownCap w s.size 0 e)) e (grownCap w s.size 0 e)
        have hsh : ({ heap := w.heap.push (.cells (s2bRow s (grownCap w s.size 0 e)) e), tape := w.tape, drawn := w.drawn + 1, os := w.os, output := w.output } : World).shape? w.heap.size = some (e, grownCap w s.size 0 e) := by
          simp [World.shape?, hcsz]
        rw [hsh]
        simp only [run_freeze, Result.andThen_ok]
        exact congrArg (fun z => Result.ok (Value.slice (some ⟨w.heap.size, 0, none⟩) s.size (grownCap w s.size 0 e)) z) hfr
      · rw [hd]
        exact row_put hr.drew hk hd9 hdN (.inr (by rw [hcsz]; exact Nat.le_refl _)) hrow' (by rw [hcsz, Nat.mul_one]; exact Nat.le_refl _) (Nat.le_refl _) hge hle
  · cases h2
theorem R1.refreeze (h : R1 G β I g a w) {k : Key} {b base : Nat} {x : Val} {cs : Array Value} {e : TypeId} {fr : Nat × Nat} (hk : g (.a k) = some x) (hb : β k = some (b, base)) (hh : w.heap[b]? = some (.cells cs e fr)) (hf : okfr cs.size fr) : R1 G β I g a (w.freeze ⟨b, cs.size, none⟩ 1) := by
  have hfr : (w.freeze ⟨b, cs.size, none⟩ 1).heap[b]? = some (.cells cs e (if fr.1 == fr.2 then (cs.size, cs.size + 1) else (min fr.1 cs.size, max fr.2 (cs.size + 1)))) := by
    simp only [World.freeze, Nat.one_ne_zero, if_false, Array.getElem?_modify, if_true, hh, Option.map_some]
  have hother : ∀ b', b' ≠ b → (w.freeze ⟨b, cs.size, none⟩ 1).heap[b']? = w.heap[b']? := by
    intro b' hne
    simp only [World.freeze, Nat.one_ne_zero, if_false, Array.getElem?_modify, if_neg (Ne.symm hne)]
  have hok : okfr cs.size (if fr.1 == fr.2 then (cs.size, cs.size + 1) else (min fr.1 cs.size, max fr.2 (cs.size + 1))) := by
    rcases hf with hf | hf
    · simp [hf, okfr]
    · split
      · exact .inr (Nat.le_refl _)
      · exact .inr (by simp only []; omega)
  have hsep := h.sep k b base (liveA hk) hb
  have hG : Grow w (w.freeze ⟨b, cs.size, none⟩ 1) (· = b) := by
    refine ⟨rfl, rfl, rfl, by simp [World.freeze], fun b' _ hne => hother b' hne, fun b' c e' f hb' => ?_⟩
    by_cases he : b' = b
    · subst he
      rw [hh] at hb'
      injection hb' with hb'
      injection hb' with h1 h2 h3
      subst h1 h2 h3
      exact ⟨_, _, hfr, rfl⟩
    · exact ⟨c, f, by rw [hother b' he]; exact hb', rfl⟩
  have hX : ∀ b', I b' → ¬ (b' = b) := fun b' hI he => hsep.2 (he ▸ hI)
  refine ⟨h.defers, h.size, h.pin, h.imm0, h.imm1, fun b' hb' => Nat.lt_of_lt_of_le (h.lt b' hb') hG.size, h.grow_step hG (fun b' hb' _ => by subst hb'; exact hsep.1), h.sep, h.inj, h.kind, fun m v hm => ?_⟩
  have hv := h.facts m v hm
  cases m with
  | s n => exact hv.grow hG hX h.lt (fun _ h => h) fun k' b' base' hk' => by simp [Loc.keys] at hk'
  | c k' i =>
    cases v with
    | sv x => exact hv.elim
    | arr sz es => exact hv.elim
    | cell x =>
      obtain ⟨b', cs', e', fr', u, h1, h2, h3, h4, h5⟩ := hv
      by_cases he : b' = b
      · subst he
        rw [hh] at h2
        injection h2 with h2
        injection h2 with q1 q2 q3
        subst q1 q2 q3
        exact ⟨b', cs, e, _, u, h1, hfr, hok, h4, h5.grow hG hX h.lt fun _ h => h⟩
      · exact ⟨b', cs', e', fr', u, h1, by rw [hother b' he]; exact h2, h3, h4, h5.grow hG hX h.lt fun _ h => h⟩
  | a k' =>
    cases v with
    | sv x => exact hv.elim
    | cell x => exact hv.elim
    | arr sz es =>
      rcases hv with hv | ⟨b', base', cs', e', fr', h1, h2, h3, h4⟩
      · exact .inl hv
      · by_cases he : b' = b
        · subst he
          rw [hh] at h2
          injection h2 with h2
          injection h2 with q1 q2 q3
          subst q1 q2 q3
          exact .inr ⟨b', base', cs, e, _, h1, hfr, hok, h4.grow hG hX h.lt fun _ h => h⟩
        · exact .inr ⟨b', base', cs', e', fr', h1, by rw [hother b' he]; exact h2, h3, h4.grow hG hX h.lt fun _ h => h⟩
theorem same_ok {src dst e : TypeId} {x : Operand} {y : Opd} (hop : o.op = .convert src dst x) (hs : P.underlying src = some (.slice e)) (hsd : src = dst) (he : P.underlying e = some (.int .u8)) (hc : opdOf P src x = some y)
    (hd : o.dst = some d) (hdN : d < G.N) (hr : R1 G β I g a w)
    (hv : ((Ins.conv d .same y).rp S cl).val g = some (ws, ns)) (hK : Post G (applyW ws g) K) : o.wp P a w K Q := by
  subst hsd
  simp only [Ins.rp] at hv
  obtain ⟨u, h1, h2⟩ := opd_ok hc hr hv
  split at h2
  · rename_i k sz off ln c'
    obtain ⟨hc0, h2⟩ := need_ok h2
    · obtain ⟨es, hg, h3⟩ := rdArr_ok h2
      have h1' := h1
      rcases h1 with ⟨hk, _, _, h0, _⟩ | ⟨b, base, ad, cap, cs, e', fr, hk, e1, hheap, had, hsz, hlc, hcc, hmax⟩
      · omega
      · rcases hr.facts _ _ hg with ⟨h1, _⟩ | ⟨b', base', cs', e2, fr', q1, q2, q3, q4⟩
        · rw [hk] at h1; cases h1
        · rw [hk] at q1
          injection q1 with q1
          injection q1 with q1 q1'
          subst q1 q1'
          rw [hheap] at q2
          injection q2 with q2
          injection q2 with p1 p2 p3
          subst p1 p2 p3
          have had' : ad = ⟨b, base + off * sz, none⟩ := had.resolve_right (by omega)
          have hrf := hr.refreeze hg hk hheap q3
          have hG : (w.freeze ⟨b, cs.size, none⟩ 1).heap[b]? = some (.cells cs e' (if fr.1 == fr.2 then (cs.size, cs.size + 1) else (min fr.1 cs.size, max fr.2 (cs.size + 1)))) := by
            simp only [World.freeze, Nat.one_ne_zero, if_false, Array.getElem?_modify, if_true, hheap, Option.map_some]
          refine wp_put (v := a.eval x) hrf ?_ hd hdN (x := .c (.one (.own k sz off ln c'))) (.inr ⟨b, base, ad, cap, cs, e', _, hk, e1, hG, had, hsz, hlc, hcc, hmax⟩) h3 hK
          unfold execOp
          rw [hop]
          refine run_v ?_
          rw [e1]
          have hsh : w.shape? ad.block = some (e', cs.size) := by rw [had']; simp [World.shape?, hheap]
          simp only [convert, Sem.run_bind, run_und hs, Result.andThen_ok, beq_self_eq_true, run_und he, markStringish, run_shape, hsh, run_freeze, Sem.run_pure]
          rw [had']
  · cases h2
end
end Go.Ev
