/- Arguments as plain data; the step to a row. No condition. -/
import Derived.Test.YtbempckmbfbjgaaBj
import Derived.Test.YtbempckmbfbjgaaRows
import Derived.WalkKit
import Derived.ProofKit
import Derived.OpenShut
import Derived.JoinedCond
import Derived.Deep.Slices
import Derived.Test.YtbempckmbfbjgaaBi
import Derived.Below
import Derived.WideKeyArgs
set_option linter.unusedVariables false
set_option linter.unusedSimpArgs false
set_option linter.constructorNameAsVariable false
set_option linter.unnecessarySimpa false
namespace Go.Ev
open Go.Proofs Go.ChangeShapes Go.WideShapes Go.ChangeAt Go.RowKit Go.Deep
mutual
def T.sz : T → Nat
  | .int _ _ => 1
  | .bool _ => 1
  | .str s => s.length + 1
  | .sl _ es => szLL es + 1
def szL : List T → Nat
  | [] => 0
  | t :: l => t.sz + szL l
def szLL : List (List T) → Nat
  | [] => 0
  | t :: l => szL t + szLL l
end
theorem szL_append : ∀ (a b : List T), szL (a ++ b) = szL a + szL b
  | [], b => by simp [szL]
  | t :: l, b => by
    rw [List.cons_append, szL, szL, szL_append l b]
    omega
section
variable (P : Program)
def tileB : Nat → List Go.Field → Option Nat
  | off, [] => some off
  | off, f :: l => if f.offset = off then tileB (off + P.cellsOf f.type) l else none
def plainB : Nat → TypeId → Bool
  | 0, _ => false
  | k + 1, t => match P.underlying t with
    | some .bool => true
    | some (.int _) => true
    | some .string => true
    | some (.slice e) => decide (0 < P.cellsOf e) && plainB k e
    | some (.struct fs) => tileB P 0 fs.toList == some (P.cellsOf t) && fs.toList.all fun f => plainB k f.type
    | _ => false
def okT : Nat → TypeId → List T → Prop
  | 0, _, _ => False
  | k + 1, t, ts => match P.underlying t with
    | some .bool => ∃ b, ts = [.bool b]
    | some (.int q) => ∃ n, ts = [.int q n] ∧ (Lit.int q n).wf = true
    | some .string => ∃ s, ts = [.str s]
    | some (.slice e) => ∃ es, ts = [.sl (P.cellsOf e) es] ∧ ∀ x, x ∈ es → okT k e x
    | some (.struct fs) => ts.length = P.cellsOf t ∧ ∀ f, f ∈ fs.toList → okT k f.type ((ts.drop f.offset).take (P.cellsOf f.type))
    | _ => False
end
theorem tileB_le {P : Program} : ∀ {l : List Go.Field} {off e : Nat}, tileB P off l = some e → off ≤ e ∧ ∀ f, f ∈ l → off ≤ f.offset
  | [], off, e, h => by
    injection h with h
    exact ⟨by omega, fun f hf => by cases hf⟩
  | f :: l, off, e, h => by
    simp only [tileB] at h
    split at h
    · rename_i hf
      obtain ⟨h1, h2⟩ := tileB_le h
      refine ⟨by omega, fun g hg => ?_⟩
      rcases List.mem_cons.1 hg with rfl | hg
      · omega
      · have := h2 g hg
        omega
    · cases h
section
variable {H : Type} {enc : TypeId × Value → H} {P : Program} {w : World} {base : Nat}
theorem tile_rd {k : Nat} : ∀ (fl : List Go.Field) (xs : List (DataW H × List MemPlace)) (off : Nat) (cs : List Value), xs.length = fl.length → tileB P off fl = some cs.length →
    (∀ (i : Nat) (f : Go.Field) (x : DataW H × List MemPlace), fl[i]? = some f → xs[i]? = some x → ∃ part, All2 (fun t v => Rd w (fun b => b < w.heap.size) v t) part ((cs.drop f.offset).take (P.cellsOf f.type)) ∧ okT P k f.type part ∧ szL part ≤ Go.Proofs.Ytbempckmbfbjgaa.Rows.uptoBulk x.1) →
    ∃ ts, All2 (fun t v => Rd w (fun b => b < w.heap.size) v t) ts (cs.drop off) ∧ (∀ f, f ∈ fl → okT P k f.type ((ts.drop (f.offset - off)).take (P.cellsOf f.type))) ∧ szL ts ≤ Go.Proofs.Ytbempckmbfbjgaa.Rows.uptoBulkAll (xs.map (·.1))
  | [], xs, off, cs, hl, ht, h => by
    injection ht with ht
    refine ⟨[], ?_, ⟨(fun f hf => by cases hf), Nat.zero_le _⟩⟩
    rw [List.drop_eq_nil_of_le (by omega)]
    trivial
  | f :: fl, [], off, cs, hl, ht, h => by cases hl
  | f :: fl, x :: xs, off, cs, hl, ht, h => by
    simp only [tileB] at ht
    split at ht
    · rename_i hf
      obtain ⟨hle, hoff⟩ := tileB_le ht
      obtain ⟨part, p1, p2, p3⟩ := h 0 f x rfl rfl
      obtain ⟨ts, q1, q2, q3⟩ := tile_rd fl xs (off + P.cellsOf f.type) cs (by simpa using hl) ht fun i g y hg hy => h (i + 1) g y hg hy
      rw [hf] at p1
      have hpl : part.length = P.cellsOf f.type := by
        rw [p1.len, List.length_take, List.length_drop]
        omega
      refine ⟨part ++ ts, ?_, fun g hg => ?_, ?_⟩
      · have := p1.append q1
        rwa [← List.drop_drop, List.take_append_drop] at this
      · rcases List.mem_cons.1 hg with rfl | hg
        · rw [hf, Nat.sub_self, List.drop_zero, ← hpl, List.take_left']
          · exact p2
          · rfl
        · have h1 := hoff g hg
          have h2 := q2 g hg
          have : g.offset - off = part.length + (g.offset - (off + P.cellsOf f.type)) := by omega
          rw [this, List.drop_append, List.drop_eq_nil_of_le (by omega), List.nil_append, Nat.add_sub_cancel_left]
          exact h2
      · rw [szL_append, List.map_cons, Go.Proofs.Ytbempckmbfbjgaa.Rows.uptoBulkAll]
        omega
    · cases ht
theorem bulkAll_range : ∀ (n : Nat) (D : Nat → DataW H) (F : Nat → List T), (∀ i, i < n → szL (F i) ≤ Go.Proofs.Ytbempckmbfbjgaa.Rows.uptoBulk (D i)) → szLL ((List.range n).map F) ≤ Go.Proofs.Ytbempckmbfbjgaa.Rows.uptoBulkAll ((List.range n).map D)
  | 0, _, _, _ => Nat.zero_le _
  | n + 1, D, F, h => by
    have ih := bulkAll_range n D F fun i hi => h i (by omega)
    have h1 := h n (by omega)
    rw [List.range_succ, List.map_append, List.map_append]
    have e1 : ∀ (a b : List (List T)), szLL (a ++ b) = szLL a + szLL b := by
      intro a b
      induction a with
      | nil => simp [szLL]
      | cons x a ih => rw [List.cons_append, szLL, szLL, ih]; omega
    have e2 : ∀ (a b : List (DataW H)), Go.Proofs.Ytbempckmbfbjgaa.Rows.uptoBulkAll (a ++ b) = Go.Proofs.Ytbempckmbfbjgaa.Rows.uptoBulkAll a + Go.Proofs.Ytbempckmbfbjgaa.Rows.uptoBulkAll b := by
      intro a b
      induction a with
      | nil => simp [Go.Proofs.Ytbempckmbfbjgaa.Rows.uptoBulkAll]
      | cons x a ih => rw [List.cons_append, Go.Proofs.Ytbempckmbfbjgaa.Rows.uptoBulkAll, Go.Proofs.Ytbempckmbfbjgaa.Rows.uptoBulkAll, ih]; omega
    rw [e1, e2]
    simp only [List.map_cons, List.map_nil, szLL, Go.Proofs.Ytbempckmbfbjgaa.Rows.uptoBulkAll]
    omega
/-- what a reading meets, as plain data -/
theorem trod_rd : ∀ (k : Nat) (t : TypeId) (fuel : Nat) (cs : List Value) (x : DataW H × List MemPlace), plainB P k t = true → DataW.trod enc P w base (fun _ => true) true fuel t cs = some x →
    ∃ ts, All2 (fun t v => Rd w (fun b => b < w.heap.size) v t) ts cs ∧ okT P k t ts ∧ szL ts ≤ Go.Proofs.Ytbempckmbfbjgaa.Rows.uptoBulk x.1
  | 0, _, _, _, _, hp, _ => by cases hp
  | k + 1, t, fuel, cs, x, hp, hx => by
    simp only [plainB] at hp
    simp only [okT]
    split at hp
    · rename_i ht
      obtain ⟨b, rfl, rfl⟩ := DataW.trod_bool ht hx
      exact ⟨[.bool b], ⟨.bool b, trivial⟩, ⟨b, rfl⟩, by simp [szL, T.sz, Go.Proofs.Ytbempckmbfbjgaa.Rows.uptoBulk]⟩
    · rename_i q ht
      obtain ⟨n, rfl, rfl, hw⟩ := DataW.trod_int ht hx
      exact ⟨[.int q n], ⟨.int q n, trivial⟩, ⟨n, rfl, hw⟩, by simp [szL, T.sz, Go.Proofs.Ytbempckmbfbjgaa.Rows.uptoBulk]⟩
    · rename_i ht
      obtain ⟨s, rfl, rfl, hs⟩ := DataW.trod_string ht hx
      exact ⟨[.str s.data.toList], ⟨.str s, trivial⟩, ⟨_, rfl⟩, by simp [szL, T.sz, Go.Proofs.Ytbempckmbfbjgaa.Rows.uptoBulk]⟩
    · rename_i e ht
      simp only [Bool.and_eq_true, decide_eq_true_eq] at hp
      rcases open_slice ht hx with ⟨rfl, rfl⟩ | ⟨a, len, cap, m, n, D, Pl, rfl, hb, hl, hm, hmm, rfl, hq⟩
      · refine ⟨[.sl (P.cellsOf e) []], ⟨?_, trivial⟩, ⟨[], rfl, fun x hx => by cases hx⟩, by simp [szL, szLL, T.sz, Go.Proofs.Ytbempckmbfbjgaa.Rows.uptoBulk]⟩
        exact .sl none 0 0 [] _ 0 0 (fun _ _ => undef) rfl (Nat.le_refl _) (Nat.zero_le _) (fun _ => rfl) (fun h => absurd h (Nat.lt_irrefl 0)) (fun h => absurd h (Nat.lt_irrefl 0)) (fun j e h => by simp at h) (fun j e i t h => by simp at h) (fun j e i t h => by simp at h)
      · simp only [if_true] at hmm
        subst hmm
        have hel : ∀ i, i < len → ∃ ts, (∃ cs', w.cells? base (a.add (i * P.cellsOf e)) (P.cellsOf e) = some cs' ∧ All2 (fun t v => Rd w (fun b => b < w.heap.size) v t) ts cs') ∧ okT P k e ts ∧ szL ts ≤ Go.Proofs.Ytbempckmbfbjgaa.Rows.uptoBulk (D i) := fun i hi => by
          obtain ⟨cs', h1, h2⟩ := hq i (by omega)
          obtain ⟨ts, h3, h4, h5⟩ := trod_rd k e n cs' (D i, Pl i) hp.2 h2
          exact ⟨ts, ⟨cs', h1, h3⟩, h4, h5⟩
        obtain ⟨F, hF⟩ := choose_lt (α := List T) hel
        have hget : ∀ (j : Nat) (el : List T), ((List.range len).map F)[j]? = some el → j < len ∧ el = F j := fun j el h => by
          rw [List.getElem?_map] at h
          have hj : j < len := by
            rcases Nat.lt_or_ge j len with h1 | h1
            · exact h1
            · rw [List.getElem?_eq_none (by simpa using h1)] at h
              cases h
          rw [List.getElem?_range hj] at h
          injection h with h
          exact ⟨hj, h.symm⟩
        have hcell : ∀ j, j < len → (F j).length = P.cellsOf e ∧ ∀ (i : Nat) (t : T), (F j)[i]? = some t → ∃ v, w.cell? ((a.add (j * P.cellsOf e)).add i) = some v ∧ Rd w (fun b => b < w.heap.size) v t := fun j hj => by
          obtain ⟨⟨cs', h1, h2⟩, _, _⟩ := hF j hj
          obtain ⟨_, h3, h4⟩ := World.cells?_some h1
          have hlen : (F j).length = P.cellsOf e := by rw [h2.len, h3]
          refine ⟨hlen, fun i t hi => ?_⟩
          obtain ⟨v, hv, hr⟩ := h2.get i t hi
          have hlt : i < P.cellsOf e := by
            rw [← hlen]
            exact (List.getElem?_eq_some_iff.1 hi).1
          exact ⟨v, by rw [h4 i hlt, hv], hr⟩
        have hspot : 0 < len → a.spot = none ∧ a.block < w.heap.size := fun hpos => by
          obtain ⟨h1, h2⟩ := hcell 0 hpos
          obtain ⟨t0, ht0⟩ : ∃ t0, (F 0)[0]? = some t0 := ⟨_, List.getElem?_eq_getElem (by omega)⟩
          obtain ⟨v, hv, _⟩ := h2 0 t0 ht0
          have hadd : (a.add (0 * P.cellsOf e)).add 0 = a := by simp [Addr.add]
          rw [hadd] at hv
          unfold World.cell? at hv
          split at hv
          · rename_i c _ _ hh
            refine ⟨?_, lt_of_heap hh⟩
            split at hv
            · cases hv
            · rename_i hs
              simpa using hs
          · cases hv
        refine ⟨[.sl (P.cellsOf e) ((List.range len).map F)], ⟨?_, trivial⟩, ⟨_, rfl, fun el hel => ?_⟩, ?_⟩
        · refine .sl (some a) len m _ _ a.block a.off (fun j i => (w.cell? ((a.add (j * P.cellsOf e)).add i)).getD undef) (by simp) hl hm (fun h => by cases h) (fun hpos => ?_) (fun hpos => (hspot hpos).2) (fun j el hj => ?_) (fun j el i t hj hi => ?_) (fun j el i t hj hi => ?_)
          · obtain ⟨b, o, sp⟩ := a
            have := (hspot hpos).1
            simp only at this
            subst this
            rfl
          · obtain ⟨hj', rfl⟩ := hget j el hj
            exact (hcell j hj').1
          · obtain ⟨hj', rfl⟩ := hget j el hj
            obtain ⟨v, hv, hr⟩ := (hcell j hj').2 i t hi
            have ha : (a.add (j * P.cellsOf e)).add i = ⟨a.block, a.off + j * P.cellsOf e + i, none⟩ := by
              have := (hspot (by omega)).1
              obtain ⟨b, o, sp⟩ := a
              simp only at this
              subst this
              simp only [Addr.add]
              split <;> split <;> simp_all
            rw [← ha, hv]
            rfl
          · obtain ⟨hj', rfl⟩ := hget j el hj
            obtain ⟨v, hv, hr⟩ := (hcell j hj').2 i t hi
            simp only [hv]
            exact hr
        · obtain ⟨j, hj⟩ := List.getElem?_of_mem hel
          obtain ⟨hj', rfl⟩ := hget j el hj
          exact (hF j hj').2.1
        · have := bulkAll_range len D F fun i hi => (hF i hi).2.2
          simp only [szL, T.sz, Go.Proofs.Ytbempckmbfbjgaa.Rows.uptoBulk]
          omega
    · rename_i fs ht
      simp only [Bool.and_eq_true, beq_iff_eq, List.all_eq_true] at hp
      obtain ⟨xs, n, rfl, rfl, hcl, hxl, hx⟩ := DataW.trod_struct ht hx
      have h := tile_rd (k := k) fs.toList xs 0 cs (w := w) (P := P) (by simpa using hxl) (by rw [hp.1, hcl]) fun i f y hf hy => by
        have hfi : fs[i]? = some f := by simpa using hf
        have := hx i f hfi
        rw [hy] at this
        exact trod_rd k f.type n _ y (hp.2 f (List.mem_of_getElem? hf)) this
      obtain ⟨ts, h1, h2, h3⟩ := h
      rw [List.drop_zero] at h1
      exact ⟨ts, h1, ⟨by rw [h1.len, hcl], h2⟩, by simp only [Go.Proofs.Ytbempckmbfbjgaa.Rows.uptoBulk]; omega⟩
    · cases hp
end
end Go.Ev

namespace Go.Ev
open Go.Proofs
set_option maxRecDepth 100000
section
variable {P : Program}
theorem inv_struct {t : TypeId} {fs : Array Go.Field} {ts : List T} (ht : P.underlying t = some (.struct fs)) : ∀ {k : Nat}, okT P k t ts → ∃ k', ts.length = P.cellsOf t ∧ ∀ (i : Nat) (f : Go.Field), fs.toList[i]? = some f → okT P k' f.type ((ts.drop f.offset).take (P.cellsOf f.type))
  | 0, h => h.elim
  | k + 1, h => by
    simp only [okT, ht] at h
    exact ⟨k, h.1, fun i f hf => h.2 f (List.mem_of_getElem? hf)⟩
theorem inv_int {t : TypeId} {q : IntKind} {ts : List T} (ht : P.underlying t = some (.int q)) : ∀ {k : Nat}, okT P k t ts → ∃ n, ts = [.int q n] ∧ (Lit.int q n).wf = true
  | 0, h => h.elim
  | k + 1, h => by
    simp only [okT, ht] at h
    exact h
theorem inv_str {t : TypeId} {ts : List T} (ht : P.underlying t = some .string) : ∀ {k : Nat}, okT P k t ts → ∃ s, ts = [.str s]
  | 0, h => h.elim
  | k + 1, h => by
    simp only [okT, ht] at h
    exact h
theorem inv_list {t e : TypeId} {ts : List T} {sz : Nat} {α : Type} (enc : α → List T) (ht : P.underlying t = some (.slice e)) (hc : P.cellsOf e = sz) (he : ∀ (k : Nat) (x : List T), okT P k e x → ∃ a, x = enc a) : ∀ {k : Nat}, okT P k t ts → ∃ l : List α, ts = [.sl sz (l.map enc)]
  | 0, h => h.elim
  | k + 1, h => by
    simp only [okT, ht] at h
    obtain ⟨es, rfl, hes⟩ := h
    have : ∃ l : List α, es = l.map enc := by
      clear ht hc
      induction es with
      | nil => exact ⟨[], rfl⟩
      | cons x es ih =>
        obtain ⟨l, rfl⟩ := ih fun y hy => hes y (List.mem_cons_of_mem _ hy)
        obtain ⟨a, rfl⟩ := he k x (hes x (List.mem_cons_self ..))
        exact ⟨a :: l, rfl⟩
    obtain ⟨l, rfl⟩ := this
    rw [hc]
    exact ⟨l, rfl⟩
end

theorem t3 {k : Nat} {ts : List T} (h : okT Try.prog k 3 ts) : ∃ n, ts = [tI n] := by
  obtain ⟨n, hn, _⟩ := inv_int Try.underlying3 h
  exact ⟨n, hn⟩
theorem t5 (k : Nat) (ts : List T) (h : okT Try.prog k 5 ts) : ∃ b, ts = byteT b := by
  obtain ⟨n, rfl, hw⟩ := inv_int Try.underlying5 h
  have hx : 0 ≤ n ∧ n ≤ 255 := by simpa [Lit.wf, IntKind.min, IntKind.max, IntKind.signed, IntKind.bits] using hw
  refine ⟨UInt8.ofNat n.toNat, ?_⟩
  have : ((UInt8.ofNat n.toNat).toNat : Int) = n := by
    rw [UInt8.toNat_ofNat']
    omega
  simp only [byteT, this]
theorem t9 {k : Nat} {ts : List T} (h : okT Try.prog k 9 ts) : ∃ s, ts = [.str s] := inv_str Try.underlying9 h
theorem t3e (k : Nat) (ts : List T) (h : okT Try.prog k 3 ts) : ∃ n, ts = intE n := t3 h

theorem cells3 : Try.prog.cellsOf 3 = 1 := by kernel_rfl
theorem cells5 : Try.prog.cellsOf 5 = 1 := by kernel_rfl
theorem cells9 : Try.prog.cellsOf 9 = 1 := by kernel_rfl
theorem cells127 : Try.prog.cellsOf 127 = 2 := by kernel_rfl
theorem t127 (k : Nat) (ts : List T) (h : okT Try.prog k 127 ts) : ∃ f : Field, ts = f.enc := by
  obtain ⟨k, hl, hf⟩ := inv_struct Try.underlying127 h
  rw [cells127] at hl
  obtain ⟨a0, a1, rfl⟩ : ∃ a0 a1, ts = [a0, a1] := by
    match ts, hl with
    | [a0, a1], _ => exact ⟨a0, a1, rfl⟩
  have h0 := hf 0 _ rfl
  simp only [cells9] at h0
  replace h0 : okT Try.prog k 9 [a0] := h0
  obtain ⟨x0, e0⟩ := t9 h0
  have h1 := hf 1 _ rfl
  simp only [cells9] at h1
  replace h1 : okT Try.prog k 9 [a1] := h1
  obtain ⟨x1, e1⟩ := t9 h1
  simp only [List.cons.injEq, and_true] at e0
  subst e0
  simp only [List.cons.injEq, and_true] at e1
  subst e1
  exact ⟨⟨x0, x1⟩, rfl⟩
theorem cells28 : Try.prog.cellsOf 28 = 1 := by kernel_rfl
theorem t28 {k : Nat} {ts : List T} (h : okT Try.prog k 28 ts) : ∃ l : List Field, ts = [.sl 2 (l.map Field.enc)] := inv_list Field.enc Try.underlying28 cells127 t127 h
theorem cells29 : Try.prog.cellsOf 29 = 1 := by kernel_rfl
theorem t29 {k : Nat} {ts : List T} (h : okT Try.prog k 29 ts) : ∃ l : List UInt8, ts = [.sl 1 (l.map byteT)] := inv_list byteT Try.underlying29 cells5 t5 h
theorem cells31 : Try.prog.cellsOf 31 = 2 := by kernel_rfl
theorem t31 {k : Nat} {ts : List T} (h : okT Try.prog k 31 ts) : ∃ m : Msg, ts = [m.fs, m.bd] := by
  obtain ⟨k, hl, hf⟩ := inv_struct Try.underlying31 h
  rw [cells31] at hl
  obtain ⟨a0, a1, rfl⟩ : ∃ a0 a1, ts = [a0, a1] := by
    match ts, hl with
    | [a0, a1], _ => exact ⟨a0, a1, rfl⟩
  have h0 := hf 0 _ rfl
  simp only [cells28] at h0
  replace h0 : okT Try.prog k 28 [a0] := h0
  obtain ⟨x0, e0⟩ := t28 h0
  have h1 := hf 1 _ rfl
  simp only [cells29] at h1
  replace h1 : okT Try.prog k 29 [a1] := h1
  obtain ⟨x1, e1⟩ := t29 h1
  simp only [List.cons.injEq, and_true] at e0
  subst e0
  simp only [List.cons.injEq, and_true] at e1
  subst e1
  exact ⟨⟨x0, x1⟩, rfl⟩
theorem cells102 : Try.prog.cellsOf 102 = 6 := by kernel_rfl
theorem t102 (k : Nat) (ts : List T) (h : okT Try.prog k 102 ts) : ∃ s : Stored, ts = s.enc := by
  obtain ⟨k, hl, hf⟩ := inv_struct Try.underlying102 h
  rw [cells102] at hl
  obtain ⟨a0, a1, a2, a3, a4, a5, rfl⟩ : ∃ a0 a1 a2 a3 a4 a5, ts = [a0, a1, a2, a3, a4, a5] := by
    match ts, hl with
    | [a0, a1, a2, a3, a4, a5], _ => exact ⟨a0, a1, a2, a3, a4, a5, rfl⟩
  have h0 := hf 0 _ rfl
  simp only [cells3] at h0
  replace h0 : okT Try.prog k 3 [a0] := h0
  obtain ⟨x0, e0⟩ := t3 h0
  have h1 := hf 1 _ rfl
  simp only [cells3] at h1
  replace h1 : okT Try.prog k 3 [a1] := h1
  obtain ⟨x1, e1⟩ := t3 h1
  have h2 := hf 2 _ rfl
  simp only [cells3] at h2
  replace h2 : okT Try.prog k 3 [a2] := h2
  obtain ⟨x2, e2⟩ := t3 h2
  have h3 := hf 3 _ rfl
  simp only [cells3] at h3
  replace h3 : okT Try.prog k 3 [a3] := h3
  obtain ⟨x3, e3⟩ := t3 h3
  have h4 := hf 4 _ rfl
  simp only [cells31] at h4
  replace h4 : okT Try.prog k 31 [a4, a5] := h4
  obtain ⟨x4, e4⟩ := t31 h4
  simp only [List.cons.injEq, and_true] at e0
  subst e0
  simp only [List.cons.injEq, and_true] at e1
  subst e1
  simp only [List.cons.injEq, and_true] at e2
  subst e2
  simp only [List.cons.injEq, and_true] at e3
  subst e3
  simp only [List.cons.injEq, and_true] at e4
  obtain ⟨rfl, rfl⟩ := e4
  exact ⟨⟨x0, x1, x2, x3, x4⟩, rfl⟩
theorem cells112 : Try.prog.cellsOf 112 = 2 := by kernel_rfl
theorem t112 (k : Nat) (ts : List T) (h : okT Try.prog k 112 ts) : ∃ g : GoneE, ts = g.enc := by
  obtain ⟨k, hl, hf⟩ := inv_struct Try.underlying112 h
  rw [cells112] at hl
  obtain ⟨a0, a1, rfl⟩ : ∃ a0 a1, ts = [a0, a1] := by
    match ts, hl with
    | [a0, a1], _ => exact ⟨a0, a1, rfl⟩
  have h0 := hf 0 _ rfl
  simp only [cells3] at h0
  replace h0 : okT Try.prog k 3 [a0] := h0
  obtain ⟨x0, e0⟩ := t3 h0
  have h1 := hf 1 _ rfl
  simp only [cells3] at h1
  replace h1 : okT Try.prog k 3 [a1] := h1
  obtain ⟨x1, e1⟩ := t3 h1
  simp only [List.cons.injEq, and_true] at e0
  subst e0
  simp only [List.cons.injEq, and_true] at e1
  subst e1
  exact ⟨⟨x0, x1⟩, rfl⟩
theorem cells22 : Try.prog.cellsOf 22 = 1 := by kernel_rfl
theorem t22 {k : Nat} {ts : List T} (h : okT Try.prog k 22 ts) : ∃ l : List Stored, ts = [.sl 6 (l.map Stored.enc)] := inv_list Stored.enc Try.underlying22 cells102 t102 h
theorem cells23 : Try.prog.cellsOf 23 = 1 := by kernel_rfl
theorem t23 {k : Nat} {ts : List T} (h : okT Try.prog k 23 ts) : ∃ l : List GoneE, ts = [.sl 2 (l.map GoneE.enc)] := inv_list GoneE.enc Try.underlying23 cells112 t112 h
theorem cells25 : Try.prog.cellsOf 25 = 5 := by kernel_rfl
theorem t25 {k : Nat} {ts : List T} (h : okT Try.prog k 25 ts) : ∃ b : Box, ts = b.enc := by
  obtain ⟨k, hl, hf⟩ := inv_struct Try.underlying25 h
  rw [cells25] at hl
  obtain ⟨a0, a1, a2, a3, a4, rfl⟩ : ∃ a0 a1 a2 a3 a4, ts = [a0, a1, a2, a3, a4] := by
    match ts, hl with
    | [a0, a1, a2, a3, a4], _ => exact ⟨a0, a1, a2, a3, a4, rfl⟩
  have h0 := hf 0 _ rfl
  simp only [cells3] at h0
  replace h0 : okT Try.prog k 3 [a0] := h0
  obtain ⟨x0, e0⟩ := t3 h0
  have h1 := hf 1 _ rfl
  simp only [cells3] at h1
  replace h1 : okT Try.prog k 3 [a1] := h1
  obtain ⟨x1, e1⟩ := t3 h1
  have h2 := hf 2 _ rfl
  simp only [cells3] at h2
  replace h2 : okT Try.prog k 3 [a2] := h2
  obtain ⟨x2, e2⟩ := t3 h2
  have h3 := hf 3 _ rfl
  simp only [cells22] at h3
  replace h3 : okT Try.prog k 22 [a3] := h3
  obtain ⟨x3, e3⟩ := t22 h3
  have h4 := hf 4 _ rfl
  simp only [cells23] at h4
  replace h4 : okT Try.prog k 23 [a4] := h4
  obtain ⟨x4, e4⟩ := t23 h4
  simp only [List.cons.injEq, and_true] at e0
  subst e0
  simp only [List.cons.injEq, and_true] at e1
  subst e1
  simp only [List.cons.injEq, and_true] at e2
  subst e2
  simp only [List.cons.injEq, and_true] at e3
  subst e3
  simp only [List.cons.injEq, and_true] at e4
  subst e4
  exact ⟨⟨x0, x1, x2, x3, x4⟩, rfl⟩
theorem cells27 : Try.prog.cellsOf 27 = 2 := by kernel_rfl
theorem t27 {k : Nat} {ts : List T} (h : okT Try.prog k 27 ts) : ∃ l : Limit, ts = [tI l.bytes, tI l.messages] := by
  obtain ⟨k, hl, hf⟩ := inv_struct Try.underlying27 h
  rw [cells27] at hl
  obtain ⟨a0, a1, rfl⟩ : ∃ a0 a1, ts = [a0, a1] := by
    match ts, hl with
    | [a0, a1], _ => exact ⟨a0, a1, rfl⟩
  have h0 := hf 0 _ rfl
  simp only [cells3] at h0
  replace h0 : okT Try.prog k 3 [a0] := h0
  obtain ⟨x0, e0⟩ := t3 h0
  have h1 := hf 1 _ rfl
  simp only [cells3] at h1
  replace h1 : okT Try.prog k 3 [a1] := h1
  obtain ⟨x1, e1⟩ := t3 h1
  simp only [List.cons.injEq, and_true] at e0
  subst e0
  simp only [List.cons.injEq, and_true] at e1
  subst e1
  exact ⟨⟨x0, x1⟩, rfl⟩
theorem cells41 : Try.prog.cellsOf 41 = 7 := by kernel_rfl
theorem t41 {k : Nat} {ts : List T} (h : okT Try.prog k 41 ts) : ∃ c : Change, ts = [tI c.kind, tI c.uid, tI c.set, tI c.clear, tI c.at_, c.msg.fs, c.msg.bd] := by
  obtain ⟨k, hl, hf⟩ := inv_struct Try.underlying41 h
  rw [cells41] at hl
  obtain ⟨a0, a1, a2, a3, a4, a5, a6, rfl⟩ : ∃ a0 a1 a2 a3 a4 a5 a6, ts = [a0, a1, a2, a3, a4, a5, a6] := by
    match ts, hl with
    | [a0, a1, a2, a3, a4, a5, a6], _ => exact ⟨a0, a1, a2, a3, a4, a5, a6, rfl⟩
  have h0 := hf 0 _ rfl
  simp only [cells3] at h0
  replace h0 : okT Try.prog k 3 [a0] := h0
  obtain ⟨x0, e0⟩ := t3 h0
  have h1 := hf 1 _ rfl
  simp only [cells3] at h1
  replace h1 : okT Try.prog k 3 [a1] := h1
  obtain ⟨x1, e1⟩ := t3 h1
  have h2 := hf 2 _ rfl
  simp only [cells3] at h2
  replace h2 : okT Try.prog k 3 [a2] := h2
  obtain ⟨x2, e2⟩ := t3 h2
  have h3 := hf 3 _ rfl
  simp only [cells3] at h3
  replace h3 : okT Try.prog k 3 [a3] := h3
  obtain ⟨x3, e3⟩ := t3 h3
  have h4 := hf 4 _ rfl
  simp only [cells3] at h4
  replace h4 : okT Try.prog k 3 [a4] := h4
  obtain ⟨x4, e4⟩ := t3 h4
  have h5 := hf 5 _ rfl
  simp only [cells31] at h5
  replace h5 : okT Try.prog k 31 [a5, a6] := h5
  obtain ⟨x5, e5⟩ := t31 h5
  simp only [List.cons.injEq, and_true] at e0
  subst e0
  simp only [List.cons.injEq, and_true] at e1
  subst e1
  simp only [List.cons.injEq, and_true] at e2
  subst e2
  simp only [List.cons.injEq, and_true] at e3
  subst e3
  simp only [List.cons.injEq, and_true] at e4
  subst e4
  simp only [List.cons.injEq, and_true] at e5
  obtain ⟨rfl, rfl⟩ := e5
  exact ⟨⟨x0, x1, x2, x3, x4, x5⟩, rfl⟩
theorem cells67 : Try.prog.cellsOf 67 = 2 := by kernel_rfl
theorem t67 (k : Nat) (ts : List T) (h : okT Try.prog k 67 ts) : ∃ g : Seen, ts = g.enc := by
  obtain ⟨k, hl, hf⟩ := inv_struct Try.underlying67 h
  rw [cells67] at hl
  obtain ⟨a0, a1, rfl⟩ : ∃ a0 a1, ts = [a0, a1] := by
    match ts, hl with
    | [a0, a1], _ => exact ⟨a0, a1, rfl⟩
  have h0 := hf 0 _ rfl
  simp only [cells3] at h0
  replace h0 : okT Try.prog k 3 [a0] := h0
  obtain ⟨x0, e0⟩ := t3 h0
  have h1 := hf 1 _ rfl
  simp only [cells3] at h1
  replace h1 : okT Try.prog k 3 [a1] := h1
  obtain ⟨x1, e1⟩ := t3 h1
  simp only [List.cons.injEq, and_true] at e0
  subst e0
  simp only [List.cons.injEq, and_true] at e1
  subst e1
  exact ⟨⟨x0, x1⟩, rfl⟩
theorem cells52 : Try.prog.cellsOf 52 = 1 := by kernel_rfl
theorem t52 {k : Nat} {ts : List T} (h : okT Try.prog k 52 ts) : ∃ l : List Seen, ts = [.sl 2 (l.map Seen.enc)] := inv_list Seen.enc Try.underlying52 cells67 t67 h
theorem cells54 : Try.prog.cellsOf 54 = 2 := by kernel_rfl
theorem t54 {k : Nat} {ts : List T} (h : okT Try.prog k 54 ts) : ∃ v : View, ts = [tI v.seq, .sl 2 (v.seen.map Seen.enc)] := by
  obtain ⟨k, hl, hf⟩ := inv_struct Try.underlying54 h
  rw [cells54] at hl
  obtain ⟨a0, a1, rfl⟩ : ∃ a0 a1, ts = [a0, a1] := by
    match ts, hl with
    | [a0, a1], _ => exact ⟨a0, a1, rfl⟩
  have h0 := hf 0 _ rfl
  simp only [cells3] at h0
  replace h0 : okT Try.prog k 3 [a0] := h0
  obtain ⟨x0, e0⟩ := t3 h0
  have h1 := hf 1 _ rfl
  simp only [cells52] at h1
  replace h1 : okT Try.prog k 52 [a1] := h1
  obtain ⟨x1, e1⟩ := t52 h1
  simp only [List.cons.injEq, and_true] at e0
  subst e0
  simp only [List.cons.injEq, and_true] at e1
  subst e1
  exact ⟨⟨x0, x1⟩, rfl⟩
theorem cells45 : Try.prog.cellsOf 45 = 1 := by kernel_rfl
theorem t45 {k : Nat} {ts : List T} (h : okT Try.prog k 45 ts) : ∃ l : List Int, ts = [.sl 1 (l.map intE)] := inv_list intE Try.underlying45 cells3 t3e h
theorem szLL_len {α : Type} (enc : α → List T) (h : ∀ a, 1 ≤ szL (enc a)) : ∀ l : List α, l.length ≤ szLL (l.map enc)
  | [] => Nat.zero_le _
  | a :: l => by
    have := szLL_len enc h l
    have := h a
    simp only [List.map_cons, List.length_cons, szLL]
    omega
theorem szLL_mem {α : Type} (enc : α → List T) : ∀ {l : List α} {a : α}, a ∈ l → szL (enc a) ≤ szLL (l.map enc)
  | b :: l, a, h => by
    simp only [List.map_cons, szLL]
    rcases List.mem_cons.1 h with rfl | h
    · omega
    · have := szLL_mem enc h
      omega
theorem Field.size (f : Field) : f.sz + 1 ≤ szL f.enc := by simp only [szL, T.sz, Field.sz]; omega
theorem fsz_size : ∀ l : List Field, fsz l ≤ szLL (l.map Field.enc)
  | [] => Nat.zero_le _
  | f :: l => by
    have h1 := fsz_size l
    have h2 := f.size
    simp only [fsz, List.map_cons, List.sum_cons, szLL] at h1 ⊢
    omega
theorem Msg.size (m : Msg) : m.sz ≤ szL [m.fs, m.bd] := by
  have h1 := fsz_size m.fields
  have h2 := szLL_len byteT (fun b => by simp [byteT, szL, T.sz]) m.body
  simp only [szL, T.sz, Msg.sz]
  omega
theorem Box.size {b : Box} {n : Nat} (h : szL b.enc ≤ n) (hn : n ≤ 1000000000) : b.small := by
  simp only [szL, T.sz] at h
  have h1 := szLL_len Stored.enc (fun e => by simp only [szL, T.sz]; omega) b.entries
  have h2 := szLL_len GoneE.enc (fun e => by simp only [szL, T.sz]; omega) b.gone
  refine ⟨by omega, by omega, fun x hx => ?_⟩
  have h3 := szLL_mem Stored.enc hx
  have h4 := x.msg.size
  simp only [szL, T.sz] at h3 h4
  omega
end Go.Ev

namespace Go.Ev
open Go.Proofs Go.ChangeShapes Go.WideShapes Go.ChangeAt Go.RowKit Go.Deep
section
variable {H : Type} {enc : TypeId × Value → H} {P : Program} {W W' : World}
theorem trodAll_stays (hl : laidOutB P = true) {sp : Nat → Bool} : ∀ (ts : List TypeId) (vs : List Value) (ds : List (DataW H)) (ps : List MemPlace), (∀ t, t ∈ ts → P.readableRec t = true ∧ t < P.types.size) →
    DataW.TrodAll enc P W 0 (fun _ => true) true ts vs ds ps → (∀ p, p ∈ ps → W.sameAt W' p) → (∀ p, p ∈ ps → sp p.block = true) → DataW.TrodAll enc P W' 0 sp true ts vs ds ps
  | [], vs, ds, ps, _, h, _, _ => by
    obtain ⟨rfl, rfl, rfl⟩ := trodAll_nil h
    exact trodAll_mk0
  | t :: ts, vs, ds, ps, hr, h, hs, hsp => by
    obtain ⟨v, vs', d, ds', p, q, rfl, rfl, rfl, h0, h1⟩ := trodAll_cons h
    exact trodAll_cons_mk (WideElems.Trod_stays hl (hr t (List.mem_cons_self ..)).1 (hr t (List.mem_cons_self ..)).2 h0 (fun x hx => hs x (List.mem_append_left _ hx)) (fun x hx => hsp x (List.mem_append_left _ hx)))
      (trodAll_stays hl ts vs' ds' q (fun u hu => hr u (List.mem_cons_of_mem _ hu)) h1 (fun x hx => hs x (List.mem_append_right _ hx)) (fun x hx => hsp x (List.mem_append_right _ hx)))
theorem post_true {f : Func} {s : ChangeSpec} {apart : Bool} {args : Array Value} {ds gs : List (DataW H)} {before : List MemPlace} {t : TypeId} (hl : laidOutB P = true)
    (hr : ∀ t, t ∈ f.params.toList → P.readableRec t = true ∧ t < P.types.size) (hv : s.vars = []) (hres : f.resultTypes = #[t]) (hb : P.underlying t = some .bool)
    (hW : DataW.Whole enc P f.params.toList s.vars apart W args.toList ds gs before) (hfn : s.fn H (ds ++ gs) = { results := [.lit (.bool true)], args := ds }) (hB : Below W.heap.size W W') :
    s.post enc P f apart true false false W args (.bool true) W' := by
  have hlt := hW.lt
  have hW0 := hW
  obtain ⟨p, q, hA, hV, rfl, hz, hn⟩ := hW
  rw [hv] at hV
  obtain ⟨rfl, rfl⟩ := trodVars_none hV
  rw [List.append_nil] at hlt hW0
  have hsame : ∀ x, x ∈ p → W.sameAt W' x := fun x hx => hB.same (hlt x hx)
  refine ⟨ds, [], p, [], p, [], hW0, ?_, ?_, ?_, ?_, fun h => by cases h⟩
  · rw [hfn, hres]
    exact trodAll_cons_mk (shut_bool hb true) trodAll_mk0
  · rw [hfn]
    exact trodAll_stays hl _ _ _ _ hr hA hsame fun x hx => by simpa using hlt x hx
  · rw [hfn, hv]
    rfl
  · exact hB.frame _
theorem arg_struct {t : TypeId} {fs : Array Go.Field} {r : Reach} {b0 : Nat} {v : Value} {d : DataW H} {ps : List MemPlace} (ht : P.underlying t = some (.struct fs)) (hval : Value.okWide P W r b0 t v) (hd : DataW.Trod enc P W 0 (fun _ => true) true t v d ps) (hp : plainB P 9 t = true) :
    ∃ ts, okT P 9 t ts ∧ (∀ β, RepSV W (fun b => b < W.heap.size) β (.c (.agg (ts.map .t))) v) ∧ szL ts ≤ Go.Proofs.Ytbempckmbfbjgaa.Rows.uptoBulk d := by
  obtain ⟨cs, rfl, _⟩ := okWide_struct ht hval
  obtain ⟨fuel, hf⟩ := hd
  obtain ⟨ts, h1, h2, h3⟩ := trod_rd 9 t fuel _ (d, ps) hp hf
  refine ⟨ts, h2, fun β => ⟨cs.toList, by simp, ?_⟩, h3⟩
  have h1 : All2 (fun t v => Rd W (fun b => b < W.heap.size) v t) ts cs.toList := h1
  refine All2.of_get (by rw [List.length_map, h1.len]) fun i a b ha hb => ?_
  rw [List.getElem?_map, Option.map_eq_some_iff] at ha
  obtain ⟨x, hx, rfl⟩ := ha
  obtain ⟨b', hb', hr⟩ := h1.get i x hx
  rw [hb] at hb'
  injection hb' with hb'
  subst hb'
  exact hr
/-- a run of the evaluator that hands nothing over and leaves true -/
theorem run_true {f : FuncId} {vs : List SV} {args : Array Value} (h : Snd P f vs [] (out (svB true))) (hargs : All2 (RepSV W (fun b => b < W.heap.size) (fun _ => none)) vs args.toList) :
    Calls P f args W fun e W' => e = .returned (.bool true) ∧ Below W.heap.size W W' := by
  have hp : Pre W (fun b => b < W.heap.size) (fun _ => none) vs [] args.toList := ⟨fun b hb => hb, hargs, fun j m hm => by simp at hm, fun j b base hj => by simp at hj, fun i j b base base' hi => by simp at hi⟩
  have hc := h W _ _ args.toList hp
  rw [Array.toArray_toList] at hc
  refine hc.mono ?_
  rintro e W' ⟨v, β', I', rfl, hL⟩
  obtain rfl := rep_bool hL.res
  refine ⟨rfl, hL.grow.os, hL.grow.tape, hL.grow.output, hL.grow.size, fun k hk => hL.grow.block k hk ?_⟩
  rintro ⟨j, base, hj, _⟩
  simp at hj
end
end Go.Ev
