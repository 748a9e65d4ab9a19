/- The second law, of the evaluator. No condition. -/
import Derived.Test.YtbempckmbfbjgaaL1
set_option linter.unusedVariables false
set_option linter.unusedSimpArgs false
set_option linter.constructorNameAsVariable false
set_option linter.unnecessarySimpa false
namespace Go.Ev
open Go.Proofs.Ytbempckmbfbjgaa.Code
set_option maxRecDepth 100000
def nowOf (es : List Stored) : Limit := ⟨(usedE es : Nat), (es.length : Nat)⟩
theorem excess_step (l : Limit) (e : Stored) (es : List Stored) : excessL l (e :: es) (nowOf (e :: es)) = if withinB (nowOf (e :: es)).bytes (nowOf (e :: es)).messages l.bytes l.messages then [] else e.uid :: excessL l es (nowOf es) := by
  simp only [excessL]
  have f1 : (nowOf (e :: es)).bytes - ((sizeE e : Nat) : Int) = (nowOf es).bytes := by
    simp only [nowOf, usedE, List.map_cons, List.sum_cons]; omega
  have f2 : (nowOf (e :: es)).messages - 1 = (nowOf es).messages := by
    simp only [nowOf, List.length_cons]; omega
  rw [f1, f2]
theorem excess_split (l : Limit) : ∀ es : List Stored, excessL l es (nowOf es) = (es.take (excessL l es (nowOf es)).length).map (·.uid) ∧ excessL l (es.drop (excessL l es (nowOf es)).length) (nowOf (es.drop (excessL l es (nowOf es)).length)) = []
  | [] => ⟨rfl, rfl⟩
  | e :: es => by
    have ih := excess_split l es
    rw [excess_step]
    split
    · rename_i h
      refine ⟨rfl, ?_⟩
      simp only [List.length_nil, List.drop_zero]
      rw [excess_step, if_pos h]
    · simp only [List.length_cons, List.take_succ_cons, List.drop_succ_cons, List.map_cons]
      exact ⟨by rw [← ih.1], ih.2⟩
def remC (u : Int) : Change := ⟨3, u, 0, 0, 0, ⟨[], []⟩⟩
theorem rem_fault (u : Int) : changeFault (remC u) = ⟨0, 0⟩ := rfl
theorem apply_rem {m : Box} {e : Stored} {es : List Stored} (hv : Valid m) (he : m.entries = e :: es) (hq : m.nextSeq < 1000000) : applyV m (remC e.uid) = (removedBox m 0 e, ⟨0, 0⟩) := by
  have h0 : ((boxFault m).code != 0) = false := (boxFault_valid m).2 hv
  have h1 : ((changeFault (remC e.uid)).code != 0) = false := by rw [rem_fault]; rfl
  have h2 : (m.nextSeq == 1000000) = false := by rw [beq_eq_false_iff_ne]; omega
  have h3 : ((remC e.uid).kind == 1) = false := rfl
  have h4 : findS m (remC e.uid).uid = 0 := by
    unfold findS
    rw [he]
    simp [idxL, remC]
  have h5 : ((remC e.uid).kind == 2) = false := rfl
  unfold applyV applyS
  rw [h0, h1, h2, h3, h4, he]
  simp only [Bool.false_eq_true, if_false, Int.toNat_zero, List.getElem?_cons_zero, h5]
  rw [if_neg (by omega)]
section
variable {n d : Nat}
theorem at4 (l : Limit) (us : List Int) (hu : us.length ≤ 1000000000) (hd : 15 ≤ d) (hn : 1000000000000 ≤ n) : ∀ (suf pre : List Int) (b : Box) (m : Nat), us = pre ++ suf → suf.length < m → Valid b → b.small → suf = (b.entries.take suf.length).map (·.uid) → b.nextSeq + suf.length ≤ 1000000 →
    ∃ b', Valid b' ∧ b'.small ∧ b'.entries = b.entries.drop suf.length ∧ At S0 (mix D0 (cz n d)) n [2, 3, 5, 7] c4l0 (C4_0 b l us pre.length) m (.exit 0 [((.s 2), (.sv (.c (.one (.ptr 200 5 0))))), ((.s 3), (.sv (.c (.one (.ptr 300 2 0))))), ((.c 200 0), (.cell (.t (tI b'.nextUid)))), ((.c 200 1), (.cell (.t (tI b'.nextSeq)))), ((.c 200 2), (.cell (.t (tI b'.horizon)))), ((.c 200 3), (.cell (.t b'.es))), ((.c 200 4), (.cell (.t b'.gs))), ((.c 300 0), (.cell (.t (tI l.bytes)))), ((.c 300 1), (.cell (.t (tI l.messages))))])
  | suf, pre, b, 0, _, hm, _, _, _, _ => by omega
  | [], pre, b, m + 1, he, hm, hv, hs, ht, hq => by
    refine ⟨b, hv, hs, rfl, At.step hb4_0 ?_⟩
    rw [b4_0]
    have hlen : us.length = pre.length := by rw [he]; simp
    refine fork_dec.2 ⟨fun h => ?_, fun h => rfl⟩
    simp at h; omega
  | u :: suf, pre, b, m + 1, he, hm, hv, hs, ht, hq => by
    have hlen : us.length = pre.length + (suf.length + 1) := by rw [he]; simp
    simp only [List.length_cons] at hm hq ht
    cases hbe : b.entries with
    | nil => rw [hbe] at ht; simp at ht
    | cons e es =>
      rw [hbe] at ht
      simp only [List.take_succ_cons, List.map_cons, List.cons.injEq] at ht
      obtain ⟨rfl, ht⟩ := ht
      have hA := apply_rem hv hbe (by omega)
      have hc : ((applyV b (remC e.uid)).2.code != 0) = false := by rw [hA]; rfl
      have hv' := (apply_valid hc).2
      have hs' := hs.apply (c := remC e.uid) (by simp [remC, Msg.sz, fsz]) hc
      rw [hA] at hv' hs'
      have hre : (removedBox b 0 e).entries = es := by simp [removedBox, hbe]
      obtain ⟨b', h1, h2, h3, h4⟩ := at4 l us hu hd hn suf (pre ++ [e.uid]) (removedBox b 0 e) m (by simp [he]) (by omega) hv' hs' (by rw [hre]; exact ht) (by simp only [removedBox]; omega)
      refine ⟨b', h1, h2, by rw [h3, hre]; rfl, At.step hb4_0 ?_⟩
      rw [b4_0]
      have c15 := deep (d' := d) (d := 15) (by omega) (k15 (n := n) (d := 13) b (remC e.uid) hs (by simp [remC, Msg.sz, fsz]) (by omega) hn)
      rw [hA] at c15
      refine fork_dec.2 ⟨fun _ => ⟨by omega, e.uid, mget (by rw [he]; simp), removedBox b 0 e, ⟨0, 0⟩, c15, fork_iff.2 ⟨fun h => (nomatch h), fun _ => ?_⟩⟩, fun h => ?_⟩
      · rw [wrap1 (by omega)]
        simp only [List.length_append, List.length_cons, List.length_nil, Nat.zero_add] at h4
        exact h4
      · simp at h; omega
theorem law4 (m : Box) (l : Limit) (hs : m.small) (hd : 30 ≤ d) (hn : 1000000000000 ≤ n) : cz n (d + 2) 4 [m.sv, l.sv] [] = some (out (svB true)) := by
  refine run (h4 m l) false tab4 rfl ?_
  rw [w4]
  have c17 := deep (d' := d + 1) (d := 17) (by omega) (k17 (n := n) (d := 15) m l hs (by omega) hn)
  have hcase : ((excessS m l).2.code != 0) = true → (excessS m l).1 = [] := by
    intro h
    unfold excessS at h ⊢
    split
    · rfl
    · rename_i h1
      rw [if_neg h1] at h
      split
      · rfl
      · rename_i h2
        rw [if_neg h2] at h
        exact nomatch h
  refine ⟨true, e13 (by omega) hn, fork_iff.2 ⟨fun _ => ⟨_, _, c17, fork_iff.2 ⟨fun h1 => ?_, fun h1 => fork_dec.2 ⟨fun h2 => ?_, fun h2 => ?_⟩⟩⟩, fun h => by cases h⟩⟩
  · rw [hcase h1]
    exact fork_iff.2 ⟨fun _ => rfl, fun h => by cases h⟩
  · have h1' : ((excessS m l).2.code == 0) = true := by simpa using h1
    refine fork_iff.2 ⟨fun _ => rfl, fun _ => fork_iff.2 ⟨fun _ => rfl, fun h => tf _ h1' h⟩⟩
  · -- the loop
    have hb : ((boxFault m).code != 0) = false ∧ ((limitFault l).code != 0) = false := by
      unfold excessS at h1
      split at h1
      · rename_i h; exact absurd h (by simp only at h1; rw [h1]; simp)
      · rename_i h
        split at h1
        · rename_i h'; exact absurd h' (by simp only at h1; rw [h1]; simp)
        · rename_i h'; exact ⟨by simpa using h, by simpa using h'⟩
    have hv := (boxFault_valid m).1 hb.1
    have hX : excessS m l = (excessL l m.entries (nowOf m.entries), ⟨0, 0⟩) := by
      unfold excessS
      rw [hb.1, hb.2]
      rfl
    rw [hX]
    simp only
    obtain ⟨s1, s2⟩ := excess_split l m.entries
    have hle := hv.le
    have hlen : (excessL l m.entries (nowOf m.entries)).length ≤ 200 := by
      have := congrArg List.length s1
      rw [List.length_map, List.length_take] at this
      omega
    obtain ⟨b', v1, v2, v3, v4⟩ := at4 (n := n) (d := d + 1) l (excessL l m.entries (nowOf m.entries)) (by omega) (by omega) hn (excessL l m.entries (nowOf m.entries)) [] m n rfl (by omega) hv hs s1 (by omega)
    have c17' := deep (d' := d + 1) (d := 17) (by omega) (k17 (n := n) (d := 15) b' l v2 (by omega) hn)
    have hX' : excessS b' l = ([], ⟨0, 0⟩) := by
      unfold excessS
      rw [(boxFault_valid b').2 v1, hb.2]
      simp only [Bool.false_eq_true, if_false]
      show (excessL l b'.entries (nowOf b'.entries), _) = _
      rw [v3, s2]
    rw [hX'] at c17'
    exact ⟨b', v4, _, _, c17', fork_iff.2 ⟨fun _ => fork_iff.2 ⟨fun _ => trivial, fun h => (nomatch h)⟩, fun h => (nomatch h)⟩⟩
end
end Go.Ev
