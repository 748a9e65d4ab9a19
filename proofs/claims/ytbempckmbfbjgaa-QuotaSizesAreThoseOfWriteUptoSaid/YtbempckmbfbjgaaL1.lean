/- The first three laws, of the evaluator. No condition. -/
import Derived.Test.YtbempckmbfbjgaaBi
set_option linter.unusedVariables false
set_option linter.unusedSimpArgs false
set_option linter.constructorNameAsVariable false
set_option linter.unnecessarySimpa false
namespace Go.Ev
open Go.Proofs.Ytbempckmbfbjgaa.Code
set_option maxRecDepth 100000
theorem Box.small.apply {m : Box} {c : Change} (hs : m.small) (hc : c.msg.sz ≤ 1000000000) (h : ((applyV m c).2.code != 0) = false) : (applyV m c).1.small := by
  obtain ⟨hv, hv'⟩ := apply_valid h
  have hl := hv'.le
  have hg := hv'.lg
  refine ⟨by omega, by omega, fun x hx => ?_⟩
  unfold applyV at hx h
  split at h
  · rename_i h0; exact absurd h0 (by rw [h]; simp)
  · rename_i h0
    rw [if_neg h0] at hx
    unfold applyS at hx h
    split at h
    · rename_i h1; exact absurd h1 (by rw [h]; simp)
    · rename_i h1
      rw [if_neg h1] at hx
      split at h
      · simp at h
      · rename_i h2
        rw [if_neg h2] at hx
        split at h
        · rename_i h3
          rw [if_pos h3] at hx
          split at h
          · simp at h
          · rename_i h4
            rw [if_neg h4] at hx
            split at h
            · simp at h
            · rename_i h5
              rw [if_neg h5] at hx
              simp only [added, List.mem_append, List.mem_singleton] at hx
              rcases hx with hx | rfl
              · exact hs.m x hx
              · exact hc
        · rename_i h3
          rw [if_neg h3] at hx
          split at h
          · simp at h
          · rename_i h4
            rw [if_neg h4] at hx
            obtain ⟨e, he, _⟩ := findS_lt (m := m) (u := c.uid) (by omega)
            rw [he] at hx h
            simp only at hx h
            split at hx
            · simp only [flagged] at hx
              split at hx
              · rcases mem_set hx with rfl | hx
                · exact hs.m e (List.mem_of_getElem? he)
                · exact hs.m x hx
              · exact hs.m x hx
            · exact hs.m x ((List.eraseIdx_sublist m.entries _).subset hx)
theorem listFault_one {m : Box} (h : Valid m) : listFault [m] = ⟨0, 0⟩ := by
  have h0 : ((boxFault m).code != 0) = false := (boxFault_valid m).2 h
  simp [listFault, badB, h0]
def addC (x : Msg) : Change := ⟨1, 0, 0, 0, 0, x⟩
/-- what an added message makes of a mailbox -/
theorem apply_add {m : Box} {x : Msg} (h : ((applyV m (addC x)).2.code != 0) = false) : (applyV m (addC x)).1 = added m (addC x) := by
  unfold applyV at h ⊢
  split at h
  · rename_i h0; exact absurd h0 (by rw [h]; simp)
  · rename_i h0
    rw [if_neg h0]
    unfold applyS at h ⊢
    split at h
    · rename_i h1; exact absurd h1 (by rw [h]; simp)
    · rename_i h1
      rw [if_neg h1]
      split at h
      · simp at h
      · rename_i h2
        rw [if_neg h2]
        have hk : ((addC x).kind == 1) = true := rfl
        rw [if_pos hk] at h ⊢
        split at h
        · simp at h
        · rename_i h4
          rw [if_neg h4]
          split at h
          · simp at h
          · rename_i h5
            rw [if_neg h5]
theorem usedL_one (m : Box) : usedL [m] = ⟨(usedE m.entries : Nat), (m.entries.length : Nat)⟩ := by simp [usedL]
theorem used_added (m : Box) (x : Msg) : usedL [added m (addC x)] = ⟨((usedE m.entries + (writeRes x).1.length : Nat) : Int), ((m.entries.length + 1 : Nat) : Int)⟩ := by
  rw [usedL_one]
  simp [added, usedE, sizeE, addC]
section
variable {n d : Nat}
theorem e13 (hd : 30 ≤ d) (hn : 1000000000000 ≤ n) : cz n d 13 [] [] = some (out (svB true)) := callZ_le (n := 100000) (d := 30) (by omega) hd _ _ _ _ ex13
theorem law3 (m : Box) (l : Limit) (x : Msg) (hs : m.small) (hx : x.sz ≤ 1000000000) (hd : 30 ≤ d) (hn : 1000000000000 ≤ n) : cz n (d + 2) 3 [m.sv, l.sv, x.sv] [] = some (out (svB true)) := by
  refine run h3 false tab3 rfl ?_
  rw [w3]
  have hs1 : ∀ b, b ∈ [m] → b.small := fun b hb => by rw [List.mem_singleton.1 hb]; exact hs
  have c14 := deep (d' := d + 1) (d := 17) (by omega) (k14 (n := n) (d := 15) [m] l x hs1 (by simp) hx (by omega) hn)
  have c15 := deep (d' := d + 1) (d := 15) (by omega) (k15 (n := n) (d := 13) m (addC x) hs hx (by omega) hn)
  have tail : ∀ (b : Bool), (fitsS [m] l x).1 = b → ((fitsS [m] l x).2.code != 0) = false → ((applyV m (addC x)).2.code != 0) = false →
      (listFault [(applyV m (addC x)).1] = ⟨0, 0⟩ ∧ (applyV m (addC x)).1.small ∧ b = (decide ((usedL [(applyV m (addC x)).1]).bytes ≤ l.bytes) && decide ((usedL [(applyV m (addC x)).1]).messages ≤ l.messages))) := by
    intro b hb h1 h2
    have hv := apply_valid h2
    refine ⟨listFault_one hv.2, hs.apply hx h2, ?_⟩
    rw [apply_add h2, used_added, ← hb]
    unfold fitsS at h1 ⊢
    split at h1
    · rename_i q; exact absurd q (by rw [h1]; simp)
    · rename_i q1
      rw [if_neg q1]
      split at h1
      · rename_i q; exact absurd q (by rw [h1]; simp)
      · rename_i q2
        rw [if_neg q2]
        split at h1
        · rename_i q; exact absurd q (by simp only at h1; rw [h1]; simp)
        · rename_i q3
          rw [if_neg q3, usedL_one]
          simp only [withinB]
          congr 2 <;> simp only [Int.natCast_add, Int.natCast_one]
  refine ⟨true, e13 (by omega) hn, fork_iff.2 ⟨fun _ => ⟨(fitsS [m] l x).1, (fitsS [m] l x).2, c14, fork_iff.2 ⟨fun hb => ⟨_, _, c15, fork_iff.2 ⟨fun _ => rfl, fun h1 => fork_iff.2 ⟨fun _ => rfl, fun h2 => ?_⟩⟩⟩, fun hb => ⟨_, _, c15, fork_iff.2 ⟨fun _ => rfl, fun h1 => fork_iff.2 ⟨fun _ => rfl, fun h2 => ?_⟩⟩⟩⟩⟩, fun h => by cases h⟩⟩
  · obtain ⟨t1, t2, t3⟩ := tail true hb h1 h2
    have c16 := deep (d' := d + 1) (d := 17) (by omega) (k16 (n := n) (d := 15) [(applyV m (addC x)).1] (fun b hb => by rw [List.mem_singleton.1 hb]; exact t2) (by simp) (by omega) hn)
    have hu : usedS [(applyV m (addC x)).1] = (usedL [(applyV m (addC x)).1], ⟨0, 0⟩) := by simp [usedS, t1]
    rw [hu] at c16
    have t3' := t3.symm
    rw [Bool.and_eq_true, decide_eq_true_eq, decide_eq_true_eq] at t3'
    refine ⟨_, _, c16, fork_iff.2 ⟨fun _ => fork_dec.2 ⟨fun _ => fork_dec.2 ⟨fun _ => rfl, fun h => absurd t3'.2 h⟩, fun h => absurd t3'.1 h⟩, fun h => by cases h⟩⟩
  · obtain ⟨t1, t2, t3⟩ := tail false hb h1 h2
    have c16 := deep (d' := d + 1) (d := 17) (by omega) (k16 (n := n) (d := 15) [(applyV m (addC x)).1] (fun b hb => by rw [List.mem_singleton.1 hb]; exact t2) (by simp) (by omega) hn)
    have hu : usedS [(applyV m (addC x)).1] = (usedL [(applyV m (addC x)).1], ⟨0, 0⟩) := by simp [usedS, t1]
    rw [hu] at c16
    refine ⟨_, _, c16, fork_iff.2 ⟨fun _ => fork_dec.2 ⟨fun a => fork_dec.2 ⟨fun b => ?_, fun _ => rfl⟩, fun _ => rfl⟩, fun h => by cases h⟩⟩
    simp [a, b] at t3
theorem law5 (m : Box) (x : Msg) (hs : m.small) (hx : x.sz ≤ 1000000000) (hd : 30 ≤ d) (hn : 1000000000000 ≤ n) : cz n (d + 2) 5 [m.sv, x.sv] [] = some (out (svB true)) := by
  refine run h5 false tab5 rfl ?_
  rw [w5]
  have hs1 : ∀ b, b ∈ [m] → b.small := fun b hb => by rw [List.mem_singleton.1 hb]; exact hs
  have c18 := deep (d' := d + 1) (d := 11) (by omega) (k18 (n := n) (d := 9) x (by omega) (by omega) hn)
  have c15 := deep (d' := d + 1) (d := 15) (by omega) (k15 (n := n) (d := 13) m (addC x) hs hx (by omega) hn)
  refine ⟨true, e13 (by omega) hn, fork_iff.2 ⟨fun _ => ⟨_, _, c18, _, _, c15, fork_iff.2 ⟨fun _ => rfl, fun h1 => fork_iff.2 ⟨fun _ => rfl, fun h2 => ?_⟩⟩⟩, fun h => by cases h⟩⟩
  have hv := apply_valid h2
  have c16 := deep (d' := d + 1) (d := 17) (by omega) (k16 (n := n) (d := 15) [m] hs1 (by simp) (by omega) hn)
  have c16' := deep (d' := d + 1) (d := 17) (by omega) (k16 (n := n) (d := 15) [(applyV m (addC x)).1] (fun b hb => by rw [List.mem_singleton.1 hb]; exact hs.apply hx h2) (by simp) (by omega) hn)
  have hu : usedS [m] = (usedL [m], ⟨0, 0⟩) := by simp [usedS, listFault_one hv.1]
  have hu' : usedS [(applyV m (addC x)).1] = (usedL [(applyV m (addC x)).1], ⟨0, 0⟩) := by simp [usedS, listFault_one hv.2]
  rw [hu] at c16
  rw [hu'] at c16'
  have hw := writeRes_le x
  have hue := usedE_le m.entries
  have hle := hv.1.le
  refine ⟨_, _, c16, _, _, c16', fork_iff.2 ⟨fun _ => fork_iff.2 ⟨fun _ => ?_, fun h => by cases h⟩, fun h => by cases h⟩⟩
  rw [apply_add h2, used_added, usedL_one, List.length_map]
  rw [wrapI (by simp only; omega) (by simp only; omega), wrapI (by simp only; omega) (by simp only; omega)]
  refine fork_iff.2 ⟨fun _ => fork_iff.2 ⟨fun _ => rfl, fun h => ?_⟩, fun h => ?_⟩
  · rw [beq_eq_false_iff_ne] at h
    exact absurd (by simp only [Int.natCast_add, Int.natCast_one]) h
  · rw [beq_eq_false_iff_ne] at h
    exact absurd (by simp only [Int.natCast_add]) h
end
end Go.Ev
