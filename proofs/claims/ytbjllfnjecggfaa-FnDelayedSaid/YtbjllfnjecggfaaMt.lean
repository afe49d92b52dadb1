/- A region that draws its order: its first operation copies a slot; then operations that only read, calls that leave the world; then a tail in a forced order (an append). One walk. -/
import Derived.StillTailTactics
import Derived.KernelRfl
namespace Go.Proofs.Ytbjllfnjecggfaa
open Go

/-- operation n waits for operation 0, too -/
def bump (n : Nat) (ops : Array Oper) : Array Oper := ops.modify n fun o => { o with after := o.after.push ⟨0, .data⟩ }
theorem bump_size (n : Nat) (ops : Array Oper) : (bump n ops).size = ops.size := by simp [bump]
theorem bump_at (n : Nat) (ops : Array Oper) (i : Nat) : (bump n ops)[i]? = if n = i then ops[i]?.map (fun o => { o with after := o.after.push ⟨0, .data⟩ }) else ops[i]? := by
  unfold bump
  rw [Array.getElem?_modify]
theorem bump_yielded (n : Nat) (ops : Array Oper) : yielded (bump n ops) = yielded ops := by
  funext tmps j
  unfold yielded
  rw [bump_at]
  by_cases e : n = j
  · rw [if_pos e]; cases ops[j]? <;> rfl
  · rw [if_neg e]
theorem bump_ready {md : Region.Mode} (n : Nat) (ops : Array Oper) {listed : Array Bool} (h : listed.getD 0 false = true) : Region.ready md (bump n ops) listed = Region.ready md ops listed := by
  unfold Region.ready
  rw [bump_size]
  refine List.filter_congr fun i _ => ?_
  congr 1
  rw [bump_at]
  by_cases e : n = i
  rotate_left
  · rw [if_neg e]
  · rw [if_pos e]
    cases ops[i]? with
    | none => rfl
    | some o =>
      simp only [Option.map_some, Option.getD_some, Array.all_push]
      simp [h]
section
variable {P : Program} {Q : Exit → Act → World → Prop}
theorem bump_op (n : Nat) (ops : Array Oper) (i : Nat) (K : Act → World → Prop) (a : Act) (w : World) : wpOp P (bump n ops) Q i K a w = wpOp P ops Q i K a w := by
  unfold wpOp
  rw [bump_at, bump_yielded]
  by_cases e : n = i
  · rw [if_pos e]; cases ops[i]? <;> rfl
  · rw [if_neg e]
theorem bump_any {md : Region.Mode} (n : Nat) (ops : Array Oper) : ∀ (fuel : Nat) (listed : Array Bool) (a : Act) (w : World), listed.getD 0 false = true → wpAny P md (bump n ops) Q fuel listed a w → wpAny P md ops Q fuel listed a w
  | 0, listed, a, w, h0, h => ⟨by rw [← bump_ready n ops h0]; exact h.1, h.2⟩
  | fuel + 1, listed, a, w, h0, h => by
    refine ⟨fun e => h.1 (by rw [bump_ready n ops h0]; exact e), fun i hi => ?_⟩
    have := h.2 i (by rw [bump_ready n ops h0]; exact hi)
    rw [bump_op] at this
    exact wpOp_mono (fun a' w' h' => bump_any n ops fuel _ a' w' (getD_set_true h0) h') this
theorem bump_still (n : Nat) (ops : Array Oper) (w : World) (Lq : Act → Prop) : ∀ l a, wpStill P (bump n ops) w Lq l a = wpStill P ops w Lq l a
  | [], a => rfl
  | o :: l, a => by
    have ih : wpStill P (bump n ops) w Lq l = wpStill P ops w Lq l := funext (bump_still n ops w Lq l)
    unfold wpStill
    rw [bump_yielded, ih]
theorem bump_list (n : Nat) (ops : Array Oper) : ∀ l a w, wpList P (bump n ops) Q l a w = wpList P ops Q l a w
  | [], a, w => rfl
  | o :: l, a, w => by
    have ih : wpList P (bump n ops) Q l = wpList P ops Q l := by funext a w; exact bump_list n ops l a w
    unfold wpList
    rw [bump_yielded, ih]
def moveTailB (ops : Array Oper) (m : Nat) : Bool :=
  Region.noSelect ops && Region.free .any ops (Array.replicate ops.size false) 0 && (Region.ready .any ops (Array.replicate ops.size false)).contains 0 &&
  (Region.noSelect (bump (m + 1) ops) && decide (m + 1 < ops.size) && Region.sinkB .any (bump (m + 1) ops) (m + 1) && Region.chainB .any (bump (m + 1) ops) (m + 1) &&
  Region.lexHead .any (bump (m + 1) ops) (ops.size - (m + 1)) m 1 ((Array.replicate ops.size false).setIfInBounds 0 true))

theorem wp_region_move_tail {id : Nat} {a : Act} {w : World} {o0 : Oper} {rest : List Oper} (m : Nat) (x : Operand) (hm : P.follows .mixedOrders = true) (hB : moveTailB (o0 :: rest).toArray m = true)
    (hx : o0.op = .move x) (hg : o0.guard = none) (ha : o0.after = #[])
    (hQ2 : ∀ c b w, Q (.panic c) (b.put o0.dst (a.eval x)) w → Q (.panic c) b w)
    (h : wpStill P (o0 :: rest).toArray w.drew (fun a' => wpList P (o0 :: rest).toArray Q (rest.drop m) a' w.drew) (rest.take m) (a.put o0.dst (a.eval x))) :
    (Code.region id (o0 :: rest).toArray true).wp P Q a w := by
  replace h : wpStill P (o0 :: rest).toArray { w with drawn := w.drawn + 1 } (fun a' => wpList P (o0 :: rest).toArray Q (rest.drop m) a' { w with drawn := w.drawn + 1 }) (rest.take m) (a.put o0.dst (a.eval x)) := h
  simp only [moveTailB, Bool.and_eq_true, decide_eq_true_eq] at hB
  obtain ⟨⟨⟨hs0, hf0⟩, hr0⟩, ⟨⟨⟨hs, hn⟩, hsk⟩, hch⟩, hlex⟩ := hB
  have hsize : (o0 :: rest).toArray.size = rest.length + 1 := by simp
  have hn' : m < rest.length := by rw [hsize] at hn; omega
  have hyield : Yields P (o0 :: rest).toArray o0 (a.eval x) a := .inl ⟨by simp [Region.wanted, hg], fun w => by simp [execOp, hx]⟩
  refine wp_region_any hm ?_
  rw [hsize] at hf0 hr0 hlex ⊢
  refine wpAny_take (i := 0) (oi := o0) (v := a.eval x) (by simp) hs0 hf0 hr0 hQ2 hyield ?_
  refine bump_any (m + 1) _ _ _ _ _ (by simp) ?_
  generalize hops : (o0 :: rest).toArray = ops at *
  have hat : ∀ j, ops[j]? = (o0 :: rest)[j]? := fun j => by rw [← hops, List.getElem?_toArray]
  obtain ⟨on, tl, htl⟩ : ∃ on tl, rest.drop m = on :: tl := ⟨_, _, List.drop_eq_getElem_cons hn'⟩
  have hdl : tl.length + 1 = rest.length - m := by have := congrArg List.length htl; simpa using this.symm
  have inv0 : HeadInv .any (bump (m + 1) ops) (m + 1) ((Array.replicate (rest.length + 1) false).setIfInBounds 0 true) := by
    refine ⟨by rw [bump_size, hsize]; simp, fun j oj hj hl e he _ => ?_, fun t ht htt => ?_⟩
    · by_cases hj0 : j = 0
      · subst hj0
        rw [bump_at, if_neg (by omega), hat] at hj
        simp only [List.getElem?_cons_zero, Option.some.injEq] at hj
        subst hj
        rw [ha] at he
        simp at he
      · rw [getD_set_ne false (fun e => hj0 e.symm)] at hl
        rw [getD_replicate_false] at hl
        cases hl
    · rw [getD_set_ne true (by omega)]
      rw [bump_size, hsize] at htt
      exact getD_in (by simpa using htt) (getD_replicate_false _ _)
  have H := wpAnyL_lex (md := .any) (g := rest.length + 1 - (m + 1)) (Lq := fun a' => wpList P ops Q (rest.drop m) a' { w with drawn := w.drawn + 1 }) hs hsk hch (by rw [bump_size, hsize]; omega) (rest.take m) 1 _ (a.put o0.dst (a.eval x))
    (fun j hj => by
      have hjm : j < m := by simp at hj; omega
      rw [bump_at, if_neg (by omega), hat, Nat.add_comm 1 j, List.getElem?_cons_succ, List.getElem?_take, if_pos hjm])
    (by simp; omega) inv0 (by rw [List.length_take, Nat.min_eq_left (by omega)]; exact hlex) (by rw [bump_still]; exact h)
  have := wpAny_of_head (Q' := Q) (g := rest.length + 1 - (m + 1)) (fun listed a' hL => by
    have := wpAny_of_seq (md := .any) (Q' := Q) ({ on with after := on.after.push ⟨0, .data⟩ } :: tl) (m + 1) listed a' { w with drawn := w.drawn + 1 } (fun j => by
        rw [bump_at, hat]
        have hd : ∀ k, (rest.drop m)[k]? = rest[m + k]? := fun k => by rw [List.getElem?_drop]
        rw [htl] at hd
        cases j with
        | zero => rw [if_pos rfl]; have := hd 0; simp at this; simp [← this]
        | succ j =>
          rw [if_neg (by omega)]
          have := hd (j + 1)
          rw [show m + 1 + (j + 1) = (m + (j + 1)) + 1 by omega]
          simp only [List.getElem?_cons_succ] at this ⊢
          rw [this])
      (by rw [List.length_cons, show tl.length + 1 = rest.length + 1 - (m + 1) by omega]; exact hL.1) (by
        have h2 := hL.2
        rw [htl] at h2
        rw [bump_list]
        exact h2)
    rw [List.length_cons, show tl.length + 1 = rest.length + 1 - (m + 1) by omega] at this
    exact this) _ _ _ H
  rw [List.length_take, Nat.min_eq_left (by omega), show m + (rest.length + 1 - (m + 1)) = rest.length by omega] at this
  exact this
theorem calls_still {f : FuncId} {args : Array Value} {w : World} {v : Value} (h : Calls P f args w fun e w' => e = .returned v ∧ w = w') : Calls P f args w fun e w' => e = .returned v ∧ w' = w :=
  h.mono fun _ _ ⟨a, b⟩ => ⟨a, b.symm⟩
end
end Go.Proofs.Ytbjllfnjecggfaa
