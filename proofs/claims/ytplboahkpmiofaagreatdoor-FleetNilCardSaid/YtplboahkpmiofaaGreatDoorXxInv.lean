/- What operation of the model an operation of X comes from, calls and the like. -/
import Derived.Test.YtplboahkpmiofaaGreatDoorXxIns
namespace Go.X
open Go
section
variable {P : Program} {rnd : Bool} {o : Oper}
def FromOp (_P : Program) (rnd : Bool) (o : Oper) : XC → Prop
  | .ins _ => ∀ c, o.op ≠ .defer c
  | .call f xs => ∃ c, o.op = .call c ∧ c.callee = .value (.func f) ∧ c.args.toList.mapM opnd = some xs
  | .callv fo xs => ∃ c x, o.op = .call c ∧ c.callee = .value x ∧ opnd x = some fo ∧ c.args.toList.mapM opnd = some xs
  | .invoke ro s xs => ∃ c x, o.op = .call c ∧ c.callee = .invoke x s ∧ opnd x = some ro ∧ c.args.toList.mapM opnd = some xs
  | .defer fo xs => rnd = false ∧ ∃ c x, o.op = .defer c ∧ c.callee = .value x ∧ opnd x = some fo ∧ c.args.toList.mapM opnd = some xs
  | .recover => rnd = false ∧ ∃ c, o.op = .call c ∧ c.callee = .builtin .recover
  | .panic xo => ∃ x, opnd x = some xo ∧ (o.op = .panic x ∨ ∃ c, o.op = .call c ∧ c.callee = .builtin .panic ∧ c.args.toList = [x])
theorem copExt_ins {fn : Func} {xs : List XO} {x : XC} (h : copExt P fn xs = some x) : ∃ i, x = .ins i := by
  unfold copExt at h
  split at h
  · simp at h
  · split at h
    · split at h
      · simp only [Option.some.injEq] at h; exact ⟨_, h.symm⟩
      · simp at h
    · split at h
      · split at h
        · simp only [Option.map_eq_some_iff] at h; obtain ⟨e, _, rfl⟩ := h; exact ⟨_, rfl⟩
        · simp at h
      · split at h
        · split at h
          · simp only [Option.some.injEq] at h; exact ⟨_, h.symm⟩
          · simp at h
        · simp at h
theorem copBuiltin_from {b : Builtin} {ts : Array TypeId} {args : Array Operand} {x : XC} (h : copBuiltin P rnd b ts args = some x) :
    (∃ i, x = .ins i) ∨ (x = .recover ∧ rnd = false ∧ b = .recover) ∨ (∃ xo y, x = .panic xo ∧ b = .panic ∧ args.toList = [y] ∧ opnd y = some xo) := by
  simp only [copBuiltin, Option.bind_eq_bind, Option.bind_eq_some_iff] at h
  obtain ⟨xs, hx, h⟩ := h
  split at h
  case h_9 => 
    simp only [Option.some.injEq] at h
    obtain ⟨y, hl, hy⟩ := mapM_one hx
    exact .inr (.inr ⟨_, y, h.symm, rfl, hl, hy⟩)
  case h_10 =>
    cases rnd with
    | true => simp at h
    | false =>
      simp only [Bool.false_eq_true, if_false, Option.some.injEq] at h
      exact .inr (.inl ⟨h.symm, rfl, rfl⟩)
  all_goals refine .inl ?_
  all_goals repeat' first
    | contradiction
    | (with_reducible exact ⟨_, rfl⟩)
    | (with_reducible exact ⟨_, Eq.symm h⟩)
    | (with_reducible obtain ⟨_, _, h⟩ := h)
    | (simp only [Option.bind_eq_some_iff, Option.some.injEq] at h)
    | (split at h)
theorem copOpO_from {x : XC} (h : copOpO P rnd o = some x) : FromOp P rnd o x := by
  have fin : (∃ i, x = .ins i) → (∀ c, o.op ≠ .defer c) → FromOp P rnd o x := fun ⟨i, e⟩ hd => by subst e; exact hd
  cases hop : o.op <;> simp only [copOpO, hop] at h
  case call c =>
    split at h
    · rename_i f hcal
      simp only [Option.bind_eq_bind, Option.bind_eq_some_iff] at h
      obtain ⟨xs, hxs, fn, hf, h⟩ := h
      split at h
      · simp only [Option.some.injEq] at h; subst h
        exact ⟨c, hop, hcal, hxs⟩
      · exact fin (copExt_ins h) (by simp [hop])
    · rename_i f hcal
      simp only [Option.bind_eq_bind, Option.bind_eq_some_iff, Option.some.injEq] at h
      obtain ⟨fo, hfo, xs, hxs, rfl⟩ := h
      exact ⟨c, _, hop, ‹_›, hfo, hxs⟩
    · simp only [Option.bind_eq_bind, Option.bind_eq_some_iff, Option.some.injEq] at h
      obtain ⟨fo, hfo, xs, hxs, rfl⟩ := h
      exact ⟨c, _, hop, ‹_›, hfo, hxs⟩
    · rename_i b hcal
      rcases copBuiltin_from h with h | ⟨rfl, h1, rfl⟩ | ⟨xo, y, rfl, rfl, h1, h2⟩
      · exact fin h (by simp [hop])
      · exact ⟨h1, c, hop, hcal⟩
      · exact ⟨y, h2, .inr ⟨c, hop, hcal, h1⟩⟩
  case defer c =>
    split at h
    · split at h
      · simp at h
      · rename_i hr
        simp only [Option.bind_eq_bind, Option.bind_eq_some_iff, Option.some.injEq] at h
        obtain ⟨fo, hfo, xs, hxs, rfl⟩ := h
        exact ⟨by simpa using hr, c, _, hop, ‹_›, hfo, hxs⟩
    · simp at h
  case panic y =>
    simp only [Option.bind_eq_bind, Option.bind_eq_some_iff, Option.some.injEq] at h
    obtain ⟨xo, hx, rfl⟩ := h
    exact ⟨y, hx, .inl hop⟩
  all_goals refine fin ?_ (by simp [hop])
  all_goals repeat' first
    | contradiction
    | (with_reducible exact ⟨_, rfl⟩)
    | (with_reducible exact ⟨_, Eq.symm h⟩)
    | (with_reducible obtain ⟨_, _, h⟩ := h)
    | (simp only [Option.bind_eq_bind, Option.bind_eq_some_iff, Option.some.injEq] at h)
    | (split at h)
theorem copOp_from : FromOp P rnd o (copOp P rnd o) ∨ copOp P rnd o = .ins .no := by
  unfold copOp
  split
  · rename_i x hx; exact .inl (copOpO_from hx)
  · exact .inr rfl
end
end Go.X
