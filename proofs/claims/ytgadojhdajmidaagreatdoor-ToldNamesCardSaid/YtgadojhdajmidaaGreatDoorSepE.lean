/- Further operations that change nothing. -/
import Derived.Test.YtgadojhdajmidaaGreatDoorSepD
set_option linter.unusedSimpArgs false
set_option linter.unusedVariables false
namespace Go.Sep

theorem binW_ok {P : Program} {T : Nat → Option TInf} (hT : TOk P T) {op : BinOp} {t : Nat} {x y : Value} {K : Value → Prop} (h : binW T op t x y K) (a b : Operand) :
    ∃ v, K v ∧ ∀ w, (do eqGuard op t a b x y; binOp op t x y : Sem Value).run P w = .ok v w := by
  have g : ∀ w, (∀ s, (x, y) ≠ (.nilIface, .nilIface) → (∀ p q, (x, y) ≠ (.agg p, .agg q)) → ((do eqGuard op t a b x y; s : Sem Value).run P w = s.run P w)) := by
    intro w s h1 h2
    have : (eqGuard op t a b x y).run P w = .ok () w := by
      unfold eqGuard
      cases op <;> first | rfl | (cases x <;> first | rfl | (cases y <;> first | rfl | exact absurd rfl h1 | exact absurd rfl (h2 _ _)))
    simp only [Sem.run_bind, this, Result.andThen_ok]
  unfold binW at h
  split at h
  · rename_i k n
    have g' := fun w s => g w s (by simp) (by simp)
    split at h
    · obtain ⟨k', m, rfl, hm, hk⟩ := asI_elim h
      exact ⟨_, hk, fun w => by rw [g']; simp [binOp, Op.shift, Int.not_lt.2 hm]; rfl⟩
    · obtain ⟨k', m, rfl, hm, hk⟩ := asI_elim h
      exact ⟨_, hk, fun w => by rw [g']; simp [binOp, Op.shift, Int.not_lt.2 hm]; rfl⟩
    · rename_i hn1 hn2
      obtain ⟨k', m, rfl, h2⟩ := asI_elim h
      cases hk : decide (k' = k) with
      | false => rw [hk] at h2; exact h2.elim
      | true =>
        rw [hk] at h2
        have := of_decide_eq_true hk
        subst this
        obtain ⟨v, hv, hr⟩ := intW_ok (P := P) h2 t ⟨hn1, hn2⟩
        exact ⟨v, hv, fun w => by rw [g']; exact hr w⟩
  · rename_i s
    obtain ⟨s', rfl, h2⟩ := asS_elim h
    obtain ⟨v, hv, hr⟩ := strW_ok (P := P) h2 t
    exact ⟨v, hv, fun w => by rw [g w _ (by simp) (by simp)]; exact hr w⟩
  · rename_i hx1 hx2
    split at h
    · obtain ⟨i, hi, h2⟩ := optW_some h
      cases hbb : ptrFit T i.desc with
      | false => rw [hbb] at h2; exact h2.elim
      | true =>
        rw [hbb] at h2
        simp only [cond_true] at h2
        have hp : ∀ e, i.desc = .ptr e → ∃ j, T e = some j ∧ 0 < j.size := fun e he => ptrFit_some (by rw [← he]; exact hbb)
        have hne1 : (x, y) ≠ (.nilIface, .nilIface) := by
          rintro ⟨rfl, rfl⟩; cases hd : i.desc <;> rw [hd] at h2 <;> exact h2.elim
        have hne2 : ∀ p q, (x, y) ≠ (.agg p, .agg q) := by
          rintro p q ⟨rfl, rfl⟩; cases hd : i.desc <;> rw [hd] at h2 <;> exact h2.elim
        obtain ⟨r, hr, hrun⟩ := eqW_ok hT hi h2 hp
        refine ⟨_, hr, fun w => ?_⟩
        rw [g w _ hne1 hne2]
        have hb : binOp .eql t x y = (do pure (.bool (← Op.equal t x y))) := by
          cases x <;> first | rfl | exact absurd rfl (hx1 _ _) | exact absurd rfl (hx2 _) | skip
          all_goals (first | (cases hd : i.desc <;> rw [hd] at h2 <;> exact h2.elim) | skip)
        rw [hb]; simp only [Sem.run_bind, hrun, Result.andThen_ok]; rfl
    · obtain ⟨i, hi, h2⟩ := optW_some h
      cases hbb : ptrFit T i.desc with
      | false => rw [hbb] at h2; exact h2.elim
      | true =>
        rw [hbb] at h2
        simp only [cond_true] at h2
        have hp : ∀ e, i.desc = .ptr e → ∃ j, T e = some j ∧ 0 < j.size := fun e he => ptrFit_some (by rw [← he]; exact hbb)
        have hne1 : (x, y) ≠ (.nilIface, .nilIface) := by
          rintro ⟨rfl, rfl⟩; cases hd : i.desc <;> rw [hd] at h2 <;> exact h2.elim
        have hne2 : ∀ p q, (x, y) ≠ (.agg p, .agg q) := by
          rintro p q ⟨rfl, rfl⟩; cases hd : i.desc <;> rw [hd] at h2 <;> exact h2.elim
        obtain ⟨r, hr, hrun⟩ := eqW_ok hT hi h2 hp
        refine ⟨_, hr, fun w => ?_⟩
        rw [g w _ hne1 hne2]
        have hb : binOp .neq t x y = (do pure (.bool (!(← Op.equal t x y)))) := by
          cases x <;> first | rfl | exact absurd rfl (hx1 _ _) | exact absurd rfl (hx2 _) | skip
          all_goals (first | (cases hd : i.desc <;> rw [hd] at h2 <;> exact h2.elim) | skip)
        rw [hb]; simp only [Sem.run_bind, hrun, Result.andThen_ok]; rfl
    · exact h.elim

end Go.Sep
