/- Values built of parts. -/
import Derived.Test.YtgadojhdajmidaaGreatDoorSepF
set_option linter.unusedSimpArgs false
set_option linter.unusedVariables false
namespace Go.Sep

/-- The cells of segments in which parts are laid. -/
def laySegs (S : List (List Value)) (ps : List (Nat × Value)) : List (List Value) := ps.foldl (fun S p => S.set p.1 p.2.cells.toList) S

def offOf (S : List (List Value)) (k : Nat) : Nat := (S.take k).flatten.length

theorem flatten_set {S : List (List Value)} : ∀ {k : Nat} {l : List Value}, k < S.length → (∀ x, S[k]? = some x → l.length = x.length) →
    (S.set k l).flatten = splice S.flatten (offOf S k) l := by
  induction S with
  | nil => intro k l h; simp at h
  | cons x S ih =>
    intro k l hk hl
    cases k with
    | zero =>
      have := hl x rfl
      simp [splice, offOf, this]
    | succ k =>
      have h1 := ih (k := k) (l := l) (by simpa using hk) (fun y hy => hl y (by simpa using hy))
      simp only [List.set_cons_succ, List.flatten_cons, h1]
      unfold splice offOf
      simp only [List.take_succ_cons, List.flatten_cons, List.length_append]
      rw [Nat.add_assoc, List.take_length_add_append, List.drop_length_add_append]
      simp

theorem flatten_len_set {S : List (List Value)} {k : Nat} {l : List Value} (hl : ∀ x, S[k]? = some x → l.length = x.length) (j : Nat) : offOf (S.set k l) j = offOf S j := by
  unfold offOf
  induction S generalizing k j with
  | nil => simp
  | cons x S ih =>
    cases j with
    | zero => simp
    | succ j =>
      cases k with
      | zero => simp [hl x rfl]
      | succ k => simp [ih (k := k) (fun y hy => hl y (by simpa using hy)) j]

theorem foldl_set_splice : ∀ (l : List Value) (cs : Array Value) (off j : Nat), off + j + l.length ≤ cs.size →
    ((l.zipIdx j).foldl (fun (cs : Array Value) (p : Value × Nat) => cs.setIfInBounds (off + p.2) p.1) cs).toList = splice cs.toList (off + j) l := by
  intro l
  induction l with
  | nil => intro cs off j _; simp [splice]
  | cons v l ih =>
    intro cs off j h
    simp only [List.zipIdx_cons, List.foldl_cons]
    simp only [List.length_cons] at h
    rw [ih _ off (j + 1) (by simp; omega)]
    apply List.ext_getElem?
    intro i
    have hsz : cs.toList.length = cs.size := by simp
    rw [splice_get (by simp; omega), splice_get (by simp; omega)]
    simp only [List.length_cons, Array.toList_setIfInBounds, List.getElem?_set]
    by_cases h1 : off + (j + 1) ≤ i ∧ i < off + (j + 1) + l.length
    · rw [if_pos h1, if_pos (by omega), show i - (off + j) = (i - (off + (j + 1))) + 1 by omega]; simp
    · rw [if_neg h1]
      by_cases h2 : off + j = i
      · subst h2
        rw [if_pos rfl, if_pos (by omega), if_pos (by omega)]; simp
      · rw [if_neg h2, if_neg (by omega)]

theorem fill_eq (place : Nat → Option (Nat × Nat)) : ∀ (ps : List (Nat × Value)) (S : List (List Value)),
    (∀ p ∈ ps, p.1 < S.length ∧ place p.1 = some (offOf S p.1, p.2.cells.size) ∧ ∀ x, S[p.1]? = some x → p.2.cells.size = x.length) →
    Instr.fill place S.flatten.toArray ps = some (laySegs S ps).flatten.toArray := by
  intro ps
  induction ps with
  | nil => intro S _; rfl
  | cons p ps ih =>
    intro S h
    obtain ⟨k, v⟩ := p
    obtain ⟨h1, h2, h3⟩ := h (k, v) (by simp)
    simp only at h1 h2 h3
    have hlen : ∀ x, S[k]? = some x → v.cells.toList.length = x.length := by simpa using h3
    have hx : S[k]? = some S[k] := by simp [h1]
    have hbound : offOf S k + v.cells.size ≤ S.flatten.length := by
      have h4 : S.flatten = (S.take k).flatten ++ (S[k] ++ (S.drop (k + 1)).flatten) := by
        conv => lhs; rw [← List.take_append_drop k S, List.flatten_append, List.drop_eq_getElem_cons h1, List.flatten_cons]
      rw [h4]; unfold offOf; simp [h3 _ hx]
    unfold Instr.fill
    simp only [h2]
    rw [if_neg (by simp only [ne_eq, not_true_eq_false, List.size_toArray, decide_false, Bool.false_or, decide_eq_true_eq]; omega)]
    have hf : (v.cells.zipIdx.foldl (fun (cs : Array Value) (x : Value × Nat) => match x with | (c, j) => cs.setIfInBounds (offOf S k + j) c) S.flatten.toArray) = (S.set k v.cells.toList).flatten.toArray := by
      apply Array.toList_inj.1
      rw [← Array.foldl_toList]
      have := foldl_set_splice v.cells.toList S.flatten.toArray (offOf S k) 0 (by simp only [Array.length_toList, List.size_toArray]; omega)
      simp only [Array.toList_zipIdx]
      rw [flatten_set h1 hlen]
      simpa using this
    rw [hf]
    have ih' := ih (S.set k v.cells.toList) (fun q hq => by
      obtain ⟨g1, g2, g3⟩ := h q (by simp [hq])
      refine ⟨by simpa using g1, by rw [flatten_len_set hlen]; exact g2, fun x hxq => ?_⟩
      rw [List.getElem?_set] at hxq
      split at hxq
      · rename_i hkq
        first
          | (cases hxq; rw [← hkq] at g3; rw [g3 _ hx, ← h3 _ hx]; simp)
          | (split at hxq
             · cases hxq
               rw [← hkq] at g3
               rw [g3 _ hx, ← h3 _ hx]; simp
             · cases hxq)
      · exact g3 x hxq)
    rw [ih']; rfl

end Go.Sep
