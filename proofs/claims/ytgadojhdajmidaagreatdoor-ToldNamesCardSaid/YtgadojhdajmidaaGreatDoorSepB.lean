/- Stores and new blocks over a symbolic heap; a table of types and how reads and writes of whole variables run. -/
import Derived.Test.YtgadojhdajmidaaGreatDoorSepA
import Derived.Laws.IdiomCopy
set_option linter.unusedSimpArgs false
set_option linter.unusedVariables false
namespace Go.Sep

/-! ### Stores -/

def splice (vs : List Value) (k : Nat) (l : List Value) : List Value := vs.take k ++ l ++ vs.drop (k + l.length)

theorem splice_length {vs : List Value} {k : Nat} {l : List Value} (h : k + l.length ≤ vs.length) : (splice vs k l).length = vs.length := by
  simp [splice]; omega

theorem splice_get {vs : List Value} {k : Nat} {l : List Value} (h : k + l.length ≤ vs.length) (i : Nat) :
    (splice vs k l)[i]? = if k ≤ i ∧ i < k + l.length then l[i - k]? else vs[i]? := by
  unfold splice
  rw [List.append_assoc, List.getElem?_append]
  simp only [List.length_take, List.getElem?_take, List.getElem?_append, List.getElem?_drop]
  rw [Nat.min_eq_left (by omega)]
  by_cases h1 : i < k
  · simp [h1, Nat.not_le.2 h1]
  · simp only [h1, if_false]
    by_cases h2 : i - k < l.length
    · rw [if_pos h2, if_pos (by omega)]
    · rw [if_neg h2, if_neg (by omega)]
      congr 1; omega

/-- The heap behind a store of cells. -/
def SHeap.st (σ : SHeap) (a : Addr) (l : List Value) : Option SHeap :=
  match a.spot, σ a.block with
  | none, some (.own T off vs room) =>
    if off ≤ a.off ∧ a.off - off + l.length ≤ vs.length then some (σ.set a.block (.own T off (splice vs (a.off - off) l) room)) else none
  | _, _ => none

theorem heap_setCell_ne (w : World) (a : Addr) (v : Value) {b : Nat} (h : b ≠ a.block) : (w.setCell a v).heap[b]? = w.heap[b]? := by
  simp [World.setCell, Array.getElem?_modify, Ne.symm h]

theorem heap_setCell_eq (w : World) (b o : Nat) (v : Value) {c : Array Value} {T : TypeId} {fz : Nat × Nat} (h : w.heap[b]? = some (.cells c T fz)) :
    (w.setCell ⟨b, o, none⟩ v).heap[b]? = some (.cells (c.setIfInBounds o v) T fz) := by
  simp [World.setCell, Array.getElem?_modify, h]

theorem run_storeCells1 {P : Program} (b o : Nat) : ∀ (l : List Value) (i : Nat) (w : World) (c : Array Value) (T : TypeId) (fz : Nat × Nat),
    w.heap[b]? = some (.cells c T fz) → (∀ j, i ≤ j → j < i + l.length → o + j < c.size ∧ ¬ (fz.1 ≤ o + j ∧ o + j < fz.2)) → (∀ v ∈ l, scal v = true) →
    ∃ w' c', (storeCells ⟨b, o, none⟩ l i).run P w = .ok () w' ∧ w'.heap[b]? = some (.cells c' T fz) ∧ c'.size = c.size ∧
      (∀ j, c'[j]? = if o + i ≤ j ∧ j < o + i + l.length then l[j - (o + i)]? else c[j]?) ∧
      (∀ b', b' ≠ b → w'.heap[b']? = w.heap[b']?) ∧ w'.heap.size = w.heap.size ∧ w'.tape = w.tape ∧ w'.os = w.os ∧ w'.output = w.output := by
  intro l
  induction l with
  | nil =>
    intro i w c T fz hb _ _
    exact ⟨w, c, rfl, hb, rfl, fun j => by rw [if_neg (by simp)], fun _ _ => rfl, rfl, rfl, rfl, rfl⟩
  | cons v rest ih =>
    intro i w c T fz hb hin hsc
    have hadd : (Addr.mk b o none).add i = ⟨b, o + i, none⟩ := by unfold Addr.add; split <;> simp_all
    obtain ⟨h1, h2⟩ := hin i (Nat.le_refl _) (by simp)
    have hc : w.cell? ⟨b, o + i, none⟩ = some c[o + i] := by simp [World.cell?, hb, h1]
    have hf : w.frozen? ⟨b, o + i, none⟩ = false := by
      simp only [World.frozen?, hb]
      cases hd : (decide (fz.1 ≤ o + i) && decide (o + i < fz.2)) with
      | false => rfl
      | true => simp at hd; exact absurd hd h2
    have hst : (store (⟨b, o + i, none⟩ : Addr) v).run P w = .ok () (w.setCell ⟨b, o + i, none⟩ v) := by
      rw [run_store P w _ v _ (hsc v (by simp)), hc]; simp [hf]
    obtain ⟨w', c', hr, hb', hsz, hget, hoth, hs1, hs2, hs3, hs4⟩ := ih (i + 1) (w.setCell ⟨b, o + i, none⟩ v) (c.setIfInBounds (o + i) v) T fz
      (heap_setCell_eq w b (o + i) v hb) (fun j hj1 hj2 => by simpa using hin j (by omega) (by simp; omega)) (fun x hx => hsc x (by simp [hx]))
    refine ⟨w', c', ?_, hb', by simpa using hsz, ?_, ?_, ?_, hs2, hs3, hs4⟩
    · simp only [storeCells, hadd, Sem.run_bind, hst, Result.andThen_ok]
      exact hr
    · intro j
      rw [hget j]
      by_cases hj : o + (i + 1) ≤ j ∧ j < o + (i + 1) + rest.length
      · rw [if_pos hj, if_pos (by simp; omega)]
        have : j - (o + i) = (j - (o + (i + 1))) + 1 := by omega
        rw [this]; simp
      · rw [if_neg hj]
        by_cases hj2 : j = o + i
        · subst hj2
          rw [if_pos (by simp)]; simp [h1]
        · rw [if_neg (by simp; omega)]
          exact Array.getElem?_setIfInBounds_ne (Ne.symm hj2)
    · intro b' hne
      rw [hoth b' hne]; exact heap_setCell_ne w _ v hne
    · rw [hs1]; simp [World.setCell]

theorem run_storeCells {P : Program} {σ σ' : SHeap} {w : World} (hs : Sat w σ) {a : Addr} {l : List Value} (h : σ.st a l = some σ') (hsc : ∀ v ∈ l, scal v = true) :
    ∃ w', (storeCells a l).run P w = .ok () w' ∧ Sat w' σ' ∧ Fr σ σ' w w' := by
  obtain ⟨b, o, sp⟩ := a
  unfold SHeap.st at h
  simp only at h
  split at h
  · rename_i T off vs room hr
    split at h
    · rename_i hle
      cases h
      obtain ⟨hscal, c, fz, hb, hrm, hfz, hcc⟩ := hs b _ hr
      obtain ⟨w', c', hrun, hb', hsz, hget, hoth, hs1, hs2, hs3, hs4⟩ := run_storeCells1 (P := P) b o l 0 w c T fz hb
        (fun j _ hj => ⟨by omega, hfz (o + j) (by omega) (by omega)⟩) hsc
      refine ⟨w', hrun, ?_, ?_⟩
      · intro b' r hb2
        by_cases hbb : b' = b
        · subst hbb
          rw [SHeap.set_same] at hb2
          cases hb2
          refine ⟨?_, c', fz, hb', by rw [splice_length hle.2, hsz]; exact hrm, by rw [splice_length hle.2]; exact hfz, ?_⟩
          · intro v hv
            unfold splice at hv
            simp only [List.mem_append] at hv
            rcases hv with (hv | hv) | hv
            · exact hscal v (List.mem_of_mem_take hv)
            · exact hsc v hv
            · exact hscal v (List.mem_of_mem_drop hv)
          · intro i v hv
            rw [splice_get (by omega)] at hv
            have hget' := hget (off + i)
            simp only [Nat.add_zero] at hget'
            by_cases hi : o - off ≤ i ∧ i < o - off + l.length
            · rw [if_pos hi] at hv
              rw [if_pos (by omega), show off + i - o = i - (o - off) by omega] at hget'
              exact hget'.trans hv
            · rw [if_neg hi] at hv
              rw [if_neg (by omega)] at hget'
              exact hget'.trans (hcc i v hv)
        · rw [SHeap.set_ne _ _ hbb] at hb2
          exact Row.sat_congr (hoth b' hbb) (hs b' r hb2)
      · refine ⟨by omega, fun b' _ hn => hoth b' (fun e => by subst e; rw [hr] at hn; cases hn), fun b' hn => ?_, hs2, hs3, hs4⟩
        by_cases hbb : b' = b
        · subst hbb; left; rw [hr]; simp
        · rw [SHeap.set_ne _ _ hbb] at hn; exact .inl hn
    · cases h
  · cases h

/-! ### New blocks -/

theorem run_newObj {P : Program} {σ : SHeap} {w : World} (hs : Sat w σ) (o : Obj) (r : Row) (hr : ∀ w' : World, w'.heap[w.heap.size]? = some o → r.sat w' w.heap.size) :
    ∃ w', (newObj o).run P w = .ok w.heap.size w' ∧ σ w.heap.size = none ∧ Sat w' (σ.set w.heap.size r) ∧ Fr σ (σ.set w.heap.size r) w w' := by
  refine ⟨{ w with heap := w.heap.push o }, rfl, hs.fresh, ?_, ?_⟩
  · intro b' r' hb
    by_cases hbb : b' = w.heap.size
    · subst hbb; rw [SHeap.set_same] at hb; cases hb
      exact hr _ (by simp)
    · rw [SHeap.set_ne _ _ hbb] at hb
      have hlt := hs.lt (b := b') (by rw [hb]; simp)
      exact Row.sat_congr (w := w) (by simp [Array.getElem?_push, Nat.ne_of_lt hlt]) (hs b' r' hb)
  · refine ⟨by simp, fun b' hlt _ => by simp [Array.getElem?_push, Nat.ne_of_lt hlt], fun b' hn => ?_, rfl, rfl, rfl⟩
    by_cases hbb : b' = w.heap.size
    · exact .inr (by omega)
    · rw [SHeap.set_ne _ _ hbb] at hn; exact .inl hn

theorem sat_own_new {w' : World} {b : Nat} {c : Array Value} {T : TypeId} (vs : List Value) (room : Nat) (hl : vs.length + room ≤ c.size) (hvs : ∀ (i : Nat) (v : Value), vs[i]? = some v → c[i]? = some v)
    (hsc : ∀ v ∈ vs, scal v = true) (h : w'.heap[b]? = some (.cells c T)) : (Row.own T 0 vs room).sat w' b :=
  ⟨hsc, c, (0, 0), h, by omega, fun j _ _ => by simp, fun i v hv => by simpa using hvs i v hv⟩

end Go.Sep
