/- A symbolic heap over the model's memory: what is known of some blocks, and how single accesses run where it holds. -/
import Derived.AtR
import Derived.Laws.Cells
import Derived.Laws.World
set_option linter.unusedSimpArgs false
set_option linter.unusedVariables false
namespace Go.Sep

/-- What is known of a block: a row of cells of the type T holds, from an offset on, these one-cell values, and behind them there is room for more, all of it to be written; or it is just this object. -/
inductive Row where
  | own (T : TypeId) (off : Nat) (vs : List Value) (room : Nat)
  | obj (o : Obj)

abbrev SHeap := Nat → Option Row

def scal (v : Value) : Bool := v.oneCell'

def Row.sat (w : World) (b : Nat) : Row → Prop
  | .own T off vs room => (∀ v ∈ vs, scal v = true) ∧ ∃ c fz, w.heap[b]? = some (.cells c T fz) ∧ off + vs.length + room ≤ c.size ∧
      (∀ j, off ≤ j → j < off + vs.length + room → ¬ (fz.1 ≤ j ∧ j < fz.2)) ∧ ∀ (i : Nat) (v : Value), vs[i]? = some v → c[off + i]? = some v
  | .obj o => w.heap[b]? = some o

def Sat (w : World) (σ : SHeap) : Prop := ∀ b r, σ b = some r → r.sat w b

/-- What a run may have done: blocks of which nothing is known stay; new knowledge is of blocks known before, or new. -/
structure Fr (σ σ' : SHeap) (w w' : World) : Prop where
  size : w.heap.size ≤ w'.heap.size
  keep : ∀ b, b < w.heap.size → σ b = none → w'.heap[b]? = w.heap[b]?
  dom : ∀ b, σ' b ≠ none → σ b ≠ none ∨ w.heap.size ≤ b
  tape : w'.tape = w.tape
  os : w'.os = w.os
  out : w'.output = w.output

theorem Fr.refl (σ : SHeap) (w : World) : Fr σ σ w w := ⟨Nat.le_refl _, fun _ _ _ => rfl, fun _ h => .inl h, rfl, rfl, rfl⟩

theorem Fr.trans {σ σ1 σ2 : SHeap} {w w1 w2 : World} (h : Fr σ σ1 w w1) (h' : Fr σ1 σ2 w1 w2) : Fr σ σ2 w w2 where
  size := Nat.le_trans h.size h'.size
  keep b hb hn := by
    have h1 : σ1 b = none := by
      by_cases hc : σ1 b = none
      · exact hc
      · rcases h.dom b hc with h2 | h2
        · exact absurd hn h2
        · omega
    rw [h'.keep b (Nat.lt_of_lt_of_le hb h.size) h1, h.keep b hb hn]
  dom b hb := by
    rcases h'.dom b hb with h2 | h2
    · exact h.dom b h2
    · exact .inr (Nat.le_trans h.size h2)
  tape := h'.tape.trans h.tape
  os := h'.os.trans h.os
  out := h'.out.trans h.out

def SHeap.set (σ : SHeap) (b : Nat) (r : Row) : SHeap := fun c => bif Nat.beq c b then some r else σ c
def SHeap.del (σ : SHeap) (b : Nat) : SHeap := fun c => bif Nat.beq c b then none else σ c

theorem nbeq_ne {b c : Nat} (h : c ≠ b) : Nat.beq c b = false := by
  cases hb : Nat.beq c b with
  | false => rfl
  | true => exact absurd (Nat.eq_of_beq_eq_true hb) h

@[simp] theorem SHeap.set_same (σ : SHeap) (b : Nat) (r : Row) : (σ.set b r) b = some r := by simp [SHeap.set]
theorem SHeap.set_ne (σ : SHeap) {b c : Nat} (r : Row) (h : c ≠ b) : (σ.set b r) c = σ c := by simp [SHeap.set, nbeq_ne h]
@[simp] theorem SHeap.del_same (σ : SHeap) (b : Nat) : (σ.del b) b = none := by simp [SHeap.del]
theorem SHeap.del_ne (σ : SHeap) {b c : Nat} (h : c ≠ b) : (σ.del b) c = σ c := by simp [SHeap.del, nbeq_ne h]
theorem SHeap.set_eq (σ : SHeap) (b c : Nat) (r : Row) : (σ.set b r) c = if c = b then some r else σ c := by
  by_cases h : c = b
  · subst h; simp [SHeap.set]
  · simp [SHeap.set, nbeq_ne h, h]
theorem SHeap.del_eq (σ : SHeap) (b c : Nat) : (σ.del b) c = if c = b then none else σ c := by
  by_cases h : c = b
  · subst h; simp [SHeap.del]
  · simp [SHeap.del, nbeq_ne h, h]

theorem Sat.lt {w : World} {σ : SHeap} (h : Sat w σ) {b : Nat} (hb : σ b ≠ none) : b < w.heap.size := by
  cases hr : σ b with
  | none => exact absurd hr hb
  | some r =>
    have := h b r hr
    cases r with
    | own T off vs room => obtain ⟨_, c, fz, hh, _⟩ := this; exact (Array.getElem?_eq_some_iff.1 hh).1
    | obj o => exact (Array.getElem?_eq_some_iff.1 this).1

theorem Sat.fresh {w : World} {σ : SHeap} (h : Sat w σ) : σ w.heap.size = none := by
  by_cases hc : σ w.heap.size = none
  · exact hc
  · exact absurd (h.lt hc) (Nat.lt_irrefl _)

theorem Row.sat_congr {w w' : World} {b : Nat} {r : Row} (h : w'.heap[b]? = w.heap[b]?) (hs : r.sat w b) : r.sat w' b := by
  cases r with
  | own T off vs room => obtain ⟨h1, c, fz, hh, h2⟩ := hs; exact ⟨h1, c, fz, h.trans hh, h2⟩
  | obj o => exact h.trans hs

/-- What is known less. -/
theorem Sat.sub {w : World} {σ σ' : SHeap} (h : Sat w σ) (hs : ∀ b r, σ' b = some r → σ b = some r) : Sat w σ' := fun b r hr => h b r (hs b r hr)

theorem Fr.sub {σ σ' σ'' : SHeap} {w w' : World} (h : Fr σ σ' w w') (hs : ∀ b r, σ'' b = some r → σ' b = some r) : Fr σ σ'' w w' :=
  { h with dom := fun b hb => h.dom b (fun hn => hb (by
      cases hc : σ'' b with
      | none => rfl
      | some r => rw [hs b r hc] at hn; cases hn)) }

/-! ### Loads -/

def SHeap.ld (σ : SHeap) (a : Addr) (n : Nat) : Option (List Value) :=
  match a.spot, σ a.block with
  | none, some (.own _ off vs _) => if off ≤ a.off ∧ a.off - off + n ≤ vs.length then some ((vs.drop (a.off - off)).take n) else none
  | none, some (.obj (.cells c _ _)) => if a.off + n ≤ c.size ∧ ((c.toList.drop a.off).take n).all scal = true then some ((c.toList.drop a.off).take n) else none
  | _, _ => none

theorem cell_of_own {w : World} {b T off room i : Nat} {vs : List Value} {v : Value} (h : (Row.own T off vs room).sat w b) (hv : vs[i]? = some v) :
    w.cell? ⟨b, off + i, none⟩ = some v := by
  obtain ⟨_, c, fz, hh, _, _, hc⟩ := h
  simp [World.cell?, hh, hc i v hv]

theorem SHeap.ld_len {σ : SHeap} {a : Addr} {n : Nat} {l : List Value} (h : σ.ld a n = some l) : l.length = n := by
  unfold SHeap.ld at h
  split at h
  · split at h
    · cases h; simp; omega
    · cases h
  · split at h
    · cases h; simp; omega
    · cases h
  · cases h

theorem SHeap.ld_spot {σ : SHeap} {a : Addr} {n : Nat} {l : List Value} (h : σ.ld a n = some l) : a.spot = none := by
  unfold SHeap.ld at h
  split at h <;> first | assumption | cases h

theorem SHeap.ld_cells {σ : SHeap} {a : Addr} {n : Nat} {l : List Value} {w : World} (hs : Sat w σ) (h : σ.ld a n = some l) :
    ∀ j v, l[j]? = some v → w.cell? (a.add j) = some v := by
  have hsp := SHeap.ld_spot h
  obtain ⟨b, o, s⟩ := a
  simp only at hsp
  subst hsp
  intro j v hj
  have hadd : (Addr.mk b o none).add j = ⟨b, o + j, none⟩ := by unfold Addr.add; split <;> simp_all
  rw [hadd]
  unfold SHeap.ld at h
  simp only at h
  split at h
  · rename_i T off vs room _ hr
    split at h
    · rename_i hle
      cases h
      have hsat := hs b _ hr
      have hj' : vs[o - off + j]? = some v := by
        rw [List.getElem?_take] at hj
        split at hj
        · rwa [List.getElem?_drop] at hj
        · cases hj
      have := cell_of_own hsat hj'
      rwa [show off + (o - off + j) = o + j by omega] at this
    · cases h
  · rename_i c T fz _ hr
    split at h
    · cases h
      have hsat : w.heap[b]? = _ := hs b _ hr
      rw [List.getElem?_take] at hj
      split at hj
      · rw [List.getElem?_drop] at hj
        simp [World.cell?, hsat]
        simpa using hj
      · cases hj
    · cases h
  · cases h

theorem SHeap.ld_scal {σ : SHeap} {a : Addr} {n : Nat} {l : List Value} {w : World} (hs : Sat w σ) (h : σ.ld a n = some l) : ∀ v ∈ l, scal v = true := by
  unfold SHeap.ld at h
  split at h
  · rename_i off vs _ hr
    split at h
    · cases h
      intro v hv
      exact (hs _ _ hr).1 v (List.mem_of_mem_drop (List.mem_of_mem_take hv))
    · cases h
  · split at h
    · rename_i hle
      cases h
      intro v hv
      exact List.all_eq_true.1 hle.2 v hv
    · cases h
  · cases h

theorem run_loadCells {P : Program} {σ : SHeap} {w : World} (hs : Sat w σ) {a : Addr} {n : Nat} {l : List Value} (h : σ.ld a n = some l) :
    (loadCells a n).run P w = .ok l.toArray w := by
  have := run_loadCells_list w (P := P) a l (SHeap.ld_cells hs h)
  rwa [SHeap.ld_len h] at this

end Go.Sep
