/- Values built of parts, conversions, lengths, assertions; all operations that change nothing under one name. -/
import Derived.Test.YtgadojhdajmidaaGreatDoorSepG
set_option linter.unusedSimpArgs false
set_option linter.unusedVariables false
namespace Go.Sep

/-- Segments of zeros, one a field; none if the fields do not lie behind one another. -/
def zSegs (T : Nat → Option TInf) (zero : List Value) : (fs : List (Nat × Nat)) → (off : Nat) → Option (List (List Value))
  | [], off => bif Nat.beq off zero.length then some [] else none
  | (o, t) :: fs, off =>
    match sizeT T t with
    | none => none
    | some n => bif Nat.beq o off then (match zSegs T zero fs (off + n) with | some S => some ((zero.drop off).take n :: S) | none => none) else none

/-- Each part has the size of its segment. -/
def prtW (S : List (List Value)) : List (Nat × Value) → Prop → Prop
  | [], K => K
  | (k, v) :: ps, K => optW S[k]? fun x =>
    match v with
    | .agg cs => cs.size = x.length ∧ prtW S ps K
    | _ => bif Nat.beq x.length 1 then prtW S ps K else False

theorem prtW_ok {S : List (List Value)} : ∀ {ps : List (Nat × Value)} {K : Prop}, prtW S ps K → K ∧ ∀ p ∈ ps, p.1 < S.length ∧ ∀ x, S[p.1]? = some x → p.2.cells.size = x.length
  | [], _, h => ⟨h, by simp⟩
  | (k, v) :: ps, K, h => by
    obtain ⟨x, hx, h⟩ := optW_some h
    have hk : k < S.length := by
      rcases Nat.lt_or_ge k S.length with h1 | h1
      · exact h1
      · rw [List.getElem?_eq_none h1] at hx; cases hx
    have main : prtW S ps K ∧ v.cells.size = x.length := by
      split at h
      · exact ⟨h.2, h.1⟩
      · rename_i hne
        cases hb : Nat.beq x.length 1 with
        | false => rw [hb] at h; exact h.elim
        | true =>
          rw [hb] at h
          refine ⟨h, ?_⟩
          rw [Nat.eq_of_beq_eq_true hb]
          cases v <;> first | rfl | exact absurd rfl (hne _)
    obtain ⟨h1, h2⟩ := prtW_ok main.1
    refine ⟨h1, fun p hp => ?_⟩
    rcases List.mem_cons.1 hp with rfl | hp
    · exact ⟨hk, fun y hy => by rw [hx] at hy; cases hy; exact main.2⟩
    · exact h2 p hp

theorem zSegs_ok {P : Program} {T : Nat → Option TInf} (hT : TOk P T) {zero : List Value} : ∀ {fs : List (Nat × Nat)} {off : Nat} {S : List (List Value)}, zSegs T zero fs off = some S → off ≤ zero.length →
    S.flatten = zero.drop off ∧ S.length = fs.length ∧ ∀ (k : Nat) (g : Nat × Nat), fs[k]? = some g → g.1 = off + offOf S k ∧ ∃ n, sizeT T g.2 = some n ∧ ∀ x, S[k]? = some x → x.length = n
  | [], off, S, h, hle => by
    unfold zSegs at h
    cases hb : Nat.beq off zero.length with
    | false => rw [hb] at h; cases h
    | true =>
      rw [hb] at h; cases h
      have := Nat.eq_of_beq_eq_true hb
      exact ⟨by simp [this], rfl, fun k g hg => by simp at hg⟩
  | (o, t) :: fs, off, S, h, hle => by
    unfold zSegs at h
    cases hn : sizeT T t with
    | none => rw [hn] at h; cases h
    | some n =>
      rw [hn] at h
      simp only at h
      cases hb : Nat.beq o off with
      | false => rw [hb] at h; cases h
      | true =>
        rw [hb] at h
        cases hz : zSegs T zero fs (off + n) with
        | none => rw [hz] at h; cases h
        | some S' =>
          rw [hz] at h
          simp only [cond_true, Option.some.injEq] at h
          subst h
          have hle' : off + n ≤ zero.length := by
            -- the rest ends at the end
            have : ∀ (fs : List (Nat × Nat)) (o : Nat) (S : List (List Value)), zSegs T zero fs o = some S → o ≤ zero.length := by
              intro fs
              induction fs with
              | nil =>
                intro o S h
                unfold zSegs at h
                cases hb : Nat.beq o zero.length with
                | false => rw [hb] at h; cases h
                | true => exact Nat.le_of_eq (Nat.eq_of_beq_eq_true hb)
              | cons g fs ih =>
                intro o S h
                unfold zSegs at h
                cases hn : sizeT T g.2 with
                | none => rw [hn] at h; cases h
                | some m =>
                  rw [hn] at h
                  simp only at h
                  cases hb : Nat.beq g.1 o with
                  | false => rw [hb] at h; cases h
                  | true =>
                    rw [hb] at h
                    cases hz : zSegs T zero fs (o + m) with
                    | none => rw [hz] at h; cases h
                    | some S' => have := ih _ _ hz; omega
            exact this _ _ _ hz
          obtain ⟨h1, h2, h3⟩ := zSegs_ok hT hz hle'
          have hlen : ((zero.drop off).take n).length = n := by simp; omega
          refine ⟨?_, by simp [h2], fun k g hg => ?_⟩
          · rw [List.flatten_cons, h1]
            conv => rhs; rw [← List.take_append_drop n (zero.drop off), List.drop_drop]
          · cases k with
            | zero =>
              simp only [List.getElem?_cons_zero, Option.some.injEq] at hg
              subst hg
              exact ⟨by simp [offOf, Nat.eq_of_beq_eq_true hb], n, hn, fun x hx => by simp only [List.getElem?_cons_zero, Option.some.injEq] at hx; rw [← hx]; exact hlen⟩
            | succ k =>
              simp only [List.getElem?_cons_succ] at hg
              obtain ⟨h4, m, h5, h6⟩ := h3 k g hg
              refine ⟨?_, m, h5, fun x hx => h6 x (by simpa using hx)⟩
              rw [h4]
              simp only [offOf, List.take_succ_cons, List.flatten_cons, List.length_append, hlen]
              omega

/-- A struct or an array of parts. -/
def bldW (T : Nat → Option TInf) (t : Nat) (ps : List (Nat × Value)) (K : Value → Prop) : Prop :=
  optW (T t) fun i =>
    match i.desc with
    | .struct fs => optW (zSegs T i.zero fs 0) fun S => prtW S ps (K (.agg (laySegs S ps).flatten.toArray))
    | _ => False

theorem mapM_places {P : Program} (w : World) : ∀ (l : List Field) (ns : List Nat), (∀ (k : Nat) (f : Field), l[k]? = some f → ∃ n, ns[k]? = some n ∧ (sizeOf f.type).run P w = .ok n w) → ns.length = l.length →
    (l.mapM (fun f => do pure (f.offset, ← sizeOf f.type) : Field → Sem (Nat × Nat))).run P w = .ok (l.zipWith (fun f n => (f.offset, n)) ns) w := by
  intro l
  induction l with
  | nil => intro ns _ _; rfl
  | cons f l ih =>
    intro ns h hl
    cases ns with
    | nil => simp at hl
    | cons n ns =>
      obtain ⟨n', hn', hr⟩ := h 0 f rfl
      simp at hn'
      subst hn'
      rw [List.mapM_cons]
      have ih' := ih ns (fun k g hg => by simpa using h (k + 1) g (by simpa using hg)) (by simpa using hl)
      simp only [Sem.run_bind, hr, Result.andThen_ok, Sem.run_pure, ih']
      rfl

theorem bldW_ok {P : Program} {T : Nat → Option TInf} (hT : TOk P T) {t : Nat} {ps : Array (Nat × Value)} {K : Value → Prop} (h : bldW T t ps.toList K) :
    ∃ v, K v ∧ ∀ w, (Instr.build t ps).run P w = .ok v w := by
  obtain ⟨i, hi, h⟩ := optW_some h
  have hok := hT t i hi
  obtain ⟨d, h1, h2⟩ := hok.under
  have hu := fun w => run_underlying h1 w
  have hzr := hok.zero
  have hz := hok.zcell
  generalize i.zval = z at hzr hz
  cases hd : i.desc <;> rw [hd] at h h2 <;> first | exact h.elim | skip
  · cases d <;> simp [TD.fits] at h2
    rename_i fs gs
    obtain ⟨S, hS, h⟩ := optW_some h
    obtain ⟨hk, hp⟩ := prtW_ok h
    obtain ⟨g1, g2, g3⟩ := zSegs_ok hT hS (Nat.zero_le _)
    refine ⟨_, hk, fun w => ?_⟩
    subst h2
    have hpl : (gs.mapM (fun f => do pure (f.offset, ← sizeOf f.type) : Field → Sem (Nat × Nat))).run P w = .ok (gs.toList.zipWith (fun f n => (f.offset, n)) (S.map List.length)).toArray w := by
      rw [Array.mapM_eq_mapM_toList]
      simp only [Sem.run_map]
      rw [mapM_places w gs.toList (S.map List.length) (fun k f hf => ?_) (by simpa using g2)]
      · rfl
      · obtain ⟨_, n, hn, hx⟩ := g3 k (f.offset, f.type) (by simp [List.getElem?_map, hf])
        have hlt : k < S.length := by
          rw [g2]; simp
          rcases Nat.lt_or_ge k gs.toList.length with h5 | h5
          · simpa using h5
          · rw [List.getElem?_eq_none h5] at hf; cases hf
        refine ⟨n, ?_, sizeT_some hT hn w⟩
        simp [hlt, hx S[k] (by simp [hlt])]
    have hz' : z.cells = S.flatten.toArray := by rw [hz, g1]; simp
    simp only [Instr.build, Sem.run_bind, hzr, Result.andThen_ok, hu, hpl, hz']
    have hfill := fill_eq (fun k => (gs.toList.zipWith (fun f n => (f.offset, n)) (S.map List.length)).toArray[k]?) ps.toList S (fun p hp' => by
      obtain ⟨q1, q2⟩ := hp p hp'
      have hlg : p.1 < gs.toList.length := by rw [g2] at q1; simpa using q1
      obtain ⟨r1, _⟩ := g3 p.1 (gs.toList[p.1].offset, gs.toList[p.1].type) (by rw [List.getElem?_map, List.getElem?_eq_getElem hlg]; rfl)
      refine ⟨q1, ?_, q2⟩
      have := q2 S[p.1] (by simp [q1])
      simp only [List.getElem?_toArray, List.getElem?_zipWith, List.getElem?_map, List.getElem?_eq_getElem hlg, List.getElem?_eq_getElem q1, Option.map_some]
      simp only at r1
      rw [r1, this]; simp)
    have hf2 : Instr.fill (fun x => (gs.toList.zipWith (fun f n => (f.offset, n)) (S.map List.length)).toArray[x]?) S.flatten.toArray ps.toList = some (laySegs S ps.toList).flatten.toArray := hfill
    rw [hf2]; rfl

end Go.Sep
