/- Operations that make or write memory. -/
import Derived.Test.YtgadojhdajmidaaGreatDoorSepJ
set_option linter.unusedSimpArgs false
set_option linter.unusedVariables false
namespace Go.Sep

/-- Cells of a slice. -/
def SHeap.ldS (σ : SHeap) (a : Option Addr) (m n : Nat) : Option (List Value) :=
  bif Nat.beq (m * n) 0 then some [] else match a with | some a => σ.ld a (m * n) | none => none

theorem run_firstCells {P : Program} {σ : SHeap} {w : World} (hs : Sat w σ) {a : Option Addr} {m n c k : Nat} {l : List Value} (h : σ.ldS a m n = some l) :
    (Builtin.firstCells n m (.slice a k c)).run P w = .ok l.toArray w ∧ l.length = m * n ∧ ∀ v ∈ l, scal v = true := by
  unfold SHeap.ldS at h
  cases hb : Nat.beq (m * n) 0 with
  | true =>
    rw [hb] at h
    cases h
    have h0 := Nat.eq_of_beq_eq_true hb
    refine ⟨?_, by simp [h0], by simp⟩
    cases a with
    | none => rfl
    | some a => simp only [Builtin.firstCells, h0]; rfl
  | false =>
    rw [hb] at h
    cases a with
    | none => cases h
    | some a =>
      simp only [cond_false] at h
      exact ⟨run_loadCells hs h, SHeap.ld_len h, SHeap.ld_scal hs h⟩

/-- Cells that are appended or copied. -/
def srcW (σ : SHeap) (x : Value) (n : Nat) (K : Nat → List Value → Prop) : Prop :=
  match x with
  | .slice a m _ => optW (σ.ldS a m n) fun l => K m l
  | .string s => bif Nat.beq n 1 then K s.size (s.data.toList.map fun b => .int .u8 b.toNat) else False
  | _ => False

theorem srcW_ok {P : Program} {σ : SHeap} {x : Value} {n : Nat} {K : Nat → List Value → Prop} (h : srcW σ x n K) :
    ∃ m l, K m l ∧ l.length = m * n ∧ ∀ w, Sat w σ → (Builtin.lenOf x).run P w = .ok m w ∧ (Builtin.firstCells n m x).run P w = .ok l.toArray w ∧ ∀ v ∈ l, scal v = true := by
  unfold srcW at h
  split at h
  · rename_i a m c
    obtain ⟨l, hl, hk⟩ := optW_some h
    have hlen : l.length = m * n := by
      unfold SHeap.ldS at hl
      cases hb : Nat.beq (m * n) 0 with
      | true => rw [hb] at hl; cases hl; simp [Nat.eq_of_beq_eq_true hb]
      | false =>
        rw [hb] at hl
        cases a with
        | none => cases hl
        | some a => exact SHeap.ld_len hl
    exact ⟨m, l, hk, hlen, fun w hs => ⟨rfl, (run_firstCells (c := c) (k := m) hs hl).1, (run_firstCells (P := P) (c := c) (k := m) hs hl).2.2⟩⟩
  · rename_i s
    cases hb : Nat.beq n 1 with
    | false => rw [hb] at h; exact h.elim
    | true =>
      rw [hb] at h
      have h1 := Nat.eq_of_beq_eq_true hb
      subst h1
      refine ⟨_, _, h, by simp, fun w _ => ⟨rfl, ?_, ?_⟩⟩
      · simp only [Builtin.firstCells]
        have : s.extract 0 s.size = s := by simp
        rw [this]
        show Result.ok _ w = _
        congr 1
        apply Array.toList_inj.1; simp
      · intro v hv
        obtain ⟨b, _, rfl⟩ := List.mem_map.1 hv
        rfl
  · exact h.elim

/-- Appending m elements of n cells, their cells l2, to a slice. -/
def apX (e n : Nat) (a : Option Addr) (len cap m : Nat) (l2 : List Value) (σ : SHeap) (K : Value → SHeap → Prop) : Prop :=
  (m = 0 ∧ len ≤ cap ∧ K (.slice a len cap) σ) ∨
  (len + m ≤ 4294967296 ∧ ∃ l1, σ.ldS a len n = some l1 ∧
    ((cap < len + m ∧ ∀ b room, σ b = none → K (.slice (some ⟨b, 0, none⟩) (len + m) (len + m + room)) (σ.set b (.own e 0 (l1 ++ l2) (room * n)))) ∨
     (∃ ad off vs rm, a = some ad ∧ ad.spot = none ∧ σ ad.block = some (.own e off vs rm) ∧ off ≤ ad.off ∧ ad.off + cap * n ≤ off + vs.length + rm ∧
       ∀ b o room, (σ.del ad.block) b = none → K (.slice (some ⟨b, o, none⟩) (len + m) (len + m + room)) ((σ.del ad.block).set b (.own e o (l1 ++ l2) (room * n))))))

theorem growBy_le (newLen : Nat) : ∀ (r c : Nat), c ≤ 2 * newLen + 768 → Builtin.growBy newLen r c ≤ 2 * newLen + 768
  | 0, c, h => h
  | r + 1, c, h => by
    unfold Builtin.growBy
    split
    · exact h
    · exact growBy_le newLen r _ (by omega)

theorem nextslicecap_le {newLen oldCap : Nat} (h : oldCap < newLen) : Builtin.nextslicecap newLen oldCap ≤ 2 * newLen + 768 := by
  unfold Builtin.nextslicecap
  split
  · omega
  · split
    · omega
    · exact growBy_le _ _ _ (by omega)

theorem sat_del {w : World} {σ : SHeap} (h : Sat w σ) (b : Nat) : Sat w (σ.del b) :=
  h.sub fun c r hr => by
    rw [SHeap.del_eq] at hr
    split at hr
    · cases hr
    · exact hr

/-- A new block over a heap of which one block is forgotten. -/
theorem fr_new {σ : SHeap} {w w' : World} {d : Nat} {b : Nat} {r : Row} (hd : σ d ≠ none) (hb : b = w.heap.size ∨ b = d) (hsz : w.heap.size ≤ w'.heap.size)
    (hk : ∀ c, c < w.heap.size → c ≠ d → w'.heap[c]? = w.heap[c]?) (h1 : w'.tape = w.tape) (h2 : w'.os = w.os) (h3 : w'.output = w.output) :
    Fr σ ((σ.del d).set b r) w w' := by
  refine ⟨hsz, fun c hc hn => hk c hc (fun e => hd (e ▸ hn)), fun c hc => ?_, h1, h2, h3⟩
  rw [SHeap.set_eq, SHeap.del_eq] at hc
  by_cases hcb : c = b
  · subst hcb
    rcases hb with hb | hb
    · exact .inr (by omega)
    · subst hb; exact .inl hd
  · rw [if_neg hcb] at hc
    split at hc
    · exact absurd rfl hc
    · exact .inl hc

theorem apX_ok {P : Program} {T : Nat → Option TInf} (hT : TOk P T) {t xt e n : Nat} (he : elemOfSl T t = some e) (hn : sizeT T e = some n) {by_ : Nat} (hby : ∃ i, T e = some i ∧ i.bytes = by_ ∧ by_ ≤ 4096)
    (hx : descOf T xt = some .string ∨ ∃ q, descOf T xt = some (.slice q)) {a : Option Addr} {len cap m : Nat} {l2 : List Value} {x : Value} {σ : SHeap} {K : Value → SHeap → Prop} (h : apX e n a len cap m l2 σ K)
    {w : World} (hs : Sat w σ) (hm : ∀ w, Sat w σ → (Builtin.lenOf x).run P w = .ok m w ∧ (Builtin.firstCells n m x).run P w = .ok l2.toArray w ∧ ∀ v ∈ l2, scal v = true) (hl2 : l2.length = m * n) (t2 : Nat) :
    ∃ v w' σ', K v σ' ∧ (Builtin.append_ #[t, xt] t2 #[.slice a len cap, x]).run P w = .ok v w' ∧ Sat w' σ' ∧ Fr σ σ' w w' := by
  have hux : ∃ td, (td = .string ∨ ∃ q, td = .slice q) ∧ ∀ w, (underlying xt).run P w = .ok td w := by
    rcases hx with hx | ⟨q, hx⟩
    · obtain ⟨td, fd, hux⟩ := descOf_some (P := P) hT hx
      cases td <;> simp [TD.fits] at fd
      exact ⟨_, .inl rfl, hux⟩
    · obtain ⟨td, fd, hux⟩ := descOf_some (P := P) hT hx
      cases td <;> simp [TD.fits] at fd
      exact ⟨_, .inr ⟨_, rfl⟩, hux⟩
  obtain ⟨td, htd, hux⟩ := hux
  have hue := elemOfSl_some (P := P) hT he
  have hsz := sizeT_some (P := P) hT hn
  obtain ⟨i, hi, hib, hb4⟩ := hby
  obtain ⟨ti, hti, _, htb⟩ := (hT e i hi).info
  have hinfo := fun w => run_typeInfo hti w
  obtain ⟨hlen, hfirst, hsc2⟩ := hm w hs
  have hzv := (hT e i hi).zero
  have hzc := (hT e i hi).zcell
  have hzl := (hT e i hi).zsize
  have hni : n = i.size := by unfold sizeT at hn; rw [hi] at hn; simp at hn; exact hn.symm
  -- the road where there is room
  have inPlace : len + m ≤ cap → ∀ w1, (match a with | some ad => storeCells (ad.add (len * n)) l2 | none => pure ()).run P w = .ok () w1 →
      (Builtin.append_ #[t, xt] t2 #[.slice a len cap, x]).run P w = .ok (.slice a (len + m) cap) w1 := by
    intro hle w1 h1
    rcases htd with rfl | ⟨q, rfl⟩
    all_goals
      simp only [Builtin.append_, List.getElem?_toArray, List.getElem?_cons_zero, List.getElem?_cons_succ, Sem.run_bind, hue, hsz, Result.andThen_ok, hux, Sem.run_pure, hlen, hfirst, Bool.not_false, if_true, Bool.false_eq_true, if_false]
      rw [if_pos hle]
      simp only [Sem.run_bind, hfirst, Result.andThen_ok]
      cases a with
      | none => have : w = w1 := by simpa using h1
                subst this; rfl
      | some ad => simp only [Sem.run_bind, h1, Result.andThen_ok, Sem.run_pure]
  have copying : ¬ len + m ≤ cap → len + m ≤ 4294967296 → ∀ l1, (Builtin.firstCells n len (.slice a len cap)).run P { w with drawn := w.drawn + 1 } = .ok l1 { w with drawn := w.drawn + 1 } →
      ∃ newCap, len + m ≤ newCap ∧ (Builtin.append_ #[t, xt] t2 #[.slice a len cap, x]).run P w =
        (newRow e (l1 ++ l2.toArray ++ Builtin.zeroCells i.zero.toArray (newCap - (len + m))) >>= fun b => (pure (.slice (some b) (len + m) newCap) : Sem Value)).run P { w with drawn := w.drawn + 1 } := by
    intro hgt hle l1 h1
    have hcap : ¬ Builtin.nextslicecap (len + m) cap * ti.bytes > 2 ^ 48 := by
      have h5 := nextslicecap_le (newLen := len + m) (oldCap := cap) (by omega)
      have h6 : ti.bytes ≤ 4096 := by omega
      have h7 : Builtin.nextslicecap (len + m) cap * ti.bytes ≤ (2 * 4294967296 + 768) * 4096 := Nat.mul_le_mul (by omega) h6
      omega
    refine ⟨(Question.appendCap (len + m) cap e).cut (w.tape w.drawn (.appendCap (len + m) cap e)), by simp only [Question.cut]; omega, ?_⟩
    have hfirst' := (hm { w with drawn := w.drawn + 1 } hs).2.1
    rcases htd with rfl | ⟨q, rfl⟩
    all_goals
      simp only [Builtin.append_, List.getElem?_toArray, List.getElem?_cons_zero, List.getElem?_cons_succ, Sem.run_bind, hue, hsz, Result.andThen_ok, hux, Sem.run_pure, hlen, hfirst, Bool.not_false, if_true, Bool.false_eq_true, if_false]
      rw [if_neg hgt]
      simp only [Sem.run_bind, hinfo, Result.andThen_ok]
      rw [if_neg (by simp only [IntKind.max, IntKind.signed, IntKind.bits]; simp; omega)]
      simp only [Sem.run_bind, hinfo, Result.andThen_ok]
      rw [if_neg hcap]
      simp only [choose, Sem.run, Question.forced, Bool.false_eq_true, if_false, Sem.run_bind, Result.andThen_ok, hinfo]
      have hask : ∀ b w, (askRoom b).run P w = .ok () w := fun b w => by unfold askRoom; split <;> rfl
      simp only [hask, Result.andThen_ok, h1, hfirst', hzv, hzc, Sem.run_bind]
      rfl
  have zlen : ∀ k, (Builtin.zeroCells i.zero.toArray k).size = k * n := fun k => by simp [Builtin.zeroCells, hni, hzl]
  rcases h with ⟨rfl, hlc, hk⟩ | ⟨hle, l1, hl1, h⟩
  · refine ⟨_, w, σ, hk, ?_, hs, Fr.refl _ _⟩
    have : l2 = [] := List.eq_nil_of_length_eq_zero (by simpa using hl2)
    subst this
    exact inPlace (by omega) w (by cases a <;> rfl)
  · rcases h with ⟨hcap, hk⟩ | ⟨ad, off, vs, rm, rfl, hspot, hrow, hoff, hroom, hk⟩
    · have hs' : Sat { w with drawn := w.drawn + 1 } σ := hs
      obtain ⟨f1, f2, f3⟩ := run_firstCells (P := P) (k := len) (c := cap) hs' hl1
      obtain ⟨newCap, hnc, hrun⟩ := copying (by omega) hle _ f1
      have hsc : ∀ v ∈ l1 ++ l2, scal v = true := fun v hv => (List.mem_append.1 hv).elim (f3 v) (hsc2 v)
      obtain ⟨w', hr, hf, g1, g2⟩ := run_newObj (P := P) hs' (.cells (l1.toArray ++ l2.toArray ++ Builtin.zeroCells i.zero.toArray (newCap - (len + m))) e) (.own e 0 (l1 ++ l2) ((newCap - (len + m)) * n))
        (fun w' hw => sat_own_new _ _ (by simp [zlen]) (fun j v hv => by
          have hj : j < (l1 ++ l2).length := by
            rcases Nat.lt_or_ge j (l1 ++ l2).length with h5 | h5
            · exact h5
            · rw [List.getElem?_eq_none h5] at hv; cases hv
          rw [Array.getElem?_append, if_pos (by simpa using hj), Array.getElem?_append] 
          rw [List.getElem?_append] at hv
          simpa using hv) hsc hw)
      refine ⟨_, w', _, hk _ (newCap - (len + m)) hf, ?_, g1, ⟨g2.size, g2.keep, g2.dom, g2.tape, g2.os, g2.out⟩⟩
      rw [hrun]
      simp only [newRow, Sem.run_bind, hr, Result.andThen_ok, Sem.run_pure]
      rw [show len + m + (newCap - (len + m)) = newCap by omega]
    · obtain ⟨ab, ao, asp⟩ := ad
      simp only at hspot hrow hoff hroom hk
      subst hspot
      obtain ⟨hscv, c, fz, hb, hrm, hfz, hcc⟩ := hs ab _ hrow
      obtain ⟨f1, f2, f3⟩ := run_firstCells (P := P) (k := len) (c := cap) hs hl1
      have hsc : ∀ v ∈ l1 ++ l2, scal v = true := fun v hv => (List.mem_append.1 hv).elim (f3 v) (hsc2 v)
      have hl1c : ∀ (j : Nat) (v : Value), l1[j]? = some v → c[ao + j]? = some v := by
        intro j v hv
        unfold SHeap.ldS at hl1
        cases hb0 : Nat.beq (len * n) 0 with
        | true => rw [hb0] at hl1; cases hl1; simp at hv
        | false =>
          rw [hb0] at hl1
          have h5 := SHeap.ld_cells hs hl1 j v hv
          have hadd : (Addr.mk ab ao none).add j = ⟨ab, ao + j, none⟩ := by unfold Addr.add; split <;> simp_all
          rw [hadd] at h5
          simpa [World.cell?, hb] using h5
      have hdel : ∀ w' : World, (∀ b', b' ≠ ab → b' < w.heap.size → w'.heap[b']? = w.heap[b']?) → ∀ b' r, (σ.del ab) b' = some r → r.sat w' b' := by
        intro w' hoth b' r hb'
        rw [SHeap.del_eq] at hb'
        split at hb'
        · cases hb'
        · rename_i hne
          exact Row.sat_congr (hoth b' hne (hs.lt (by rw [hb']; simp))) (hs b' r hb')
      by_cases hle2 : len + m ≤ cap
      · -- in place
        have hmul : (len + m) * n ≤ cap * n := Nat.mul_le_mul_right _ hle2
        have hmul2 : (len + m) * n = len * n + m * n := Nat.add_mul _ _ _
        obtain ⟨w', c', hrun, hb', hsz', hget, hoth, hs1, hs2, hs3, hs4⟩ := run_storeCells1 (P := P) ab (ao + len * n) l2 0 w c e fz hb
          (fun j _ hj => ⟨by omega, hfz _ (by omega) (by omega)⟩) hsc2
        have hk' := hk ab ao (cap - (len + m)) (by simp)
        rw [show len + m + (cap - (len + m)) = cap by omega] at hk'
        refine ⟨_, w', _, hk', inPlace hle2 w' ?_, ?_, ?_⟩
        · have hadd : (Addr.mk ab ao none).add (len * n) = ⟨ab, ao + len * n, none⟩ := by unfold Addr.add; split <;> simp_all
          simp only [hadd]; exact hrun
        · intro b' r hb2
          by_cases hbb : b' = ab
          · subst hbb
            rw [SHeap.set_same] at hb2
            cases hb2
            refine ⟨hsc, c', fz, hb', ?_, ?_, ?_⟩
            · rw [hsz', List.length_append, f2, hl2, Nat.sub_mul]; omega
            · rw [List.length_append, f2, hl2, Nat.sub_mul]
              intro j hj1 hj2
              exact hfz j (by omega) (by omega)
            · intro j v hv
              have hg := hget (ao + j)
              simp only [Nat.add_zero] at hg
              rw [List.getElem?_append] at hv
              by_cases hj : j < l1.length
              · rw [if_pos hj] at hv
                rw [if_neg (by omega)] at hg
                exact hg.trans (hl1c j v hv)
              · rw [if_neg hj] at hv
                have hjl : j - l1.length < l2.length := by
                  rcases Nat.lt_or_ge (j - l1.length) l2.length with h5 | h5
                  · exact h5
                  · rw [List.getElem?_eq_none h5] at hv; cases hv
                rw [if_pos (by omega), show ao + j - (ao + len * n) = j - l1.length by omega] at hg
                exact hg.trans hv
          · rw [SHeap.set_ne _ _ hbb] at hb2
            exact hdel w' (fun b2 h1 _ => hoth b2 h1) b' r hb2
        · exact fr_new (by rw [hrow]; simp) (.inr rfl) (by omega) (fun c2 _ h2 => hoth c2 h2) hs2 hs3 hs4
      · have hs' : Sat { w with drawn := w.drawn + 1 } σ := hs
        obtain ⟨f1', _, _⟩ := run_firstCells (P := P) (k := len) (c := cap) hs' hl1
        obtain ⟨newCap, hnc, hrun⟩ := copying hle2 hle _ f1'
        refine ⟨_, { w with drawn := w.drawn + 1, heap := w.heap.push (.cells (l1.toArray ++ l2.toArray ++ Builtin.zeroCells i.zero.toArray (newCap - (len + m))) e) }, _, hk w.heap.size 0 (newCap - (len + m)) (by rw [SHeap.del_eq]; split; rfl; exact hs.fresh), ?_, ?_, ?_⟩
        · rw [hrun]
          simp only [newRow, Sem.run_bind, newObj, Sem.run, Result.andThen_ok, Sem.run_pure]
          rw [show len + m + (newCap - (len + m)) = newCap by omega]
        · intro b' r hb2
          by_cases hbb : b' = w.heap.size
          · subst hbb
            rw [SHeap.set_same] at hb2
            cases hb2
            refine sat_own_new (c := l1.toArray ++ l2.toArray ++ Builtin.zeroCells i.zero.toArray (newCap - (len + m))) _ _ (by simp [zlen]) (fun j v hv => ?_) hsc (by simp)
            have hj : j < (l1 ++ l2).length := by
              rcases Nat.lt_or_ge j (l1 ++ l2).length with h5 | h5
              · exact h5
              · rw [List.getElem?_eq_none h5] at hv; cases hv
            rw [Array.getElem?_append, if_pos (by simpa using hj), Array.getElem?_append]
            rw [List.getElem?_append] at hv
            simpa using hv
          · rw [SHeap.set_ne _ _ hbb] at hb2
            exact hdel _ (fun b2 _ hlt => by simp [Array.getElem?_push, Nat.ne_of_lt hlt]) b' r hb2
        · exact fr_new (by rw [hrow]; simp) (.inl rfl) (by simp) (fun c2 hlt _ => by simp [Array.getElem?_push, Nat.ne_of_lt hlt]) rfl rfl rfl

end Go.Sep
