/- Regions that draw their order: sound. -/
import Derived.Test.YtgadojhdajmidaaGreatDoorCloG
set_option linter.unusedSimpArgs false
set_option linter.unusedVariables false
namespace Go.Sep

/-- What a region comes to, from a start. -/
def RegOut (P : Program) (T : Nat → Option TInf) (n : Nat) (b : Frame) (cs : List Frame) (rs : List Nat) (k : List Item) (ι : Ren) (τ : VH) (σ : SHeap) (w : World) (m : Machine) : RRes → Prop
  | .ok ev' τ' => ∃ ι' tmps' w' σ', Ext ι τ ι' τ' ∧ EnvR ι' ev' (envT tmps') ∧ tmps'.size = n ∧ HR T ι' τ' σ' ∧ Sat w' σ' ∧ Marks rs σ' w' ∧ Fr σ σ' w w' ∧ Steps P m (lone (b.atR ⟨tmps', marks rs⟩ k) cs w')
  | .pan v τ' => ∃ ι' v' w' σ', Ext ι τ ι' τ' ∧ VR ι' v v' ∧ HR T ι' τ' σ' ∧ Sat w' σ' ∧ FrM rs σ σ' w w' ∧ Goal P b cs m w' (.pan (chain v'))

def DM (done : Nat) (L : List Nat) : Prop := ∀ i, hasB done i = decide (i ∈ L)

theorem hasB_bit (i j : Nat) : hasB (bit i) j = decide (j = i) := by
  show Nat.testBit (1 <<< i) j = _
  rw [Nat.one_shiftLeft, Nat.testBit_two_pow]
  by_cases h : i = j
  · simp [h]
  · have h2 : ¬ j = i := fun e => h e.symm
    simp [h, h2]

theorem DM.add {done : Nat} {L : List Nat} (h : DM done L) (i : Nat) : DM (Nat.lor done (bit i)) (i :: L) := by
  intro j
  show Nat.testBit (done ||| bit i) j = _
  rw [Nat.testBit_or]
  have h1 : Nat.testBit done j = decide (j ∈ L) := h j
  have h2 : Nat.testBit (bit i) j = decide (j = i) := hasB_bit i j
  rw [h1, h2]
  by_cases hj : j = i <;> by_cases hl : j ∈ L <;> simp [hj, hl]

theorem infs_mem {ops : Array Oper} {s : SI} (h : s ∈ infs ops) : ∃ o, ops[s.i]? = some o ∧ s = siOf (stars ops) (o, s.i) := by
  unfold infs at h
  obtain ⟨p, hp, rfl⟩ := List.mem_map.1 h
  obtain ⟨o, i⟩ := p
  rw [List.mem_zipIdx_iff_getElem?] at hp
  have h2 : ops[i]? = some o := by simpa using hp
  exact ⟨o, h2, rfl⟩

theorem mem_infs {ops : Array Oper} {i : Nat} {o : Oper} (h : ops[i]? = some o) : siOf (stars ops) (o, i) ∈ infs ops :=
  List.mem_map.2 ⟨(o, i), mem_zip h, rfl⟩

theorem rdy_iff {ops : Array Oper} {i : Nat} {o : Oper} (ho : ops[i]? = some o) {done : Nat} {L : List Nat} (hd : DM done L) :
    (siOf (stars ops) (o, i)).rdy done = true ↔ i ∉ L ∧ ∀ j ∈ pre ops i, j ∈ L := by
  have hpre : pre ops i = preOf o := by simp [pre, ho]
  unfold SI.rdy siOf
  simp only [Bool.and_eq_true]
  constructor
  · rintro ⟨h1, h2⟩
    have e1 : done &&& bit i = 0 := Nat.eq_of_beq_eq_true h1
    have e2 : done &&& maskOf (preOf o) = maskOf (preOf o) := Nat.eq_of_beq_eq_true h2
    refine ⟨fun hi => ?_, fun j hj => ?_⟩
    · have := congrArg (fun m => Nat.testBit m i) e1
      simp only [Nat.testBit_and, Nat.zero_testBit] at this
      have g1 : Nat.testBit done i = true := by rw [show Nat.testBit done i = hasB done i from rfl, hd i]; simpa using hi
      have g2 : Nat.testBit (bit i) i = true := by rw [show Nat.testBit (bit i) i = hasB (bit i) i from rfl, hasB_bit]; simp
      rw [g1, g2] at this; cases this
    · rw [hpre] at hj
      have := congrArg (fun m => Nat.testBit m j) e2
      simp only [Nat.testBit_and] at this
      have g2 : Nat.testBit (maskOf (preOf o)) j = true := by rw [show Nat.testBit (maskOf (preOf o)) j = hasB (maskOf (preOf o)) j from rfl, hasB_mask]; simpa using hj
      rw [g2, Bool.and_true] at this
      have h3 : hasB done j = true := this
      rw [hd j] at h3
      simpa using h3
  · rintro ⟨h1, h2⟩
    constructor
    · have : done &&& bit i = 0 := by
        apply Nat.eq_of_testBit_eq
        intro j
        rw [Nat.testBit_and, Nat.zero_testBit]
        by_cases hj : j = i
        · subst hj
          have : Nat.testBit done j = false := by rw [show Nat.testBit done j = hasB done j from rfl, hd j]; simpa using h1
          rw [this]; rfl
        · have : Nat.testBit (bit i) j = false := by rw [show Nat.testBit (bit i) j = hasB (bit i) j from rfl, hasB_bit]; simpa using hj
          rw [this]; simp
      show Nat.beq (done &&& bit i) 0 = true
      rw [this]; rfl
    · have : done &&& maskOf (preOf o) = maskOf (preOf o) := by
        apply Nat.eq_of_testBit_eq
        intro j
        rw [Nat.testBit_and]
        by_cases hj : j ∈ preOf o
        · have g1 : Nat.testBit done j = true := by rw [show Nat.testBit done j = hasB done j from rfl, hd j]; simpa using h2 j (by rw [hpre]; exact hj)
          rw [g1]; simp
        · have g2 : Nat.testBit (maskOf (preOf o)) j = false := by rw [show Nat.testBit (maskOf (preOf o)) j = hasB (maskOf (preOf o)) j from rfl, hasB_mask]; simpa using hj
          rw [g2]; simp
      show Nat.beq (done &&& maskOf (preOf o)) (maskOf (preOf o)) = true
      rw [this]; simp

section
variable {P : Program} {T : Nat → Option TInf} {call : CallT} {n : Nat} {ops : Array Oper} {rs : List Nat} {ι0 : Ren} {τ0 : VH} {σ0 : SHeap} {w0 : World}

/-- All that is steady and ready is taken ahead. -/
theorem DInv.ahead (hok : SOk ops) {full : Nat} {res : RRes} {listed : Array Bool} {ι : Ren} {σ : SHeap} {tmps : Array Value} {w : World} : ∀ {f done : Nat} {L : List Nat} {mp : Nat → Option Nat} {ev : HT Value} {τ : VH},
    DInv T n ops rs ι0 τ0 σ0 w0 listed L mp ev τ ι σ tmps w → DM done L → regD T call ops (infs ops) full f done ev τ = some res →
    ∃ f' done' L' mp' ev' τ', DInv T n ops rs ι0 τ0 σ0 w0 listed L' mp' ev' τ' ι σ tmps w ∧ DM done' L' ∧ findS done' (infs ops) = none ∧ regD T call ops (infs ops) full f' done' ev' τ' = some res := by
  intro f
  induction f with
  | zero => intro done L mp ev τ _ _ h; cases h
  | succ f ih =>
    intro done L mp ev τ hI hD h
    cases hf : findS done (infs ops) with
    | none => exact ⟨f + 1, done, L, mp, ev, τ, hI, hD, hf, h⟩
    | some s =>
      rw [regD_succ, hf] at h
      simp only at h
      rw [findS_eq] at hf
      obtain ⟨o, ho, hs⟩ := infs_mem (List.mem_of_find?_eq_some hf)
      have hc := List.find?_some hf
      simp only [Bool.and_eq_true] at hc
      have hr := hc.2
      rw [hs, rdy_iff ho hD] at hr
      have hso : s.o = o := by rw [hs]; rfl
      have hsb : s.b = bit s.i := by rw [hs]; rfl
      have hsk : s.k = knd o.op := by rw [hs]; rfl
      have hk1 : knd o.op ≤ 1 := by rw [← hsk]; exact Nat.le_of_ble_eq_true hc.1
      rw [hso, hsb] at h
      split at h
      · rename_i hg
        exact ih (hI.take hok ho hr.1 hk1 hr.2 (by unfold stepVal; rw [hg])) (hD.add _) h
      · rename_i hg
        split at h
        · rename_i vs hvs
          cases hk0 : Nat.beq s.k 0 with
          | true =>
            rw [hk0] at h
            simp only [cond_true] at h
            split at h
            · rename_i v hv
              refine ih (hI.take hok ho hr.1 hk1 hr.2 (v := v) ?_) (hD.add _) h
              unfold stepVal
              rw [hg, hvs]
              simp only
              rw [← hsk, hk0]
              exact hv
            · cases h
          | false =>
            rw [hk0] at h
            simp only [cond_false] at h
            have hne := Nat.ne_of_beq_eq_false hk0
            split at h
            · rename_i v row hal
              exact ih (hI.takeNew hok ho hr.1 (by omega) hr.2 hg hvs hal) (hD.add _) h
            · cases h
        · cases h
      · cases h

theorem count_zero {listed : Array Bool} (h : listed.count false = 0) : ∀ i, i < listed.size → listed[i]? = some true := by
  intro i hi
  have h1 := Array.count_eq_zero.1 h
  have h2 : listed[i] ∈ listed := Array.getElem_mem hi
  cases hb : listed[i] with
  | true => rw [Array.getElem?_eq_getElem hi, hb]
  | false => rw [hb] at h2; exact absurd h2 h1

theorem count_down {listed : Array Bool} {i : Nat} (hi : i < listed.size) (h : listed[i]? = some false) : (listed.setIfInBounds i true).count false + 1 = listed.count false := by
  have h0 : listed[i] = false := by rw [Array.getElem?_eq_getElem hi] at h; exact Option.some.inj h
  have hm : false ∈ listed := by rw [← h0]; exact Array.getElem_mem hi
  have hpos : 0 < listed.count false := Array.count_pos_iff.2 hm
  have : listed.setIfInBounds i true = listed.set i true := by simp [Array.setIfInBounds, hi]
  rw [this, Array.count_set hi, h0]
  simp
  omega

theorem pre_mem {o : Oper} {i j : Nat} (ho : ops[i]? = some o) : j ∈ pre ops i ↔ ∃ e ∈ o.after, Region.binds .any e = true ∧ e.on = j := by
  simp [pre, ho, preOf, and_assoc]

theorem ready_iff {o : Oper} {i : Nat} {listed : Array Bool} (hsz : listed.size = ops.size) (ho : ops[i]? = some o) : i ∈ Region.ready .any ops listed ↔ listed[i]? = some false ∧ ∀ j ∈ pre ops i, listed[j]? = some true := by
  have hlt : i < listed.size := by rw [hsz]; exact (Array.getElem?_eq_some_iff.1 ho).1
  rw [mem_ready]
  constructor
  · rintro ⟨h1, o', h2, h3⟩
    rw [ho] at h2; cases h2
    refine ⟨?_, fun j hj => ?_⟩
    · rw [Array.getElem?_eq_getElem hlt]
      simpa [Array.getD, hlt] using h1
    · obtain ⟨e, he, hb, rfl⟩ := (pre_mem ho).1 hj
      have := h3 e he hb
      by_cases hl : e.on < listed.size
      · rw [Array.getElem?_eq_getElem hl]; simpa [Array.getD, hl] using this
      · simp [Array.getD, hl] at this
  · rintro ⟨h1, h2⟩
    refine ⟨?_, o, ho, fun e he hb => ?_⟩
    · rw [Array.getElem?_eq_getElem hlt] at h1
      simp [Array.getD, hlt, Option.some.inj h1]
    · have := h2 e.on ((pre_mem ho).2 ⟨e, he, hb, rfl⟩)
      have hl : e.on < listed.size := (Array.getElem?_eq_some_iff.1 this).1
      rw [Array.getElem?_eq_getElem hl] at this
      simp [Array.getD, hl, Option.some.inj this]

theorem Topo.first {L : List Nat} {listed : Array Bool} (h : Topo ops L) : (∀ i ∈ L, listed[i]? = some true) ∨ ∃ i ∈ L, listed[i]? ≠ some true ∧ ∀ j ∈ pre ops i, listed[j]? = some true := by
  induction h with
  | nil => exact .inl fun i hi => by cases hi
  | @cons i l h hi hp ih =>
    rcases ih with ih | ⟨j, hj, h1, h2⟩
    · by_cases hc : listed[i]? = some true
      · exact .inl fun j hj => by
          rcases List.mem_cons.1 hj with rfl | hj
          · exact hc
          · exact ih j hj
      · exact .inr ⟨i, by simp, hc, fun j hj => ih j (hp j hj)⟩
    · exact .inr ⟨j, List.mem_cons_of_mem _ hj, h1, h2⟩

variable {b : Frame} {cs : List Frame} {k : List Item}

theorem draw_go (hT : TOk P T) (hz : TCst T) (hcall : CallOk P T call) (hfn : ∃ fn, P.funcs[b.fn]? = some fn) (hok : SOk ops) (hdo : ∀ (i : Nat) (o : Oper), ops[i]? = some o → dstOk n o.dst = true) {m0 : Machine} {res : RRes} :
    ∀ (fuel t : Nat) {listed : Array Bool} {f done : Nat} {L : List Nat} {mp : Nat → Option Nat} {ev : HT Value} {τ : VH} {ι : Ren} {σ : SHeap} {tmps : Array Value} {w : World},
    listed.count false ≤ fuel → DInv T n ops rs ι0 τ0 σ0 w0 listed L mp ev τ ι σ tmps w → DM done L → findS done (infs ops) = none → regD T call ops (infs ops) (Nat.sub (bit ops.size) 1) f done ev τ = some res →
    Steps P m0 (lone (b.atR ⟨tmps, marks rs⟩ (.inRegion ops (Region.linearise.go .any ops fuel t listed []) :: k)) cs w) → RegOut P T n b cs rs k ι0 τ0 σ0 w0 m0 res := by
  intro fuel
  -- what is left when nothing is ready
  have fin : ∀ {listed : Array Bool} {f done : Nat} {L : List Nat} {mp : Nat → Option Nat} {ev : HT Value} {τ : VH} {ι : Ren} {σ : SHeap} {tmps : Array Value} {w : World}, (∀ i, i ∉ Region.ready .any ops listed) →
      DInv T n ops rs ι0 τ0 σ0 w0 listed L mp ev τ ι σ tmps w → DM done L → findS done (infs ops) = none → regD T call ops (infs ops) (Nat.sub (bit ops.size) 1) f done ev τ = some res →
      Steps P m0 (lone (b.atR ⟨tmps, marks rs⟩ (.inRegion ops [] :: k)) cs w) → RegOut P T n b cs rs k ι0 τ0 σ0 w0 m0 res := by
    intro listed f done L mp ev τ ι σ tmps w hnr hI hD hS hreg hst
    have hfal : ∀ {i}, i < ops.size → listed[i]? ≠ some true → listed[i]? = some false := by
      intro i hi hne
      have hlt : i < listed.size := by rw [hI.lsz]; exact hi
      rw [Array.getElem?_eq_getElem hlt] at hne ⊢
      cases hb : listed[i] with
      | true => rw [hb] at hne; exact absurd rfl hne
      | false => rfl
    have hall : ∀ i ∈ L, listed[i]? = some true := by
      rcases hI.topo.first (listed := listed) with h1 | ⟨i, h1, h2, h3⟩
      · exact h1
      · have hlt := hI.rng i h1
        exact absurd ((ready_iff hI.lsz (Array.getElem?_eq_getElem hlt)).2 ⟨hfal hlt h2, h3⟩) (hnr i)
    cases f with
    | zero => cases hreg
    | succ f =>
      rw [regD_succ, hS] at hreg
      simp only at hreg
      have henv : EnvR ι ev (envT tmps) := fun t v hv => by
        rcases hI.env t v hv with ⟨i, o, h1, h2, _⟩ | ⟨v', h1, h2⟩
        · exact absurd (hall i h1) h2
        · exact ⟨v', envT_of h1, h2⟩
      split at hreg
      · cases hb : Nat.beq done (Nat.sub (bit ops.size) 1) with
        | false => rw [hb] at hreg; cases hreg
        | true =>
          rw [hb] at hreg; cases hreg
          exact ⟨ι, tmps, w, σ, hI.ext, henv, hI.sz, hI.hr, hI.sat, hI.mks, hI.fr, hst.trans (.one stepR_region_end)⟩
      · rename_i s hO
        rw [findO_eq] at hO
        have hmem : s ∈ (infs ops).filter fun s => s.rdy done := by rw [hO]; simp
        rw [List.mem_filter] at hmem
        obtain ⟨o, ho, hs⟩ := infs_mem hmem.1
        have hr := hmem.2
        rw [hs, rdy_iff ho hD] at hr
        have hlt : s.i < ops.size := (Array.getElem?_eq_some_iff.1 ho).1
        refine absurd ((ready_iff hI.lsz ho).2 ⟨hfal hlt fun e => hr.1 (hI.sub _ e), fun j hj => hall j (hr.2 j hj)⟩) (hnr s.i)
      · cases hreg
  induction fuel with
  | zero =>
    intro t listed f done L mp ev τ ι σ tmps w hc hI hD hS hreg hst
    refine fin (fun i hi => ?_) hI hD hS hreg (by simpa [Region.linearise.go] using hst)
    obtain ⟨h1, o, ho, _⟩ := mem_ready.1 hi
    have hlt : i < listed.size := by rw [hI.lsz]; exact (Array.getElem?_eq_some_iff.1 ho).1
    have := count_zero (Nat.le_zero.1 hc) i hlt
    rw [((ready_iff hI.lsz ho).1 hi).1] at this; cases this
  | succ fuel ih =>
    intro t listed f done L mp ev τ ι σ tmps w hc hI hD hS hreg hst
    have hgo : Region.linearise.go .any ops (fuel + 1) t listed [] = (match (Region.ready .any ops listed)[t % (Region.ready .any ops listed).length]? with
      | some i => Region.linearise.go .any ops fuel (t / (Region.ready .any ops listed).length) (listed.setIfInBounds i true) [i]
      | none => [].reverse) := rfl
    rw [hgo] at hst
    cases hi : (Region.ready .any ops listed)[t % (Region.ready .any ops listed).length]? with
    | none =>
      rw [hi] at hst
      refine fin (fun i hm => ?_) hI hD hS hreg (by simpa using hst)
      cases hr : Region.ready .any ops listed with
      | nil => rw [hr] at hm; cases hm
      | cons x xs =>
        rw [hr] at hi
        have hlt : t % (x :: xs).length < (x :: xs).length := Nat.mod_lt _ (by simp)
        rw [List.getElem?_eq_getElem hlt] at hi; cases hi
    | some i =>
      rw [hi] at hst
      simp only at hst
      rw [linearise_go_acc, List.reverse_singleton, List.singleton_append] at hst
      have hm : i ∈ Region.ready .any ops listed := List.mem_of_getElem? hi
      obtain ⟨_, o, ho, _⟩ := mem_ready.1 hm
      obtain ⟨hf, hp⟩ := (ready_iff hI.lsz ho).1 hm
      have hlt : i < listed.size := by rw [hI.lsz]; exact (Array.getElem?_eq_some_iff.1 ho).1
      have hne : listed[i]? ≠ some true := by rw [hf]; simp
      have hc' : (listed.setIfInBounds i true).count false ≤ fuel := by have := count_down hlt hf; omega
      generalize hrest : Region.linearise.go .any ops fuel (t / (Region.ready .any ops listed).length) (listed.setIfInBounds i true) [] = rest at hst
      by_cases hiL : i ∈ L
      · obtain ⟨ι', σ', tmps', w', h1, h2⟩ := hI.doPend (b := b) (cs := cs) (k := k) hT hz hcall hfn hok hdo ho hiL hne hp rest
        exact ih _ hc' h1 hD hS hreg (by rw [hrest]; exact hst.trans h2)
      · cases f with
        | zero => cases hreg
        | succ f =>
          rw [regD_succ, hS] at hreg
          simp only at hreg
          have hrdy : (siOf (stars ops) (o, i)).rdy done = true := (rdy_iff ho hD).2 ⟨hiL, fun j hj => hI.sub j (hp j hj)⟩
          have hmem : siOf (stars ops) (o, i) ∈ findO done (infs ops) := by rw [findO_eq, List.mem_filter]; exact ⟨mem_infs ho, hrdy⟩
          split at hreg
          · rename_i hO; rw [hO] at hmem; cases hmem
          · rename_i s hO
            rw [hO] at hmem
            obtain rfl := (List.mem_singleton.1 hmem).symm
            have hso : (siOf (stars ops) (o, i)).o = o := rfl
            have hsb : (siOf (stars ops) (o, i)).b = bit i := rfl
            rw [hso, hsb] at hreg
            have hreads := hI.reads hok ho hp
            have hdn : dstOk tmps.size o.dst = true := by rw [hI.sz]; exact hdo i o ho
            have hpa : ∀ v', (⟨((⟨tmps, marks rs⟩ : Act).put o.dst v').tmps, marks rs⟩ : Act) = (⟨tmps, marks rs⟩ : Act).put o.dst v' := fun v' => by cases o.dst <;> rfl
            split at hreg
            · rename_i hg
              have hw := gd_read hreads hg
              have hI' := hI.eff hok ho hiL hp hdn undef_vr (Ext.refl _ _) hI.hr hI.sat hI.mks hI.fr fun j oj d vj hj hjl hoj _ _ hsv => by
                obtain ⟨a1, a2⟩ := hI.apart hok ho hiL (.inr hp) hj hjl hoj
                rw [step_agree fun t ht => putC_get_ne (a1 t ht)]; exact hsv
              obtain ⟨f', done', L', mp', ev', τ', g1, g2, g3, g4⟩ := hI'.ahead hok (hD.add i) hreg
              refine ih _ hc' g1 g2 g3 g4 (by rw [hrest, hpa]; exact hst.trans (.one (skip_step ho hw)))
            · rename_i hg
              have hw := gd_read hreads hg
              split at hreg
              · rename_i vs hvs
                obtain ⟨vs', he, hvr⟩ := vals_read (rds_vals hreads) hvs
                split at hreg
                · rename_i v τ1 hop
                  obtain ⟨ι', v', w', σ', x1, x2, x3, x4, x5⟩ := opC_exec hT hz hcall (b := b) (cs := cs) (k := k) (rest := rest) hfn hI.mks hI.sat hI.hr ho hw hdn hvr he hop
                  rcases x5 with ⟨_, y1, y2⟩ | ⟨y0, _⟩
                  · cases hrc : rechkB T ops done (siOf (stars ops) (o, i)) (putC ev o.dst v) τ1 (infs ops) with
                    | false => rw [hrc] at hreg; cases hreg
                    | true =>
                      rw [hrc] at hreg
                      simp only [cond_true] at hreg
                      have hrck := rechkB_ok hrc
                      have hI' := hI.eff hok ho hiL hp hdn x2 x1 x3 x4 (hI.mks.next y1) (hI.fr.trans y1) fun j oj d vj hj hjl hoj hdj hvj hsv => by
                        obtain ⟨a1, a2⟩ := hI.apart hok ho hiL (.inr hp) hj hjl hoj
                        by_cases hk0 : knd oj.op = 0
                        · have hst0 : hasB (siOf (stars ops) (o, i)).st (siOf (stars ops) (oj, j)).i = false := by
                            cases hb : hasB (siOf (stars ops) (o, i)).st (siOf (stars ops) (oj, j)).i with
                            | false => rfl
                            | true =>
                              have hstar : Star ops i j := starsD hb
                              exact absurd (hstar (fun a => listed[a]? = some true) hI.lcl hp) hjl
                          have hdn' : hasB done (siOf (stars ops) (oj, j)).i = true := by
                            rw [hD]; exact decide_eq_true (show (siOf (stars ops) (oj, j)).i ∈ L from hj)
                          obtain ⟨d2, v2, z1, z2, z3⟩ := hrck _ (mem_infs hoj) hk0 hdn' hst0
                          have z1' : oj.dst = some d2 := z1
                          rw [hdj] at z1'; cases z1'
                          rw [putC_get_ne (a2 d hdj), hvj] at z3
                          cases z3
                          exact z2
                        · rw [step_agree fun t ht => putC_get_ne (a1 t ht)]
                          exact stepVal_kind hk0 hsv
                      obtain ⟨f', done', L', mp', ev', τ', g1, g2, g3, g4⟩ := hI'.ahead hok (hD.add i) hreg
                      exact ih _ hc' g1 g2 g3 g4 (by rw [hrest, hpa]; exact hst.trans y2)
                  · cases y0
                · rename_i v τ1 hop
                  cases hreg
                  obtain ⟨ι', v', w', σ', x1, x2, x3, x4, x5⟩ := opC_exec hT hz hcall (b := b) (cs := cs) (k := k) (rest := rest) hfn hI.mks hI.sat hI.hr ho hw hdn hvr he hop
                  rcases x5 with ⟨y0, _⟩ | ⟨_, y1, y2⟩
                  · cases y0
                  · exact ⟨ι', v', w', σ', hI.ext.trans x1, x2, x3, x4, (FrM.of hI.fr).trans y1, y2.steps hst⟩
                · cases hreg
              · cases hreg
            · cases hreg
          · cases hreg
end

end Go.Sep
