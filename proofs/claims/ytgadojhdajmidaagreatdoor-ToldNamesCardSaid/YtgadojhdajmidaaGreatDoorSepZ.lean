/- Runs of closed calls: operations that make and write memory. -/
import Derived.Test.YtgadojhdajmidaaGreatDoorSepY
set_option linter.unusedSimpArgs false
set_option linter.unusedVariables false
namespace Go.Sep

/-- A value and a memory are found, whatever is asked of them. -/
def Gives2 (T : Nat → Option TInf) (ι : Ren) (τ : VH) (v : Value) (τ' : VH) (W : (Value → SHeap → Prop) → Prop) : Prop :=
  ∀ K : Value → SHeap → Prop, (∀ ι' v' σ', Ext ι τ ι' τ' → VR ι' v v' → HR T ι' τ' σ' → K v' σ') → W K

/-! ### New and changed rows -/

noncomputable def VH.add (τ : VH) (r : VRow) : VH := ⟨τ.rows.upd (some r) τ.next, Nat.succ τ.next⟩
noncomputable def VH.put (τ : VH) (b : Nat) (r : VRow) : VH := ⟨τ.rows.upd (some r) b, τ.next⟩
noncomputable def VH.del (τ : VH) (b : Nat) : VH := ⟨τ.rows.upd none b, τ.next⟩

def Ren.add (ι : Ren) (n : Nat) (i : RI) : Ren := fun c => if c = n then some i else ι c

theorem Ren.add_same (ι : Ren) (n : Nat) (i : RI) : ι.add n i n = some i := if_pos rfl
theorem Ren.add_ne (ι : Ren) {n c : Nat} (i : RI) (h : c ≠ n) : ι.add n i c = ι c := if_neg h

theorem HR.fresh {T : Nat → Option TInf} {ι : Ren} {τ : VH} {σ : SHeap} (hr : HR T ι τ σ) : ι τ.next = none := by
  cases h : ι τ.next with
  | none => rfl
  | some i => have := hr.dom _ i h; omega

theorem HR.addLe {T : Nat → Option TInf} {ι : Ren} {τ : VH} {σ : SHeap} (hr : HR T ι τ σ) (i : RI) : RLe ι (ι.add τ.next i) := fun b j hb => by
  have : b ≠ τ.next := fun e => by subst e; rw [hr.fresh] at hb; cases hb
  rw [Ren.add_ne _ _ this]; exact hb

theorem HR.new {T : Nat → Option TInf} {ι : Ren} {τ : VH} {σ : SHeap} (hr : HR T ι τ σ) {i : RI} (hi : σ i.blk = none) {r : VRow} {r' : Row} (h : RR T (ι.add τ.next i) i r r') :
    Ext ι τ (ι.add τ.next i) (τ.add r) ∧ HR T (ι.add τ.next i) (τ.add r) (σ.set i.blk r') := by
  have hle := hr.addLe i
  refine ⟨⟨hle, fun b hb hn => ?_, Nat.le_succ _⟩, ⟨fun b j x hb hx => ?_, fun b c j k hb hc hxb hxc hjk => ?_, fun b j hb => ?_, fun b hb => ?_, fun b g n t hb => ?_⟩⟩
  · have : b ≠ τ.next := by omega
    rw [Ren.add_ne _ _ this]
    exact ⟨hn, HT.upd_ne _ _ this⟩
  · by_cases hbn : b = τ.next
    · subst hbn
      rw [Ren.add_same] at hb; cases hb
      have hx' : (τ.rows.upd (some r) τ.next).get τ.next = some x := hx
      rw [HT.upd_same] at hx'; cases hx'
      exact ⟨r', SHeap.set_same .., h⟩
    · rw [Ren.add_ne _ _ hbn] at hb
      have hx' : (τ.rows.upd (some r) τ.next).get b = some x := hx
      rw [HT.upd_ne _ _ hbn] at hx'
      obtain ⟨y, h1, h2⟩ := hr.rows b j x hb hx'
      refine ⟨y, ?_, h2.mono hle⟩
      rw [SHeap.set_ne]
      · exact h1
      · intro e; rw [e, hi] at h1; cases h1
  · have key : ∀ {b j}, b ≠ τ.next → ι.add τ.next i b = some j → (τ.add r).rows.get b ≠ none → j.blk ≠ i.blk := by
      intro b j hbn hb hxb e
      rw [Ren.add_ne _ _ hbn] at hb
      have hx' : (τ.rows.upd (some r) τ.next).get b ≠ none := hxb
      rw [HT.upd_ne _ _ hbn] at hx'
      cases hx : τ.rows.get b with
      | none => exact hx' hx
      | some x =>
        obtain ⟨y, h1, _⟩ := hr.rows b j x hb hx
        rw [e, hi] at h1; cases h1
    by_cases hbn : b = τ.next
    · by_cases hcn : c = τ.next
      · rw [hbn, hcn]
      · have h1 := key hcn hc hxc
        subst hbn
        rw [Ren.add_same] at hb; cases hb
        exact absurd hjk.symm h1
    · by_cases hcn : c = τ.next
      · have h1 := key hbn hb hxb
        subst hcn
        rw [Ren.add_same] at hc; cases hc
        exact absurd hjk h1
      · rw [Ren.add_ne _ _ hbn] at hb
        rw [Ren.add_ne _ _ hcn] at hc
        have hxb' : (τ.rows.upd (some r) τ.next).get b ≠ none := hxb
        have hxc' : (τ.rows.upd (some r) τ.next).get c ≠ none := hxc
        rw [HT.upd_ne _ _ hbn] at hxb'
        rw [HT.upd_ne _ _ hcn] at hxc'
        exact hr.inj b c j k hb hc hxb' hxc' hjk
  · show b < τ.next + 1
    by_cases hbn : b = τ.next
    · omega
    · rw [Ren.add_ne _ _ hbn] at hb
      have := hr.dom b j hb; omega
  · have hb' : τ.next + 1 ≤ b := hb
    show (τ.rows.upd (some r) τ.next).get b = none
    rw [HT.upd_ne _ _ (by omega)]
    exact hr.top b (by omega)
  · have hb' : (τ.rows.upd (some r) τ.next).get b = some (.fix g n t) := hb
    by_cases hbn : b = τ.next
    · subst hbn; rw [Ren.add_same]; simp
    · rw [HT.upd_ne _ _ hbn] at hb'
      rw [Ren.add_ne _ _ hbn]; exact hr.fixd b g n t hb'

theorem HR.put {T : Nat → Option TInf} {ι : Ren} {τ : VH} {σ : SHeap} (hr : HR T ι τ σ) {b : Nat} {i : RI} (hi : ι b = some i) {x : VRow} (hx : τ.rows.get b = some x) {r : VRow} {r' : Row} (h : RR T ι i r r') :
    Ext ι τ ι (τ.put b r) ∧ HR T ι (τ.put b r) (σ.set i.blk r') := by
  have live : ∀ c, (τ.put b r).rows.get c ≠ none → τ.rows.get c ≠ none := by
    intro c hc
    have hc' : (τ.rows.upd (some r) b).get c ≠ none := hc
    by_cases hcb : c = b
    · subst hcb; rw [hx]; simp
    · rwa [HT.upd_ne _ _ hcb] at hc'
  refine ⟨⟨RLe.refl ι, fun c hc hn => ⟨hn, ?_⟩, Nat.le_refl _⟩, ⟨fun c j y hc hy => ?_, fun c d j k hc hd hxc hxd hjk => ?_, hr.dom, fun c hc => ?_, fun c g n t hc => ?_⟩⟩
  · exact HT.upd_ne _ _ (fun e => by subst e; rw [hi] at hn; cases hn)
  · have hy' : (τ.rows.upd (some r) b).get c = some y := hy
    by_cases hcb : c = b
    · subst hcb
      rw [HT.upd_same] at hy'; cases hy'
      rw [hi] at hc; cases hc
      exact ⟨r', SHeap.set_same .., h⟩
    · rw [HT.upd_ne _ _ hcb] at hy'
      obtain ⟨z, h1, h2⟩ := hr.rows c j y hc hy'
      refine ⟨z, ?_, h2⟩
      rw [SHeap.set_ne]
      · exact h1
      · intro e
        exact hcb (hr.inj c b j i hc hi (by rw [hy']; simp) (by rw [hx]; simp) e)
  · exact hr.inj c d j k hc hd (live c hxc) (live d hxd) hjk
  · have hne : c ≠ b := fun e => by subst e; have := hr.dom c i hi; have : τ.next ≤ c := hc; omega
    show (τ.rows.upd (some r) b).get c = none
    rw [HT.upd_ne _ _ hne]; exact hr.top c hc
  · have hc' : (τ.rows.upd (some r) b).get c = some (.fix g n t) := hc
    by_cases hcb : c = b
    · subst hcb; rw [hi]; simp
    · rw [HT.upd_ne _ _ hcb] at hc'
      exact hr.fixd c g n t hc'

theorem HR.del {T : Nat → Option TInf} {ι : Ren} {τ : VH} {σ : SHeap} (hr : HR T ι τ σ) {b : Nat} {i : RI} (hi : ι b = some i) {x : VRow} (hx : τ.rows.get b = some x) :
    Ext ι τ ι (τ.del b) ∧ HR T ι (τ.del b) (σ.del i.blk) := by
  have live : ∀ c, (τ.del b).rows.get c ≠ none → c ≠ b ∧ τ.rows.get c ≠ none := by
    intro c hc
    have hc' : (τ.rows.upd none b).get c ≠ none := hc
    by_cases hcb : c = b
    · subst hcb; rw [HT.upd_same] at hc'; exact absurd rfl hc'
    · rw [HT.upd_ne _ _ hcb] at hc'; exact ⟨hcb, hc'⟩
  refine ⟨⟨RLe.refl ι, fun c hc hn => ⟨hn, ?_⟩, Nat.le_refl _⟩, ⟨fun c j y hc hy => ?_, fun c d j k hc hd hxc hxd hjk => ?_, hr.dom, fun c hc => ?_, fun c g n t hc => ?_⟩⟩
  · exact HT.upd_ne _ _ (fun e => by subst e; rw [hi] at hn; cases hn)
  · have h0 := live c (by rw [hy]; simp)
    have hy' : (τ.rows.upd none b).get c = some y := hy
    rw [HT.upd_ne _ _ h0.1] at hy'
    obtain ⟨z, h1, h2⟩ := hr.rows c j y hc hy'
    refine ⟨z, ?_, h2⟩
    rw [SHeap.del_ne]
    · exact h1
    · intro e
      exact h0.1 (hr.inj c b j i hc hi (by rw [hy']; simp) (by rw [hx]; simp) e)
  · exact hr.inj c d j k hc hd (live c hxc).2 (live d hxd).2 hjk
  · show (τ.rows.upd none b).get c = none
    by_cases hcb : c = b
    · subst hcb; exact HT.upd_same ..
    · rw [HT.upd_ne _ _ hcb]; exact hr.top c hc
  · have h0 := live c (by rw [hc]; simp)
    have hc' : (τ.rows.upd none b).get c = some (.fix g n t) := hc
    rw [HT.upd_ne _ _ h0.1] at hc'
    exact hr.fixd c g n t hc'

/-! ### Cells -/

/-- Cells from a place on. -/
noncomputable def upds (l : List Value) : HT Value → Nat → HT Value :=
  List.rec (motive := fun _ => HT Value → Nat → HT Value) (fun c _ => c) (fun v _ ih c o => ih (c.upd (some v) o) (Nat.succ o)) l

theorem upds_get : ∀ (l : List Value) (c : HT Value) (o j : Nat), (upds l c o).get j = if o ≤ j ∧ j < o + l.length then l[j - o]? else c.get j
  | [], c, o, j => by rw [if_neg (by simp)]; rfl
  | v :: l, c, o, j => by
    show (upds l (c.upd (some v) o) (o + 1)).get j = _
    rw [upds_get l _ (o + 1) j]
    by_cases h1 : j = o
    · subst h1
      rw [if_neg (by omega), if_pos (by simp), HT.upd_same]; simp
    · by_cases h2 : o + 1 ≤ j ∧ j < o + 1 + l.length
      · rw [if_pos h2, if_pos (by simp; omega)]
        have : j - o = (j - (o + 1)) + 1 := by omega
        rw [this, List.getElem?_cons_succ]
      · rw [if_neg h2, if_neg (by simp; omega), HT.upd_ne _ _ h1]

theorem VRs.getR {ι : Ren} : ∀ {x x' : List Value} {n : Nat}, VRs ι x x' → n < x.length → ∃ v v', x[n]? = some v ∧ x'[n]? = some v' ∧ VR ι v v'
  | _, _, n, .nil, h => by simp at h
  | _, _, 0, .cons a t, _ => ⟨_, _, rfl, rfl, a⟩
  | _, _, n + 1, .cons a t, h => by simpa using t.getR (n := n) (by simpa using h)

theorem cells_new {ι : Ren} {l l' : List Value} (h : VRs ι l l') : ∀ j, j < l.length → ∃ v v', (upds l .e 0).get j = some v ∧ l'[j]? = some v' ∧ VR ι v v' := by
  intro j hj
  obtain ⟨v, v', h1, h2, h3⟩ := h.getR hj
  refine ⟨v, v', ?_, h2, h3⟩
  rw [upds_get, if_pos (by omega)]
  simpa using h1

theorem RR.new {T : Nat → Option TInf} {ι : Ren} {t : Nat} {inf : TInf} (hT : T t = some inf) {l l' : List Value} (h : VRs ι l l') (b o ex : Nat) {n : Nat} (hn : n = l.length) :
    RR T ι ⟨b, o, ex⟩ (.own t (upds l .e 0) n 0) (.own t o l' (ex * inf.size)) := by
  subst hn
  exact ⟨inf, l', hT, by simp, ⟨h.length, fun h => by cases h⟩, cells_new h⟩

theorem RR.newF {T : Nat → Option TInf} {ι : Ren} {t : Nat} {inf : TInf} (hT : T t = some inf) {l l' : List Value} (h : VRs ι l l') (b : Nat) {n : Nat} (hn : n = l.length) :
    RR T ι ⟨b, 0, 0⟩ (.own t (upds l .e 0) n 1) (.own t 0 l' 0) := by
  subst hn
  exact ⟨inf, l', hT, by simp, ⟨h.length, fun _ => rfl⟩, cells_new h⟩

noncomputable def allS (l : List Value) : Bool := List.rec (motive := fun _ => Bool) true (fun v _ ih => Bool.rec (motive := fun _ => Bool) false ih (scal v)) l
theorem allS_eq (l : List Value) : allS l = l.all scal := by
  induction l with
  | nil => rfl
  | cons v l ih =>
    show Bool.rec (motive := fun _ => Bool) false (allS l) (scal v) = _
    rw [ih, List.all_cons]
    cases scal v <;> rfl

/-! ### Making -/

noncomputable def newC (T : Nat → Option TInf) (t : Nat) (v : Value) (τ : VH) : Option (Value × VH) :=
  match T t with
  | some _ => bif allS v.cells.toList then fN (lenL v.cells.toList) fun n => some (.pointer (some ⟨τ.next, 0, none⟩), τ.add (.own t (upds v.cells.toList .e 0) n 1)) else none
  | none => none

theorem newC_ok {T : Nat → Option TInf} {ι : Ren} {τ : VH} {σ : SHeap} (hr : HR T ι τ σ) {t : Nat} {x x' v : Value} {τ' : VH} (hx : VR ι x x') (h : newC T t x τ = some (v, τ')) : Gives2 T ι τ v τ' (newW t x' σ) := by
  unfold newC at h
  split at h
  · rename_i inf hT
    rw [allS_eq] at h
    cases ha : x.cells.toList.all scal with
    | false => rw [ha] at h; cases h
    | true =>
      rw [ha] at h
      simp only [cond_true, fN_eq, lenL_eq] at h
      cases h
      intro K hk
      have hs : x'.cells.all scal = true := by
        rw [← Array.all_toList, hx.cells.scal, ha]
      refine ⟨hs, fun b hb => ?_⟩
      have hrr := RR.newF hT (hx.cells.mono (hr.addLe ⟨b, 0, 0⟩)) b rfl
      obtain ⟨h1, h2⟩ := hr.new (i := ⟨b, 0, 0⟩) hb hrr
      exact hk _ _ _ h1 (.ptr (Ren.add_same ..)) h2
  · cases h

noncomputable def bslC (T : Nat → Option TInf) (t len : Nat) (is : List Nat) (vs : List Value) (τ : VH) : Option (Value × VH) :=
  match elemOfSl T t with
  | some e => (match T e with
    | some i => bif Nat.ble (Nat.mul len i.size) 16777216 && Nat.blt 0 i.size && prtC (List.replicate len i.zero) (is.zip vs) then
        fL (laySegs (List.replicate len i.zero) (is.zip vs)).flatten fun l => bif allS l then fN (lenL l) fun n => some (.slice (some ⟨τ.next, 0, none⟩) len (Nat.mul 2 len), τ.add (.own e (upds l .e 0) n 0)) else none
      else none
    | none => none)
  | none => none

theorem capA_even (n ex : Nat) : capA (Nat.mul 2 n) ex = n := by
  have : Nat.mul 2 n = 2 * n := rfl
  rw [this, capA]
  have h2 : 2 * n % 2 = 0 := by omega
  rw [h2]; omega

theorem bslC_ok {T : Nat → Option TInf} (hT : TCst T) {ι : Ren} {τ : VH} {σ : SHeap} (hr : HR T ι τ σ) {t len : Nat} {is : List Nat} {vs vs' : List Value} {v : Value} {τ' : VH} (hv : VRs ι vs vs') (h : bslC T t len is vs τ = some (v, τ')) :
    Gives2 T ι τ v τ' (bslW T t len (is.zip vs') σ) := by
  unfold bslC at h
  split at h
  · rename_i e he
    split at h
    · rename_i i hi
      cases hc : (Nat.ble (Nat.mul len i.size) 16777216 && Nat.blt 0 i.size && prtC (List.replicate len i.zero) (is.zip vs)) with
      | false => rw [hc] at h; cases h
      | true =>
        rw [hc] at h
        simp only [cond_true, fL_eq, fN_eq, lenL_eq, allS_eq] at h
        rw [Bool.and_eq_true] at hc
        have hseg : SegR ι (List.replicate len i.zero) (List.replicate len i.zero) := SegR.csts fun x hx => by
          rw [(List.mem_replicate.1 hx).2]; exact hT e i hi
        have hfl := (hseg.lay (is := is) hv).flat
        cases ha : (laySegs (List.replicate len i.zero) (is.zip vs)).flatten.all scal with
        | false => rw [ha] at h; cases h
        | true =>
          rw [ha] at h
          cases h
          intro K hk
          refine optW_of he (optW_of hi ?_)
          rw [show (Nat.ble (len * i.size) 16777216 && Nat.blt 0 i.size) = true from hc.1]
          refine prtC_ok hv hc.2 ⟨by rw [hfl.scal, ha], fun b hb => ?_⟩
          have hrr := RR.new hi (hfl.mono (hr.addLe ⟨b, 0, 0⟩)) b 0 0 rfl
          rw [Nat.zero_mul] at hrr
          obtain ⟨h1, h2⟩ := hr.new (i := ⟨b, 0, 0⟩) hb hrr
          have h3 : VR (ι.add τ.next ⟨b, 0, 0⟩) (.slice (some ⟨τ.next, 0, none⟩) len (Nat.mul 2 len)) (.slice (some ⟨b, 0 + 0, none⟩) len (capA (Nat.mul 2 len) 0)) := .slice (Ren.add_same ..)
          rw [capA_even] at h3
          exact hk _ _ _ h1 h3 h2
    · cases h
  · cases h

noncomputable def mkC (T : Nat → Option TInf) (t : Nat) (l c : Value) (τ : VH) : Option (Value × VH) :=
  match elemOfSl T t, l, c with
  | some e, .int _ (.ofNat l), .int _ (.ofNat c) => (match T e with
    | some i => bif Nat.ble i.bytes 4096 && Nat.blt 0 i.size && (Nat.ble l c && Nat.ble c 4294967296) then
        fL (List.replicate c i.zero).flatten fun xs => fN (lenL xs) fun n => some (.slice (some ⟨τ.next, 0, none⟩) l (Nat.mul 2 c), τ.add (.own e (upds xs .e 0) n 0))
      else none
    | none => none)
  | _, _, _ => none

theorem mkC_ok {T : Nat → Option TInf} (hT : TCst T) {ι : Ren} {τ : VH} {σ : SHeap} (hr : HR T ι τ σ) {t : Nat} {l c l' c' v : Value} {τ' : VH} (hl : VR ι l l') (hc : VR ι c c') (h : mkC T t l c τ = some (v, τ')) :
    Gives2 T ι τ v τ' (mkW T t l' c' σ) := by
  unfold mkC at h
  split at h
  · rename_i e kl nl kc nc he
    cases hl; cases hc
    split at h
    · rename_i i hi
      cases hq : (Nat.ble i.bytes 4096 && Nat.blt 0 i.size && (Nat.ble nl nc && Nat.ble nc 4294967296)) with
      | false => rw [hq] at h; cases h
      | true =>
        rw [hq] at h
        simp only [cond_true, fL_eq, fN_eq, lenL_eq] at h
        cases h
        rw [Bool.and_eq_true, Bool.and_eq_true (Nat.ble nl nc)] at hq
        have g1 := Nat.le_of_ble_eq_true hq.2.1
        have g2 := Nat.le_of_ble_eq_true hq.2.2
        intro K hk
        refine optW_of he (optW_of hi ?_)
        rw [hq.1]
        simp only [cond_true, asI]
        refine ⟨by simp only [Int.ofNat_eq_natCast]; omega, by simp only [Int.ofNat_eq_natCast]; omega, by simp only [Int.ofNat_eq_natCast]; omega, fun b hb => ?_⟩
        have hz : VRs ι (List.replicate nc i.zero).flatten (List.replicate nc i.zero).flatten :=
          (SegR.csts fun x hx => by rw [(List.mem_replicate.1 hx).2]; exact hT e i hi).flat
        have hrr := RR.new hi (hz.mono (hr.addLe ⟨b, 0, 0⟩)) b 0 0 rfl
        rw [Nat.zero_mul] at hrr
        obtain ⟨h1, h2⟩ := hr.new (i := ⟨b, 0, 0⟩) hb hrr
        have h3 : VR (ι.add τ.next ⟨b, 0, 0⟩) (.slice (some ⟨τ.next, 0, none⟩) nl (Nat.mul 2 nc)) (.slice (some ⟨b, 0 + 0, none⟩) nl (capA (Nat.mul 2 nc) 0)) := .slice (Ren.add_same ..)
        rw [capA_even] at h3
        exact hk _ _ _ h1 h3 h2
    · cases h
  · cases h

/-! ### Writing -/

noncomputable def stC (T : Nat → Option TInf) (t b o : Nat) (x : Value) (τ : VH) : Option VH :=
  match T t, τ.rows.get b with
  | some i, some (.own e cells len room) => fN (lenL x.cells.toList) fun n => bif Nat.beq n i.size && (allS x.cells.toList && Nat.ble (Nat.add o n) len) then some (τ.put b (.own e (upds x.cells.toList cells o) len room)) else none
  | _, _ => none

theorem st_of {T : Nat → Option TInf} {ι : Ren} {τ : VH} {σ : SHeap} (hr : HR T ι τ σ) {b o : Nat} {i : RI} (hi : ι b = some i) {e : Nat} {cells : HT Value} {len room : Nat} (hb : τ.rows.get b = some (.own e cells len room))
    {l l' : List Value} (hl : VRs ι l l') (ho : o + l.length ≤ len) :
    ∃ σ', σ.st ⟨i.blk, o + i.sh, none⟩ l' = some σ' ∧ Ext ι τ ι (τ.put b (.own e (upds l cells o) len room)) ∧ HR T ι (τ.put b (.own e (upds l cells o) len room)) σ' := by
  obtain ⟨r', h1, h2⟩ := hr.rows b i _ hi hb
  obtain ⟨inf, vs, h3, rfl, ⟨h5, hfx⟩, h6⟩ := h2
  have hlen := hl.length
  have hsp : o + l'.length ≤ vs.length := by omega
  have e1 : o + i.sh - i.sh = o := by omega
  have hrow : RR T ι i (.own e (upds l cells o) len room) (.own e i.sh (splice vs o l') (i.ex * inf.size)) := by
    refine ⟨inf, _, h3, rfl, ⟨by rw [splice_length hsp, h5], hfx⟩, fun j hj => ?_⟩
    rw [upds_get, splice_get hsp]
    by_cases hjo : o ≤ j ∧ j < o + l.length
    · obtain ⟨v, v', g1, g2, g3⟩ := hl.getR (n := j - o) (by omega)
      refine ⟨v, v', by rw [if_pos hjo, g1], ?_, g3⟩
      rw [if_pos (by rw [hlen]; exact hjo)]; exact g2
    · obtain ⟨v, v', g1, g2, g3⟩ := h6 j hj
      refine ⟨v, v', by rw [if_neg hjo, g1], ?_, g3⟩
      rw [if_neg (by rw [hlen]; exact hjo)]; exact g2
  obtain ⟨h7, h8⟩ := hr.put hi hb hrow
  refine ⟨_, ?_, h7, h8⟩
  unfold SHeap.st
  rw [h1]
  simp only [e1]
  rw [if_pos ⟨by omega, by omega⟩]

theorem stC_ok {T : Nat → Option TInf} {ι : Ren} {τ : VH} {σ : SHeap} (hr : HR T ι τ σ) {t b o : Nat} {i : RI} (hi : ι b = some i) {x x' : Value} (hx : VR ι x x') {τ' : VH} (h : stC T t b o x τ = some τ') :
    ∀ K : SHeap → Prop, (∀ σ', Ext ι τ ι τ' → HR T ι τ' σ' → K σ') → stW T t ⟨i.blk, o + i.sh, none⟩ x' σ K := by
  unfold stC at h
  split at h
  · rename_i inf e cells len room hT hb
    rw [fN_eq, lenL_eq, allS_eq] at h
    cases hc : (Nat.beq x.cells.toList.length inf.size && (x.cells.toList.all scal && Nat.ble (Nat.add o x.cells.toList.length) len)) with
    | false => rw [hc] at h; cases h
    | true =>
      rw [hc] at h; cases h
      rw [Bool.and_eq_true, Bool.and_eq_true] at hc
      have g1 := Nat.eq_of_beq_eq_true hc.1
      have g3 := Nat.le_of_ble_eq_true hc.2.2
      intro K hk
      obtain ⟨σ', h1, h2, h3⟩ := st_of hr hi hb hx.cells g3
      refine optW_of hT ⟨?_, ?_, optW_of h1 (hk σ' h2 h3)⟩
      · have := hx.cells.length
        simp only [Array.length_toList] at this g1
        rw [this, g1]
      · rw [← Array.all_toList, hx.cells.scal, hc.2.1]
  · cases h

end Go.Sep
