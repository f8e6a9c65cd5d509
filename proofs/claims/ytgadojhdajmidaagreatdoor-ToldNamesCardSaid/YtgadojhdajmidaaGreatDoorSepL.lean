/- More operations that make or write memory; all of them under one name. -/
import Derived.Test.YtgadojhdajmidaaGreatDoorSepK
set_option linter.unusedSimpArgs false
set_option linter.unusedVariables false
namespace Go.Sep

theorem range_zero (zero : Array Value) (n : Nat) (hz : 0 < zero.size) : ((Array.range (n * zero.size)).map (fun i => zero[i % zero.size]!)).toList = (List.replicate n zero.toList).flatten := by
  induction n with
  | zero => simp
  | succ n ih =>
    rw [List.replicate_succ', List.flatten_append, ← ih]
    simp only [List.flatten_cons, List.flatten_nil, List.append_nil]
    rw [Nat.succ_mul]
    apply List.ext_getElem?
    intro i
    simp only [Array.toList_map, Array.toList_range, List.getElem?_map, List.getElem?_append, List.length_map, List.length_range]
    by_cases h1 : i < n * zero.size
    · rw [if_pos h1]
      rw [List.getElem?_range (by omega), List.getElem?_range h1]
    · rw [if_neg h1]
      by_cases h2 : i < n * zero.size + zero.size
      · rw [List.getElem?_range h2]
        simp only [Option.map_some]
        have h3 : i % zero.size = i - n * zero.size := by
          have : i = (i - n * zero.size) + zero.size * n := by rw [Nat.mul_comm zero.size n]; omega
          conv => lhs; rw [this, Nat.add_mul_mod_self_left]
          exact Nat.mod_eq_of_lt (by omega)
        rw [h3, getElem!_pos zero _ (by omega)]
        simp only [Array.getElem?_toList]
        rw [Array.getElem?_eq_getElem (by omega)]
      · rw [List.getElem?_eq_none (by simp; omega)]
        simp only [Option.map_none, Array.getElem?_toList]
        rw [Array.getElem?_eq_none (by omega)]

/-- A slice of parts. -/
def bslW (T : Nat → Option TInf) (t len : Nat) (ps : List (Nat × Value)) (σ : SHeap) (K : Value → SHeap → Prop) : Prop :=
  optW (elemOfSl T t) fun e => optW (T e) fun i => bif Nat.ble (len * i.size) 16777216 && Nat.blt 0 i.size then
    prtW (List.replicate len i.zero) ps ((laySegs (List.replicate len i.zero) ps).flatten.all scal = true ∧
      ∀ b, σ b = none → K (.slice (some ⟨b, 0, none⟩) len len) (σ.set b (.own e 0 (laySegs (List.replicate len i.zero) ps).flatten 0))) else False

theorem bslW_ok {P : Program} {T : Nat → Option TInf} (hT : TOk P T) {t len : Nat} {ps : Array (Nat × Value)} {σ : SHeap} {K : Value → SHeap → Prop} (h : bslW T t len ps.toList σ K)
    {w : World} (hs : Sat w σ) : ∃ v w' σ', K v σ' ∧ (Instr.buildSlice t len ps).run P w = .ok v w' ∧ Sat w' σ' ∧ Fr σ σ' w w' := by
  obtain ⟨e, he, h⟩ := optW_some h
  obtain ⟨i, hi, h⟩ := optW_some h
  have hok := hT e i hi
  have hue := elemOfSl_some (P := P) hT he
  have hsz := run_sizeOf hok
  cases hb : (Nat.ble (len * i.size) 16777216 && Nat.blt 0 i.size) with
  | false => rw [hb] at h; exact h.elim
  | true =>
    rw [hb] at h
    simp only [Bool.and_eq_true] at hb
    have h1 : len * i.size ≤ 16777216 := Nat.le_of_ble_eq_true hb.1
    have h2 : 0 < i.size := Nat.le_of_ble_eq_true hb.2
    obtain ⟨⟨hsc, hk⟩, hp⟩ := prtW_ok h
    have hz : (List.replicate len i.zero).flatten.length = len * i.size := by simp [hok.zsize]
    have hcells : (((Array.range (len * i.size)).map (fun k => i.zval.cells[k % i.zval.cells.size]!)) : Array Value) = (List.replicate len i.zero).flatten.toArray := by
      apply Array.toList_inj.1
      have hzs : i.zval.cells.size = i.size := by rw [hok.zcell]; simp [hok.zsize]
      have := range_zero i.zval.cells len (by omega)
      rw [hzs] at this
      rw [hzs, this, hok.zcell]
    have hlen : ∀ x ∈ List.replicate len i.zero, x.length = i.size := fun x hx => by rw [(List.mem_replicate.1 hx).2, hok.zsize]
    have hoff : ∀ k, k ≤ len → offOf (List.replicate len i.zero) k = k * i.size := fun k hk => by
      unfold offOf
      rw [List.take_replicate, Nat.min_eq_left hk]; simp [hok.zsize]
    have hfill := fill_eq (fun k => some (k * i.size, i.size)) ps.toList (List.replicate len i.zero) (fun p hp' => by
      obtain ⟨q1, q2⟩ := hp p hp'
      simp only [List.length_replicate] at q1
      refine ⟨by simpa using q1, ?_, q2⟩
      have := q2 i.zero (by simp [q1])
      rw [hoff _ (by omega), this, hok.zsize])
    obtain ⟨w', hr, hf, g1, g2⟩ := run_newObj (P := P) hs (.cells (laySegs (List.replicate len i.zero) ps.toList).flatten.toArray e) (.own e 0 (laySegs (List.replicate len i.zero) ps.toList).flatten 0)
      (fun w' hw => sat_own_new _ 0 (by simp) (fun j v hv => by simpa using hv) (fun v hv => List.all_eq_true.1 hsc v hv) hw)
    refine ⟨_, w', _, hk _ hf, ?_, g1, g2⟩
    simp only [Instr.buildSlice, Sem.run_bind, hue, hsz, Result.andThen_ok]
    rw [if_neg (by omega)]
    by_cases h0 : len * i.size = 0
    · rw [if_pos h0]
      have hl0 : len = 0 := by rcases Nat.mul_eq_zero.1 h0 with h | h <;> omega
      subst hl0
      have hps : ps.toList = [] := by
        cases hl : ps.toList with
        | nil => rfl
        | cons p q => have := (hp p (by rw [hl]; simp)).1; simp at this
      simp only [List.replicate_zero, List.flatten_nil] at hfill
      simp only [Sem.run_bind, Sem.run_pure, Result.andThen_ok]
      rw [show (Array.range (0 * i.size)) = #[] by simp]
      simp only [Array.map_empty, hps, Instr.fill] at hr ⊢
      simp only [newRow, Sem.run_bind]
      simp only [laySegs, List.foldl_nil, List.replicate_zero, List.flatten_nil] at hr
      rw [hr]; rfl
    · rw [if_neg h0]
      simp only [Sem.run_bind, hok.zero, Result.andThen_ok, Sem.run_pure]
      rw [hcells, hfill]
      simp only [newRow, Sem.run_bind, hr, Result.andThen_ok, Sem.run_pure]

/-- A slice made. -/
def mkW (T : Nat → Option TInf) (t : Nat) (l c : Value) (σ : SHeap) (K : Value → SHeap → Prop) : Prop :=
  optW (elemOfSl T t) fun e => optW (T e) fun i => bif Nat.ble i.bytes 4096 && Nat.blt 0 i.size then
    asI l fun _ l => asI c fun _ c => 0 ≤ l ∧ l ≤ c ∧ c ≤ 4294967296 ∧
      ∀ b, σ b = none → K (.slice (some ⟨b, 0, none⟩) l.toNat c.toNat) (σ.set b (.own e 0 (List.replicate c.toNat i.zero).flatten 0)) else False

theorem mkW_ok {P : Program} {T : Nat → Option TInf} (hT : TOk P T) {t : Nat} {l c : Value} {σ : SHeap} {K : Value → SHeap → Prop} (h : mkW T t l c σ K)
    {w : World} (hs : Sat w σ) : ∃ v w' σ', K v σ' ∧ (Instr.makeSlice t l c).run P w = .ok v w' ∧ Sat w' σ' ∧ Fr σ σ' w w' := by
  obtain ⟨e, he, h⟩ := optW_some h
  obtain ⟨i, hi, h⟩ := optW_some h
  have hok := hT e i hi
  have hue := elemOfSl_some (P := P) hT he
  have hsz := run_sizeOf hok
  obtain ⟨ti, hti, _, htb⟩ := hok.info
  have hinfo := fun w => run_typeInfo hti w
  cases hb : (Nat.ble i.bytes 4096 && Nat.blt 0 i.size) with
  | false => rw [hb] at h; exact h.elim
  | true =>
    rw [hb] at h
    simp only [Bool.and_eq_true] at hb
    have h1 : i.bytes ≤ 4096 := Nat.le_of_ble_eq_true hb.1
    have h2 : 0 < i.size := Nat.le_of_ble_eq_true hb.2
    obtain ⟨kl, l, rfl, h⟩ := asI_elim h
    obtain ⟨kc, c, rfl, hl0, hlc, hc, hk⟩ := asI_elim h
    have hsc : ∀ v ∈ (List.replicate c.toNat i.zero).flatten, scal v = true := by
      intro v hv
      obtain ⟨x, hx, hvx⟩ := List.mem_flatten.1 hv
      rw [(List.mem_replicate.1 hx).2] at hvx
      exact hok.zscal v hvx
    have hcells : (((Array.range (c.toNat * i.size)).map (fun k => i.zval.cells[k % i.zval.cells.size]!)) : Array Value) = (List.replicate c.toNat i.zero).flatten.toArray := by
      apply Array.toList_inj.1
      have hzs : i.zval.cells.size = i.size := by rw [hok.zcell]; simp [hok.zsize]
      have := range_zero i.zval.cells c.toNat (by omega)
      rw [hzs] at this
      rw [hzs, this, hok.zcell]
    obtain ⟨w', hr, hf, g1, g2⟩ := run_newObj (P := P) hs (.cells (List.replicate c.toNat i.zero).flatten.toArray e) (.own e 0 (List.replicate c.toNat i.zero).flatten 0)
      (fun w' hw => sat_own_new _ 0 (by simp) (fun j v hv => by simpa using hv) hsc hw)
    refine ⟨_, w', _, hk _ hf, ?_, g1, g2⟩
    have wr : ∀ z : Int, 0 ≤ z → z ≤ 4294967296 → IntKind.i64.wrap z = z := fun z h3 h4 => IntWalk.i64_in _ (by omega)
    have htl : ∀ z : Int, 0 ≤ z → z ≤ 4294967296 → (decide (z < 0) || decide ((ti.bytes : Int) * z > 2 ^ 48)) = false := fun z h3 h4 => by
      have h5 : (ti.bytes : Int) * z ≤ 4096 * 4294967296 := Int.mul_le_mul (by omega) h4 h3 (by omega)
      simp only [Bool.or_eq_false_iff, decide_eq_false_iff_not]
      constructor
      · omega
      · have : (2 : Int) ^ 48 = 281474976710656 := by decide
        omega
    have hask : ∀ b w, (askRoom b).run P w = .ok () w := fun b w => by unfold askRoom; split <;> rfl
    simp only [Instr.makeSlice, asInt, asIntOf, Sem.run_bind, hue, hinfo, Sem.run_pure, Result.andThen_ok, wr l hl0 (by omega), wr c (by omega) hc, htl c (by omega) hc]
    rw [if_neg (by simp; omega)]
    simp only [hask, hsz, Result.andThen_ok, Sem.run_bind]
    by_cases h0 : c.toNat * i.size = 0
    · rw [if_pos h0]
      have hl0 : c.toNat = 0 := by rcases Nat.mul_eq_zero.1 h0 with h | h <;> omega
      rw [hl0] at hr ⊢
      simp only [Nat.zero_mul]
      rw [show (Array.range 0) = #[] by simp]
      simp only [Array.map_empty, newRow, Sem.run_bind]
      simp only [List.replicate_zero, List.flatten_nil] at hr
      simp only [Sem.run_pure, Result.andThen_ok]
      rw [hr]; rfl
    · rw [if_neg h0]
      simp only [Sem.run_bind, hok.zero, Result.andThen_ok, Sem.run_pure]
      rw [hcells]
      simp only [newRow, Sem.run_bind, hr, Result.andThen_ok, Sem.run_pure]

/-! ### Maps -/

def keyD : TD → Option TypeDesc
  | .int k => some (.int k)
  | .string => some .string
  | .bool => some .bool
  | _ => none

def mapOf (T : Nat → Option TInf) (t : Nat) : Option (Nat × Nat) := match T t with | some i => (match i.desc with | .map k e => some (k, e) | _ => none) | none => none

theorem mapOf_some {P : Program} {T : Nat → Option TInf} (hT : TOk P T) {t : Nat} {ke : Nat × Nat} (h : mapOf T t = some ke) :
    ∀ w, (underlying t).run P w = .ok (.map ke.1 ke.2) w := by
  unfold mapOf at h
  cases hi : T t with
  | none => simp [hi] at h
  | some i =>
    simp only [hi] at h
    cases hd : i.desc <;> rw [hd] at h <;> first | (cases h; done) | skip
    cases h
    obtain ⟨d, h1, h2⟩ := (hT t i hi).under
    rw [hd] at h2
    cases d <;> simp [TD.fits] at h2
    obtain ⟨rfl, rfl⟩ := h2
    exact fun w => run_underlying h1 w

theorem keyD_some {P : Program} {T : Nat → Option TInf} (hT : TOk P T) {k : Nat} {d : TD} {kd : TypeDesc} (h : descOf T k = some d) (hk : keyD d = some kd) :
    (∀ w, (underlying k).run P w = .ok kd w) ∧ ∀ n b v w, (Instr.checkKey b (n + 1) k v).run P w = .ok () w := by
  obtain ⟨td, f, hu⟩ := descOf_some (P := P) hT h
  cases d <;> simp [keyD] at hk <;> subst hk <;> cases td <;> simp [TD.fits] at f
  all_goals first | subst f | skip
  all_goals
    refine ⟨hu, fun n b v w => ?_⟩
    simp only [Instr.checkKey, Sem.run_bind, hu, Result.andThen_ok]
    cases v <;> rfl

/-- The entries of a map, and where a key is among them. -/
def mpW (T : Nat → Option TInf) (t : Nat) (m k : Value) (σ : SHeap) (K : (r : Nat) → Array MapEntry → Nat → (elem : Nat) → Option (Nat × Value) → Prop) : Prop :=
  optW (mapOf T t) fun ke => optW (descOf T ke.1) fun d => optW (keyD d) fun kd =>
    match m with
    | .map (some r) => match σ r with
      | some (.obj (.map es clk)) => optW (Instr.findNow kd k es.toList 0) fun f => K r es clk ke.2 f
      | _ => False
    | _ => False

theorem mpW_some {T : Nat → Option TInf} {t : Nat} {m k : Value} {σ : SHeap} {K : (r : Nat) → Array MapEntry → Nat → (elem : Nat) → Option (Nat × Value) → Prop} (h : mpW T t m k σ K) :
    ∃ ke d kd r es clk f, mapOf T t = some ke ∧ descOf T ke.1 = some d ∧ keyD d = some kd ∧ m = .map (some r) ∧ σ r = some (.obj (.map es clk)) ∧ Instr.findNow kd k es.toList 0 = some f ∧ K r es clk ke.2 f := by
  obtain ⟨ke, h1, h⟩ := optW_some h
  obtain ⟨d, h2, h⟩ := optW_some h
  obtain ⟨kd, h3, h⟩ := optW_some h
  split at h
  · split at h
    · obtain ⟨f, h4, hk⟩ := optW_some h
      exact ⟨ke, d, kd, _, _, _, f, h1, h2, h3, rfl, ‹_›, h4, hk⟩
    · exact h.elim
  · exact h.elim

/-- Looking a key up. -/
def lkW (T : Nat → Option TInf) (t : Nat) (m k : Value) (ok : Bool) (σ : SHeap) (K : Value → Prop) : Prop :=
  match m with
  | .map none => optW (mapOf T t) fun ke => optW (descOf T ke.1) fun d => optW (keyD d) fun _ => optW (T ke.2) fun i => K (bif ok then .tuple #[i.zval, .bool false] else i.zval)
  | _ => mpW T t m k σ fun _ _ _ e f =>
    match f with
    | some p => K (bif ok then .tuple #[p.2, .bool true] else p.2)
    | none => optW (T e) fun i => K (bif ok then .tuple #[i.zval, .bool false] else i.zval)

theorem lkW_ok {P : Program} {T : Nat → Option TInf} (hT : TOk P T) {t : Nat} {m k : Value} {ok : Bool} {σ : SHeap} {K : Value → Prop} (h : lkW T t m k ok σ K) :
    ∃ v, K v ∧ ∀ w, Sat w σ → (Instr.lookup t m k ok).run P w = .ok v w := by
  unfold lkW at h
  split at h
  · obtain ⟨ke, h1, h⟩ := optW_some h
    obtain ⟨d, h2, h⟩ := optW_some h
    obtain ⟨kd, h3, h⟩ := optW_some h
    obtain ⟨i, hi, hk⟩ := optW_some h
    obtain ⟨g1, g2⟩ := keyD_some (P := P) hT h2 h3
    refine ⟨_, hk, fun w hs => ?_⟩
    have hf : (Instr.findKey ke.1 k []).run P w = .ok none w := by
      simp only [Instr.findKey, Sem.run_bind, g1, Result.andThen_ok, Instr.findNow]; rfl
    simp only [Instr.lookup, Sem.run_bind, mapOf_some (P := P) hT h1, Result.andThen_ok, Sem.run_pure, g2, hf, (hT _ i hi).zero]
    cases ok <;> rfl
  · obtain ⟨ke, d, kd, r, es, clk, f, h1, h2, h3, rfl, hr, h4, h⟩ := mpW_some h
    obtain ⟨g1, g2⟩ := keyD_some (P := P) hT h2 h3
    have hf : ∀ w, (Instr.findKey ke.1 k es.toList).run P w = .ok f w := fun w => by
      simp only [Instr.findKey, Sem.run_bind, g1, Result.andThen_ok, h4]; rfl
    have hg : ∀ w, Sat w σ → (getObj r).run P w = .ok (.map es clk) w := fun w hs => by
      have hw : w.heap[r]? = some (.map es clk) := hs r _ hr
      simp [getObj, Sem.run, hw]
    cases f with
    | some p =>
      refine ⟨_, h, fun w hs => ?_⟩
      simp only [Instr.lookup, Sem.run_bind, mapOf_some (P := P) hT h1, Result.andThen_ok, Sem.run_pure, g2, hf, hg w hs]
      cases ok <;> rfl
    | none =>
      obtain ⟨i, hi, hk⟩ := optW_some h
      refine ⟨_, hk, fun w hs => ?_⟩
      simp only [Instr.lookup, Sem.run_bind, mapOf_some (P := P) hT h1, Result.andThen_ok, Sem.run_pure, g2, hf, hg w hs, (hT _ i hi).zero]
      cases ok <;> rfl

theorem run_setObj {P : Program} {σ : SHeap} {w : World} (hs : Sat w σ) {r : Nat} {o : Obj} (hr : σ r = some (.obj o)) (ho : ∀ c T fz, o ≠ .cells c T fz) (o' : Obj) :
    ∃ w', (setObj r o').run P w = .ok () w' ∧ Sat w' (σ.set r (.obj o')) ∧ Fr σ (σ.set r (.obj o')) w w' := by
  have hw : w.heap[r]? = some o := hs r _ hr
  have hlt := (Array.getElem?_eq_some_iff.1 hw).1
  refine ⟨{ w with heap := w.heap.setIfInBounds r o' }, ?_, ?_, ?_⟩
  · simp only [setObj, Sem.run, hw]
  · intro b' r' hb
    by_cases hbb : b' = r
    · subst hbb; rw [SHeap.set_same] at hb; cases hb
      show (w.heap.setIfInBounds b' o')[b']? = _
      simp [hlt]
    · rw [SHeap.set_ne _ _ hbb] at hb
      exact Row.sat_congr (w := w) (by simp [Array.getElem?_setIfInBounds_ne (Ne.symm hbb)]) (hs b' r' hb)
  · refine ⟨by simp, fun b' hlt hn => ?_, fun b' hn => ?_, rfl, rfl, rfl⟩
    · have hbb : b' ≠ r := fun e => by subst e; rw [hr] at hn; cases hn
      simp [Array.getElem?_setIfInBounds_ne (Ne.symm hbb)]
    · by_cases hbb : b' = r
      · subst hbb; left; rw [hr]; simp
      · rw [SHeap.set_ne _ _ hbb] at hn; exact .inl hn

/-- A key's value set. -/
def mapPut (es : Array MapEntry) (clk : Nat) (f : Option (Nat × Value)) (k v : Value) : Obj :=
  match f with
  | some p => .map (es.modify p.1 fun e => { e with key := k, val := v }) clk
  | none => .map (es.push { key := k, val := v, born := clk }) (clk + 1)

def upW (T : Nat → Option TInf) (t : Nat) (m k v : Value) (σ : SHeap) (K : SHeap → Prop) : Prop :=
  mpW T t m k σ fun r es clk _ f => K (σ.set r (.obj (mapPut es clk f k v)))

theorem findNow_key {kd : TypeDesc} {k : Value} : ∀ {es : List MapEntry} {i : Nat} {p : Nat × Value}, Instr.findNow kd k es i = some (some p) → i ≤ p.1 ∧ ∃ e, es[p.1 - i]? = some e ∧ e.val = p.2 ∧ Instr.sameNow kd k e.key = some true
  | [], _, _, h => by simp [Instr.findNow] at h
  | e :: es, i, p, h => by
    unfold Instr.findNow at h
    split at h
    · cases h; exact ⟨Nat.le_refl _, e, by simp, rfl, ‹_›⟩
    · obtain ⟨h1, e', h2, h3, h4⟩ := findNow_key h
      exact ⟨by omega, e', by rw [show p.1 - i = (p.1 - (i + 1)) + 1 by omega]; simpa using h2, h3, h4⟩
    · cases h

theorem ba_beq {a b : ByteArray} (h : (a == b) = true) : a = b := by
  cases a with
  | mk x =>
    cases b with
    | mk y =>
      have : (x == y) = true := h
      simp at this
      rw [this]

theorem ba_beq_self (a : ByteArray) : (a == a) = true := by
  cases a with
  | mk x =>
    show (x == x) = true
    simp

theorem sameNow_bits {kd : TypeDesc} {k k' : Value} (h : Instr.sameNow kd k k' = some true) (n : Nat) : Instr.sameBits (n + 1) k' k = true := by
  unfold Instr.sameNow at h
  split at h
  · split at h
    · rename_i he
      simp only [Option.some.injEq, beq_iff_eq] at h
      subst he h
      simp [Instr.sameBits]
    · cases h
  · simp only [Option.some.injEq] at h
    obtain rfl := ba_beq h
    simp [Instr.sameBits, ba_beq_self]
  · simp only [Option.some.injEq, beq_iff_eq] at h
    subst h; simp [Instr.sameBits]
  · cases h

theorem upW_ok {P : Program} {T : Nat → Option TInf} (hT : TOk P T) {t : Nat} {m k v : Value} {σ : SHeap} {K : SHeap → Prop} (h : upW T t m k v σ K)
    {w : World} (hs : Sat w σ) : ∃ w' σ', K σ' ∧ (Instr.mapUpdate t m k v).run P w = .ok () w' ∧ Sat w' σ' ∧ Fr σ σ' w w' := by
  obtain ⟨ke, d, kd, r, es, clk, f, h1, h2, h3, rfl, hr, h4, hk⟩ := mpW_some h
  obtain ⟨g1, g2⟩ := keyD_some (P := P) hT h2 h3
  have hf : ∀ w, (Instr.findKey ke.1 k es.toList).run P w = .ok f w := fun w => by
    simp only [Instr.findKey, Sem.run_bind, g1, Result.andThen_ok, h4]; rfl
  have hg : (getObj r).run P w = .ok (.map es clk) w := by
    have hw : w.heap[r]? = some (.map es clk) := hs r _ hr
    simp [getObj, Sem.run, hw]
  obtain ⟨w', hset, s1, s2⟩ := run_setObj (P := P) hs hr (by intro c T fz h; cases h) (mapPut es clk f k v)
  refine ⟨w', _, hk, ?_, s1, s2⟩
  cases f with
  | none =>
    simp only [Instr.mapUpdate, Sem.run_bind, mapOf_some (P := P) hT h1, Result.andThen_ok, g2, hf, hg]
    exact hset
  | some p =>
    obtain ⟨_, e, he, _, hsame⟩ := findNow_key h4
    simp only [Nat.sub_zero, Array.getElem?_toList] at he
    have hks : (Instr.keyThatStays e.key k).run P w = .ok k w := by
      unfold Instr.keyThatStays
      rw [show (10000 : Nat) = 9999 + 1 from rfl, sameNow_bits hsame]; rfl
    simp only [Instr.mapUpdate, Sem.run_bind, mapOf_some (P := P) hT h1, Result.andThen_ok, g2, hf, hg, he, Option.map_some, Option.getD_some, hks]
    exact hset

end Go.Sep
