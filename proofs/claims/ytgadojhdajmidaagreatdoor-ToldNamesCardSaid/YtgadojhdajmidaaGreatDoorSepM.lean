/- All operations that make or write memory, over an environment. -/
import Derived.Test.YtgadojhdajmidaaGreatDoorSepL
set_option linter.unusedSimpArgs false
set_option linter.unusedVariables false
namespace Go.Sep

def delO (es : Array MapEntry) (clk : Nat) (f : Option (Nat × Value)) : Obj :=
  match f with
  | some p => .map (es.eraseIdxIfInBounds p.1) clk
  | none => .map es clk

/-- Deleting a key. -/
def delW (T : Nat → Option TInf) (t : Nat) (m k : Value) (σ : SHeap) (K : SHeap → Prop) : Prop :=
  mpW T t m k σ fun r es clk _ f => K (σ.set r (.obj (delO es clk f)))

theorem delW_ok {P : Program} {T : Nat → Option TInf} (hT : TOk P T) {t t2 : Nat} {m k : Value} {σ : SHeap} {K : SHeap → Prop} (h : delW T t m k σ K)
    {w : World} (hs : Sat w σ) (xs : Array TypeId) (hx : xs[0]? = some t) : ∃ w' σ', K σ' ∧ (Builtin.delete_ xs t2 #[m, k]).run P w = .ok (.tuple #[]) w' ∧ Sat w' σ' ∧ Fr σ σ' w w' := by
  obtain ⟨ke, d, kd, r, es, clk, f, h1, h2, h3, rfl, hr, h4, hk⟩ := mpW_some h
  obtain ⟨g1, g2⟩ := keyD_some (P := P) hT h2 h3
  have hf : ∀ w, (Instr.findKey ke.1 k es.toList).run P w = .ok f w := fun w => by
    simp only [Instr.findKey, Sem.run_bind, g1, Result.andThen_ok, h4]; rfl
  have hg : (getObj r).run P w = .ok (.map es clk) w := by
    have hw : w.heap[r]? = some (.map es clk) := hs r _ hr
    simp [getObj, Sem.run, hw]
  obtain ⟨w', hset, s1, s2⟩ := run_setObj (P := P) hs hr (by intro c T fz h; cases h) (delO es clk f)
  refine ⟨w', _, hk, ?_, s1, s2⟩
  cases f with
  | none =>
    simp only [Builtin.delete_, hx, List.getElem?_toArray, List.getElem?_cons_zero, List.getElem?_cons_succ, Sem.run_bind, mapOf_some (P := P) hT h1, Result.andThen_ok, g2, hf, hg]
    simp only [delO] at hset
    rw [hset]; rfl
  | some p =>
    simp only [Builtin.delete_, hx, List.getElem?_toArray, List.getElem?_cons_zero, List.getElem?_cons_succ, Sem.run_bind, mapOf_some (P := P) hT h1, Result.andThen_ok, g2, hf, hg]
    simp only [delO] at hset
    rw [hset]; rfl

/-- Copying. -/
def cpW (T : Nat → Option TInf) (t : Nat) (d s : Value) (σ : SHeap) (K : Value → SHeap → Prop) : Prop :=
  optW (elemOfSl T t) fun e => optW (sizeT T e) fun n => asSl d fun a dl _ => srcW σ s n fun m l =>
    (dl = 0 ∨ m = 0) ∧ K (.int .i64 0) σ ∨
    ∃ ad σ', a = some ad ∧ m ≤ dl ∧ σ.st ad l = some σ' ∧ K (.int .i64 m) σ'

theorem firstCells_zero {P : Program} {σ : SHeap} {w : World} {x : Value} {n : Nat} {K : Nat → List Value → Prop} (h : srcW σ x n K) : (Builtin.firstCells n 0 x).run P w = .ok #[] w := by
  unfold srcW at h
  split at h
  · rename_i a m c
    cases a with
    | none => rfl
    | some a => simp only [Builtin.firstCells, Nat.zero_mul]; rfl
  · simp only [Builtin.firstCells]
    show Result.ok _ w = _
    congr 1
    apply Array.toList_inj.1
    simp
  · exact h.elim

theorem cpW_ok {P : Program} {T : Nat → Option TInf} (hT : TOk P T) {t xt t2 : Nat} {d s : Value} {σ : SHeap} {K : Value → SHeap → Prop} (h : cpW T t d s σ K)
    {w : World} (hs : Sat w σ) : ∃ v w' σ', K v σ' ∧ (Builtin.copy_ #[t, xt] t2 #[d, s]).run P w = .ok v w' ∧ Sat w' σ' ∧ Fr σ σ' w w' := by
  obtain ⟨e, he, h⟩ := optW_some h
  obtain ⟨n, hn, h⟩ := optW_some h
  obtain ⟨a, dl, cap, rfl, h⟩ := asSl_elim h
  have hue := elemOfSl_some (P := P) hT he
  have hsz := sizeT_some (P := P) hT hn
  have h0 := h
  obtain ⟨m, l, h, hll, hrun⟩ := srcW_ok (P := P) h
  obtain ⟨r1, r2, r3⟩ := hrun w hs
  rcases h with ⟨hz, hk⟩ | ⟨ad, σ', rfl, hle, hst, hk⟩
  · refine ⟨_, w, σ, hk, ?_, hs, Fr.refl _ _⟩
    have hmin : Nat.min m dl = 0 := by rcases hz with rfl | rfl <;> simp
    simp only [Builtin.copy_, List.getElem?_toArray, List.getElem?_cons_zero, List.getElem?_cons_succ, Sem.run_bind, hue, hsz, Result.andThen_ok, r1, hmin, firstCells_zero (P := P) (w := w) h0]
    cases a <;> rfl
  · obtain ⟨w', hsto, s1, s2⟩ := run_storeCells (P := P) hs hst r3
    refine ⟨_, w', σ', hk, ?_, s1, s2⟩
    have hmin : Nat.min m dl = m := Nat.min_eq_left hle
    simp only [Builtin.copy_, List.getElem?_toArray, List.getElem?_cons_zero, List.getElem?_cons_succ, Sem.run_bind, hue, hsz, Result.andThen_ok, r1, hmin, r2, hsto]
    rfl

/-- The next character of a string. -/
def nxW (it : Value) (σ : SHeap) (K : Value → SHeap → Prop) : Prop :=
  asP it fun a => a.off = 0 ∧
    match σ a.block with
    | some (.obj (.stringIter s pos)) =>
      if pos < s.size then K (.tuple #[.bool true, .int .i64 pos, .int .i32 (Utf8.decode s pos).1]) (σ.set a.block (.obj (.stringIter s (pos + (Utf8.decode s pos).2))))
      else K (.tuple #[.bool false]) σ
    | _ => False

theorem nxW_ok {P : Program} {it : Value} {σ : SHeap} {K : Value → SHeap → Prop} (h : nxW it σ K) {w : World} (hs : Sat w σ) (t : Nat) :
    ∃ v w' σ', K v σ' ∧ (Instr.next it true t).run P w = .ok v w' ∧ Sat w' σ' ∧ Fr σ σ' w w' := by
  obtain ⟨a, rfl, h0, h1⟩ := asP_elim h
  clear h
  obtain ⟨r, o, sp⟩ := a
  simp only at h0 h1
  subst h0
  split at h1
  · rename_i s pos hr
    have hw : w.heap[r]? = some (.stringIter s pos) := hs r _ hr
    have hg : (getObj r).run P w = .ok (.stringIter s pos) w := by simp [getObj, Sem.run, hw]
    split at h1
    · rename_i hlt
      obtain ⟨w', hset, s1, s2⟩ := run_setObj (P := P) hs hr (by intro c T fz h; cases h) (.stringIter s (pos + (Utf8.decode s pos).2))
      refine ⟨_, w', _, h1, ?_, s1, s2⟩
      simp only [Instr.next, Sem.run_bind, hg, Result.andThen_ok]
      rw [if_pos hlt]
      simp only [Sem.run_bind, hset, Result.andThen_ok]
      rfl
    · rename_i hlt
      refine ⟨_, w, σ, h1, ?_, hs, Fr.refl _ _⟩
      simp only [Instr.next, Sem.run_bind, hg, Result.andThen_ok]
      rw [if_neg hlt]; rfl
  · exact h1.elim

def newObjW (o : Obj) (σ : SHeap) (K : Nat → SHeap → Prop) : Prop := ∀ b, σ b = none → K b (σ.set b (.obj o))

theorem newObjW_ok {P : Program} {o : Obj} {σ : SHeap} {K : Nat → SHeap → Prop} (h : newObjW o σ K) {w : World} (hs : Sat w σ) :
    ∃ b w' σ', K b σ' ∧ (newObj o).run P w = .ok b w' ∧ Sat w' σ' ∧ Fr σ σ' w w' := by
  obtain ⟨w', hr, hf, g1, g2⟩ := run_newObj (P := P) hs o (.obj o) (fun w' hw => hw)
  exact ⟨_, w', _, h _ hf, hr, g1, g2⟩

def apFit : TD → Bool
  | .string | .slice _ => true
  | _ => false

/-- Appending. -/
def apW (T : Nat → Option TInf) (t xt : Nat) (s x : Value) (σ : SHeap) (K : Value → SHeap → Prop) : Prop :=
  optW (elemOfSl T t) fun e => optW (T e) fun i => optW (descOf T xt) fun dx => bif Nat.ble i.bytes 4096 && apFit dx then
    asSl s fun a len cap => srcW σ x i.size fun m l => apX e i.size a len cap m l σ K else False

theorem apW_ok {P : Program} {T : Nat → Option TInf} (hT : TOk P T) {t xt t2 : Nat} {s x : Value} {σ : SHeap} {K : Value → SHeap → Prop} (h : apW T t xt s x σ K)
    {w : World} (hs : Sat w σ) : ∃ v w' σ', K v σ' ∧ (Builtin.append_ #[t, xt] t2 #[s, x]).run P w = .ok v w' ∧ Sat w' σ' ∧ Fr σ σ' w w' := by
  obtain ⟨e, he, h⟩ := optW_some h
  obtain ⟨i, hi, h⟩ := optW_some h
  obtain ⟨dx, hdx, h⟩ := optW_some h
  cases hb : (Nat.ble i.bytes 4096 && apFit dx) with
  | false => rw [hb] at h; exact h.elim
  | true =>
    rw [hb] at h
    simp only [Bool.and_eq_true] at hb
    obtain ⟨a, len, cap, rfl, h⟩ := asSl_elim h
    obtain ⟨m, l, h, hll, hrun⟩ := srcW_ok (P := P) h
    refine apX_ok (t := t) (xt := xt) (n := i.size) hT he (by unfold sizeT; rw [hi]) ⟨i, hi, rfl, Nat.le_of_ble_eq_true hb.1⟩ ?_ h hs hrun hll t2
    rw [hdx]
    cases dx <;> first | exact .inl rfl | exact .inr ⟨_, rfl⟩ | (simp [apFit] at hb)

/-- A string over bytes that are written no more. -/
def usW (T : Nat → Option TInf) (pt : Nat) (p n : Value) (σ : SHeap) (K : Value → SHeap → Prop) : Prop :=
  match p, n with
  | .pointer p, .int _ n => (n = 0 ∧ K (.string .empty) σ) ∨ (0 < n ∧ n ≤ 9223372036854775807 ∧ optW p fun a => optW (descOf T pt) fun d =>
    match d with
    | .ptr u => descOf T u = some (.int .u8) ∧ optW (σ a.block) fun r =>
      match r with
      | .own e _ _ _ => optW (T e) fun i => i.desc = .int .u8 ∧ i.size = 1 ∧ (0, u) ∈ i.lies ∧ optW (σ.ld a n.toNat) fun l => optW (toBytes l) fun r => K (.string ⟨r.toArray⟩) (σ.del a.block)
      | _ => False
    | _ => False)
  | _, _ => False

theorem rowAt_row {p : Program} {fits : TypeId → Bool} {e k count off n : Nat} {ki : IntKind} (he : p.underlying e = some (.int ki)) (hs : p.cellsOf e = 1) (hle : off + n ≤ count) :
    ∀ d, rowAt p fits d e 1 0 k = true → rowAt p fits d e count off n = true
  | 0, h => by simp [rowAt] at h
  | d + 1, h => by
    simp only [rowAt, hs, he, Nat.div_one, Nat.mod_one] at h ⊢
    simp only [Nat.one_ne_zero, if_false, Bool.and_false, Bool.or_false, Bool.and_eq_true, decide_eq_true_eq] at h ⊢
    exact ⟨⟨by simp, hle⟩, h.2⟩

theorem liesAt_row {p : Program} {e u k count off n : Nat} {ki kj : IntKind} (he : p.underlying e = some (.int ki)) (hu : p.underlying u = some (.int kj)) (hs : p.cellsOf e = 1) (hle : off + n ≤ count) :
    ∀ d, liesAt p d e 1 0 u k = true → liesAt p d e count off u n = true
  | 0, h => by simp [liesAt] at h
  | d + 1, h => by
    simp only [liesAt, hu, Bool.or_false] at h ⊢
    exact rowAt_row he hs hle _ h

theorem run_loadBytes {P : Program} {w : World} : ∀ (l : List Value) (r : List UInt8) (b o : Nat) (acc : ByteArray), toBytes l = some r → (∀ (j : Nat) (v : Value), l[j]? = some v → w.cell? ⟨b, o + j, none⟩ = some v) →
    (loadBytes ⟨b, o, none⟩ acc l.length).run P w = .ok ⟨(acc.data.toList ++ r).toArray⟩ w
  | [], r, b, o, acc, h, _ => by
    cases h
    simp only [loadBytes, List.length_nil, List.append_nil]
    rfl
  | v :: l, r, b, o, acc, h, hc => by
    unfold toBytes at h
    split at h
    · rename_i heq; cases heq
    · rename_i n l' heq
      cases heq
      cases hr : toBytes l with
      | none => rw [hr] at h; cases h
      | some r' =>
        rw [hr] at h
        simp only [Option.some.injEq] at h
        subst h
        have h0 : w.cell? ⟨b, o, none⟩ = some (.int .u8 n) := hc 0 _ rfl
        have hld : (load (⟨b, o, none⟩ : Addr)).run P w = .ok (.int .u8 n) w := by simp [load, Sem.run, h0]
        have ha : (⟨b, o, none⟩ : Addr).add 1 = ⟨b, o + 1, none⟩ := rfl
        simp only [loadBytes, List.length_cons, Sem.run_bind, hld, Result.andThen_ok, ha]
        rw [run_loadBytes l r' b (o + 1) _ hr (fun j v hv => by rw [show o + 1 + j = o + (j + 1) by omega]; exact hc (j + 1) v (by simpa using hv))]
        congr 2
        simp [Nat.toUInt8]
    · cases h

theorem heap_freeze_ne (w : World) (a : Addr) (n : Nat) {b : Nat} (h : b ≠ a.block) : (w.freeze a n).heap[b]? = w.heap[b]? := by
  unfold World.freeze
  split
  · rfl
  · simp [Array.getElem?_modify, Ne.symm h]

theorem freeze_size (w : World) (a : Addr) (n : Nat) : (w.freeze a n).heap.size = w.heap.size ∧ (w.freeze a n).tape = w.tape ∧ (w.freeze a n).os = w.os ∧ (w.freeze a n).output = w.output := by
  unfold World.freeze
  split
  · exact ⟨rfl, rfl, rfl, rfl⟩
  · exact ⟨by simp, rfl, rfl, rfl⟩

theorem usW_ok {P : Program} {T : Nat → Option TInf} (hT : TOk P T) {pt t2 : Nat} {p n : Value} {ats : Array TypeId} (hat : ats[0]? = some pt) {σ : SHeap} {K : Value → SHeap → Prop} (h : usW T pt p n σ K)
    {w : World} (hs : Sat w σ) : ∃ v w' σ', K v σ' ∧ (Builtin.unsafeString_ ats t2 #[p, n]).run P w = .ok v w' ∧ Sat w' σ' ∧ Fr σ σ' w w' := by
  unfold usW at h
  split at h
  · rename_i p k n
    rw [show Builtin.unsafeString_ ats t2 #[.pointer p, .int k n] = (asInt (.int k n) >>= _) from rfl]
    rcases h with ⟨rfl, hk⟩ | ⟨h0, h1, h⟩
    · refine ⟨_, w, σ, hk, ?_, hs, Fr.refl _ _⟩
      have hai : (asInt (.int k 0)).run P w = .ok 0 w := rfl
      cases p with
      | none =>
        simp only [Sem.run_bind, hai, Result.andThen_ok, hat]
        rfl
      | some a =>
        simp only [Sem.run_bind, hai, Result.andThen_ok, hat]
        rfl
    · obtain ⟨a, rfl, g1⟩ := optW_some h
      obtain ⟨d, hd, h2⟩ := optW_some g1
      obtain ⟨u, rfl⟩ : ∃ u, d = .ptr u := by cases d <;> first | exact h2.elim | exact ⟨_, rfl⟩
      obtain ⟨hu, h3⟩ := h2
      obtain ⟨r, hr, h4⟩ := optW_some h3
      obtain ⟨e, off, vs, room, rfl⟩ : ∃ e off vs room, r = .own e off vs room := by cases r <;> first | exact h4.elim | exact ⟨_, _, _, _, rfl⟩
      obtain ⟨i, hi, hid, his, hl, h5⟩ := optW_some h4
      obtain ⟨l, hld, h6⟩ := optW_some h5
      obtain ⟨bs, hby, hk⟩ := optW_some h6
      obtain ⟨b, o, sp⟩ := a
      have hsp : sp = none := SHeap.ld_spot hld
      subst hsp
      have hlen := SHeap.ld_len hld
      have hcells := SHeap.ld_cells hs hld
      have hadd : ∀ j, (⟨b, o, none⟩ : Addr).add j = ⟨b, o + j, none⟩ := fun j => by unfold Addr.add; split <;> simp_all
      obtain ⟨td, fd, hud⟩ := descOf_some (P := P) hT hd
      cases td <;> simp [TD.fits] at fd
      subst fd
      obtain ⟨_, c, fz, hb, hsz, _, _⟩ := hs b _ hr
      obtain ⟨de, hde, hfe⟩ := (hT e i hi).under
      rw [hid] at hfe
      cases de <;> simp [TD.fits] at hfe
      subst hfe
      obtain ⟨ti, q1, q2, _⟩ := (hT e i hi).info
      have hcell : P.cellsOf e = 1 := by simp [Program.cellsOf, q1, q2, his]
      obtain ⟨iu, hiu⟩ : ∃ iu, T u = some iu ∧ iu.desc = .int .u8 := by
        unfold descOf at hu
        cases hT2 : T u with
        | none => rw [hT2] at hu; cases hu
        | some iu => rw [hT2] at hu; exact ⟨iu, rfl, Option.some.inj hu⟩
      obtain ⟨du, hdu, hfu⟩ := (hT u iu hiu.1).under
      rw [hiu.2] at hfu
      cases du <;> simp [TD.fits] at hfu
      subst hfu
      have hin : o + n.toNat ≤ c.size := by
        have hpos : n.toNat - 1 < l.length := by omega
        have hc := hcells _ _ (List.getElem?_eq_getElem hpos)
        rw [hadd] at hc
        simp only [World.cell?, hb] at hc
        have hc2 : c[o + (n.toNat - 1)]? = some l[n.toNat - 1] := by simpa using hc
        have := (Array.getElem?_eq_some_iff.1 hc2).1
        omega
      have hvar : (variablesAt ⟨b, o, none⟩ u n.toNat).run P w = .ok true w := by
        have hli := liesAt_row (count := c.size) (off := o) (n := n.toNat) hde hdu hcell hin P.depth ((hT e i hi).lies _ hl)
        simp only [variablesAt, program, Sem.run_bind, run_shape hb, Sem.run, Result.andThen_ok, Sem.run_pure, hcell, Nat.div_one, hli]
      have hlb := run_loadBytes (P := P) (w := w) l bs b o .empty hby (fun j v hv => by
        have hc := hcells j v hv
        rwa [hadd] at hc)
      rw [hlen] at hlb
      have hel : (elemOf pt).run P w = .ok u w := by simp only [elemOf, Sem.run_bind, hud, Result.andThen_ok, Sem.run_pure]
      have hfr : (freeze (⟨b, o, none⟩ : Addr) n.toNat).run P w = .ok () (w.freeze ⟨b, o, none⟩ n.toNat) := rfl
      obtain ⟨f1, f2, f3, f4⟩ := freeze_size w ⟨b, o, none⟩ n.toNat
      refine ⟨_, w.freeze ⟨b, o, none⟩ n.toNat, _, hk, ?_, ?_, ?_⟩
      · have hai : (asInt (.int k n)).run P w = .ok n w := rfl
        have c1 : ¬ n < 0 := by omega
        have c2 : ¬ n > IntKind.i64.max := by simp [IntKind.max, IntKind.signed, IntKind.bits]; omega
        have c3 : ¬ n = 0 := by omega
        simp only [Sem.run_bind, hai, Result.andThen_ok, hat, if_neg c1, if_neg c2, if_neg c3, Sem.run_pure, hel, hvar, if_true, hlb, hfr]
        rfl
      · intro b' r' hb'
        by_cases hbb : b' = b
        · subst hbb; simp at hb'
        · rw [SHeap.del_ne _ hbb] at hb'
          exact Row.sat_congr (heap_freeze_ne w _ _ hbb) (hs b' r' hb')
      · refine ⟨by omega, fun b' _ hn => heap_freeze_ne w _ _ (fun e => by simp only at e; subst e; rw [hr] at hn; cases hn), fun b' hn => ?_, f2, f3, f4⟩
        by_cases hbb : b' = b
        · subst hbb; simp at hn
        · rw [SHeap.del_ne _ hbb] at hn; exact .inl hn
  · exact h.elim

/-- Operations that make or write memory, or read what others may write. -/
def efOp (T : Nat → Option TInf) (e : Env) (o : Op) (σ : SHeap) (K : Value → SHeap → Prop) : Prop :=
  match o with
  | .alloc t => optW (T t) fun i => newW t i.zval σ K
  | .box t x => optW (e.val x) fun v => newW t v σ K
  | .buildSlice t len ps => partsW e ps.toList fun ps => bslW T t len ps σ K
  | .store t a x => optW (e.val a) fun a => asP a fun a => optW (e.val x) fun x => stW T t a x σ fun σ => K (.tuple #[]) σ
  | .makeSlice t l c => optW (e.val l) fun l => optW (e.val c) fun c => mkW T t l c σ K
  | .makeMap t none => newObjW (.map #[] 0) σ fun b σ => K (.map (some b)) σ
  | .makeMap t (some x) => optW (mapOf T t) fun _ => optW (e.val x) fun x => asI x fun _ _ => newObjW (.map #[] 0) σ fun b σ => K (.map (some b)) σ
  | .lookup t m k ok => optW (e.val m) fun m => optW (e.val k) fun k => lkW T t m k ok σ fun v => K v σ
  | .mapUpdate t m k v | .insert t m k v => optW (e.val m) fun m => optW (e.val k) fun k => optW (e.val v) fun v => upW T t m k v σ fun σ => K (.tuple #[]) σ
  | .range t x => optW (descOf T t) fun d => match d with
    | .string => optW (e.val x) fun x => asS x fun s => newObjW (.stringIter s 0) σ fun b σ => K (.pointer (some ⟨b, 0, none⟩)) σ
    | _ => False
  | .next it true => optW (e.val it) fun it => nxW it σ K
  | .call { callee := .builtin b, args, argTypes } =>
    match b with
    | .append => valsW e args.toList fun vs => match vs, argTypes.toList with | [s, x], [t, xt] => apW T t xt s x σ K | _, _ => False
    | .copy => valsW e args.toList fun vs => match vs, argTypes.toList with | [d, s], [t, _] => cpW T t d s σ K | _, _ => False
    | .delete => valsW e args.toList fun vs => match vs, argTypes.toList with | [m, k], t :: _ => delW T t m k σ fun σ => K (.tuple #[]) σ | _, _ => False
    | .unsafeString => valsW e args.toList fun vs => match vs, argTypes.toList with | [p, n], t :: _ => usW T t p n σ K | _, _ => False
    | _ => stOp T e o σ fun v => K v σ
  | _ => stOp T e o σ fun v => K v σ

theorem efOp_ok {P : Program} {T : Nat → Option TInf} (hT : TOk P T) {e : Env} {a : Act} (he : EnvOk e a.tmps) {o : Oper} {σ : SHeap} {K : Value → SHeap → Prop} (h : efOp T e o.op σ K)
    {w : World} (hs : Sat w σ) :
    ∃ v w' σ' nx, K v σ' ∧ (execOp a.eval o).run P w = .ok nx w' ∧ (nx = .value v ∨ nx = .skip ∧ v = undef) ∧ Sat w' σ' ∧ Fr σ σ' w w' := by
  have fin : ∀ {s : Sem Value}, (∃ v w' σ', K v σ' ∧ s.run P w = .ok v w' ∧ Sat w' σ' ∧ Fr σ σ' w w') →
      ∃ v w' σ' nx, K v σ' ∧ ((do pure (.value (← s))) : Sem Next).run P w = .ok nx w' ∧ (nx = .value v ∨ nx = .skip ∧ v = undef) ∧ Sat w' σ' ∧ Fr σ σ' w w' := by
    rintro s ⟨v, w', σ', hk, hr, h1, h2⟩
    exact ⟨v, w', σ', _, hk, by simp only [Sem.run_bind, hr, Result.andThen_ok]; rfl, .inl rfl, h1, h2⟩
  have finU : ∀ {s : Sem Unit}, (∃ w' σ', K (.tuple #[]) σ' ∧ s.run P w = .ok () w' ∧ Sat w' σ' ∧ Fr σ σ' w w') →
      ∃ v w' σ' nx, K v σ' ∧ ((do s; pure .skip) : Sem Next).run P w = .ok nx w' ∧ (nx = .value v ∨ nx = .skip ∧ v = undef) ∧ Sat w' σ' ∧ Fr σ σ' w w' := by
    rintro s ⟨w', σ', hk, hr, h1, h2⟩
    exact ⟨_, w', σ', _, hk, by simp only [Sem.run_bind, hr, Result.andThen_ok]; rfl, .inr ⟨rfl, rfl⟩, h1, h2⟩
  have st : stOp T e o.op σ (fun v => K v σ) → ∃ v w' σ' nx, K v σ' ∧ (execOp a.eval o).run P w = .ok nx w' ∧ (nx = .value v ∨ nx = .skip ∧ v = undef) ∧ Sat w' σ' ∧ Fr σ σ' w w' := by
    intro h
    obtain ⟨v, hk, hr⟩ := stOp_ok (P := P) hT he h
    exact ⟨v, w, σ, _, hk, hr w hs, .inl rfl, hs, Fr.refl _ _⟩
  obtain ⟨dst, op, type, pos, after, guard⟩ := o
  simp only at h st
  unfold efOp at h
  split at h
  · obtain ⟨i, hi, h1⟩ := optW_some h
    obtain ⟨b, w', σ', hk, hr, h2, h3⟩ := newW_ok (P := P) h1 hs
    simp only [execOp]
    refine fin ⟨_, w', σ', hk, ?_, h2, h3⟩
    simp only [Instr.alloc, Sem.run_bind, (hT _ i hi).zero, Result.andThen_ok, hr]
    rfl
  · obtain ⟨v, hv, h1⟩ := optW_some h
    obtain ⟨b, w', σ', hk, hr, h2, h3⟩ := newW_ok (P := P) h1 hs
    simp only [execOp, Env.val_ok he hv]
    refine fin ⟨_, w', σ', hk, ?_, h2, h3⟩
    simp only [Instr.box, Sem.run_bind, Result.andThen_ok, hr]
    rfl
  · have h1 := partsW_ok he h
    simp only [execOp]
    exact fin (bslW_ok hT (by simpa using h1) hs)
  · obtain ⟨av, hav, h1⟩ := optW_some h
    obtain ⟨ad, rfl, h2⟩ := asP_elim h1
    obtain ⟨x, hx, h3⟩ := optW_some h2
    obtain ⟨σ', hk, hr⟩ := stW_ok (P := P) hT h3
    obtain ⟨w', hr, h4, h5⟩ := hr w hs
    simp only [execOp, Env.val_ok he hav, Env.val_ok he hx]
    exact finU ⟨w', σ', hk, by simp only [Instr.storeAt, Instr.sureAddr, Sem.run_bind, Sem.run_pure, Result.andThen_ok, hr], h4, h5⟩
  · obtain ⟨l, hl, h1⟩ := optW_some h
    obtain ⟨c, hc, h2⟩ := optW_some h1
    simp only [execOp, Env.val_ok he hl, Env.val_ok he hc]
    exact fin (mkW_ok hT h2 hs)
  · obtain ⟨b, w', σ', hk, hr, h4, h5⟩ := newObjW_ok (P := P) h hs
    simp only [execOp]
    exact fin ⟨_, w', σ', hk, by simp only [Instr.makeMap, Option.map_none, Sem.run_bind, hr, Result.andThen_ok]; rfl, h4, h5⟩
  · rename_i t x
    obtain ⟨ke, hke, h1⟩ := optW_some h
    obtain ⟨xv, hx, h2⟩ := optW_some h1
    obtain ⟨k, n, rfl, h3⟩ := asI_elim h2
    obtain ⟨b, w', σ', hk, hr, h4, h5⟩ := newObjW_ok (P := P) h3 hs
    simp only [execOp]
    refine fin ⟨_, w', σ', hk, ?_, h4, h5⟩
    simp only [Instr.makeMap, Option.map_some, Env.val_ok he hx, Sem.run_bind, mapOf_some (P := P) hT hke, asInt, asIntOf, Sem.run_pure, hr, Result.andThen_ok]
  · obtain ⟨m, hm, h1⟩ := optW_some h
    obtain ⟨k, hkv, h2⟩ := optW_some h1
    obtain ⟨v, hk, hr⟩ := lkW_ok (P := P) hT h2
    simp only [execOp, Env.val_ok he hm, Env.val_ok he hkv]
    exact fin ⟨v, w, σ, hk, hr w hs, hs, Fr.refl _ _⟩
  · obtain ⟨m, hm, h1⟩ := optW_some h
    obtain ⟨k, hkv, h2⟩ := optW_some h1
    obtain ⟨v, hv, h3⟩ := optW_some h2
    simp only [execOp, Env.val_ok he hm, Env.val_ok he hkv, Env.val_ok he hv]
    exact finU (upW_ok hT h3 hs)
  · obtain ⟨m, hm, h1⟩ := optW_some h
    obtain ⟨k, hkv, h2⟩ := optW_some h1
    obtain ⟨v, hv, h3⟩ := optW_some h2
    simp only [execOp, Env.val_ok he hm, Env.val_ok he hkv, Env.val_ok he hv]
    exact finU (upW_ok hT h3 hs)
  · obtain ⟨d, hd, h1⟩ := optW_some h
    obtain ⟨td, f, hu⟩ := descOf_some (P := P) hT hd
    split at h1
    · obtain ⟨xv, hx, h2⟩ := optW_some h1
      obtain ⟨s, rfl, h3⟩ := asS_elim h2
      obtain ⟨b, w', σ', hk, hr, h4, h5⟩ := newObjW_ok (P := P) h3 hs
      cases td <;> simp [TD.fits] at f
      simp only [execOp, Env.val_ok he hx]
      exact fin ⟨_, w', σ', hk, by simp only [Instr.range, Sem.run_bind, hu, Sem.run_pure, hr, Result.andThen_ok], h4, h5⟩
    · exact h1.elim
  · obtain ⟨it, hit, h1⟩ := optW_some h
    simp only [execOp, Env.val_ok he hit]
    exact fin (nxW_ok h1 hs _)
  · rename_i b args argTypes
    have ea : ∀ l, args.toList.map a.eval = l → args.map a.eval = l.toArray := fun l h => by apply Array.toList_inj.1; simpa using h
    have et : ∀ l, argTypes.toList = l → argTypes = l.toArray := fun l h => by apply Array.toList_inj.1; simpa using h
    split at h
    · have h1 := valsW_ok he h
      split at h1
      · rename_i s x t xt h3 h4
        obtain ⟨v, w', σ', hk, hr, h5, h6⟩ := apW_ok (P := P) (t2 := type) hT h1 hs
        refine ⟨v, w', σ', _, hk, ?_, .inl rfl, h5, h6⟩
        rw [et _ h4]
        simp only [execOp, resolve, Sem.run_bind, Sem.run_pure, Result.andThen_ok, invoke, builtin, ea _ h3, hr]
      · exact h1.elim
    · have h1 := valsW_ok he h
      split at h1
      · rename_i s x t xt h3 h4
        obtain ⟨v, w', σ', hk, hr, h5, h6⟩ := cpW_ok (P := P) (t2 := type) (xt := xt) hT h1 hs
        refine ⟨v, w', σ', _, hk, ?_, .inl rfl, h5, h6⟩
        rw [et _ h4]
        simp only [execOp, resolve, Sem.run_bind, Sem.run_pure, Result.andThen_ok, invoke, builtin, ea _ h3, hr]
      · exact h1.elim
    · have h1 := valsW_ok he h
      split at h1
      · rename_i m k t ts h3 h4
        obtain ⟨w', σ', hk, hr, h5, h6⟩ := delW_ok (P := P) (t2 := type) hT h1 hs argTypes (by rw [et _ h4]; simp)
        refine ⟨_, w', σ', _, hk, ?_, .inl rfl, h5, h6⟩
        simp only [execOp, resolve, Sem.run_bind, Sem.run_pure, Result.andThen_ok, invoke, builtin, ea _ h3, hr]
      · exact h1.elim
    · have h1 := valsW_ok he h
      split at h1
      · rename_i p n t ts h3 h4
        obtain ⟨v, w', σ', hk, hr, h5, h6⟩ := usW_ok (P := P) (t2 := type) (ats := argTypes) hT (by rw [et _ h4]; simp) h1 hs
        refine ⟨v, w', σ', _, hk, ?_, .inl rfl, h5, h6⟩
        simp only [execOp, resolve, Sem.run_bind, Sem.run_pure, Result.andThen_ok, invoke, builtin, ea _ h3, hr]
      · exact h1.elim
    · exact st h
  · exact st h

end Go.Sep
