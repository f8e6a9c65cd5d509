/- Conversions, lengths, assertions; all operations that change nothing under one name. -/
import Derived.Test.YtgadojhdajmidaaGreatDoorSepH
set_option linter.unusedSimpArgs false
set_option linter.unusedVariables false
namespace Go.Sep

def toBytes : List Value → Option (List UInt8)
  | [] => some []
  | .int .u8 n :: l => (match toBytes l with | some r => some (UInt8.ofNat n.toNat :: r) | none => none)
  | _ :: _ => none

def descOf (T : Nat → Option TInf) (t : Nat) : Option TD := match T t with | some i => some i.desc | none => none

theorem descOf_some {P : Program} {T : Nat → Option TInf} (hT : TOk P T) {t : Nat} {d : TD} (h : descOf T t = some d) :
    ∃ td, d.fits td = true ∧ ∀ w, (underlying t).run P w = .ok td w := by
  unfold descOf at h
  cases hi : T t with
  | none => simp [hi] at h
  | some i =>
    simp [hi] at h
    subst h
    obtain ⟨td, h1, h2⟩ := (hT t i hi).under
    exact ⟨td, h2, fun w => run_underlying h1 w⟩

/-- Conversions. -/
def cvW (T : Nat → Option TInf) (s t : Nat) (x : Value) (σ : SHeap) (K : Value → Prop) : Prop :=
  optW (descOf T s) fun ds => optW (descOf T t) fun dt =>
    match dt with
    | .int k => asI x fun _ n => K (.int k (k.wrap n))
    | .string =>
      match ds with
      | .string => asS x fun b => K (.string b)
      | .slice e => optW (descOf T e) fun de =>
        match de with
        | .int .u8 => asSl x fun a len _ => bif Nat.beq len 0 then K (.string .empty) else optW a fun a => optW (σ.ld a len) fun l => optW (toBytes l) fun b => K (.string ⟨b.toArray⟩)
        | _ => False
      | .int _ => asI x fun _ n => K (.string (Utf8.encode n))
      | _ => False
    | .uptr =>
      match ds with
      | .ptr e => asP x fun a => optW (sizeT T e) fun n => optW (σ a.block) fun r =>
        match r with
        | .own _ off vs _ => a.spot = none ∧ 0 < n ∧ off ≤ a.off ∧ a.off < off + vs.length ∧ K (.pointer (some a))
        | _ => False
      | _ => False
    | .ptr u =>
      match ds with
      | .uptr => asP x fun a => optW (sizeT T u) fun n => optW (σ a.block) fun r =>
        match r with
        | .own e off vs _ => optW (T e) fun i => a.spot = none ∧ 0 < n ∧ 0 < i.size ∧ off = 0 ∧ i.size ≤ vs.length ∧ (a.off, u) ∈ i.lies ∧ K (.pointer (some a))
        | _ => False
      | _ => False
    | _ => False

theorem rowAt_more {p : Program} {fits : TypeId → Bool} {d e count off n : Nat} (hc : 1 ≤ count) (h : rowAt p fits d e 1 off n = true) : rowAt p fits d e count off n = true := by
  cases d with
  | zero => simp [rowAt] at h
  | succ d =>
    unfold rowAt at h ⊢
    by_cases hs : p.cellsOf e = 0
    · simp [hs] at h
    · simp only [hs, if_false] at h ⊢
      rw [Bool.or_eq_true] at h ⊢
      rcases h with h | h
      · left
        simp only [Bool.and_eq_true, decide_eq_true_eq] at h ⊢
        exact ⟨⟨h.1.1, by omega⟩, h.2⟩
      · right
        rw [Bool.and_eq_true] at h ⊢
        refine ⟨?_, h.2⟩
        have := h.1
        simp only [decide_eq_true_eq] at this ⊢
        omega

theorem liesAt_more {p : Program} : ∀ {d e count off u n : Nat}, 1 ≤ count → liesAt p d e 1 off u n = true → liesAt p d e count off u n = true := by
  intro d
  induction d with
  | zero => intro e count off u n _ h; simp [liesAt] at h
  | succ d ih =>
    intro e count off u n hc h
    unfold liesAt at h ⊢
    rw [Bool.or_eq_true] at h ⊢
    rcases h with h | h
    · exact .inl (rowAt_more hc h)
    · right
      split at h
      · exact ih hc h
      · cases h

theorem run_shape {P : Program} {w : World} {b : Nat} {c : Array Value} {T : TypeId} {fz : Nat × Nat} (h : w.heap[b]? = some (.cells c T fz)) : (shape b).run P w = .ok (some (T, c.size)) w := by
  simp [shape, Sem.run, World.shape?, h]

theorem run_seenAt {P : Program} {w : World} {a : Addr} {c : Array Value} {T : TypeId} {fz : Nat × Nat} (h : w.heap[a.block]? = some (.cells c T fz)) : (Conv.seenAt a).run P w = .ok a w := by
  have hv : (viewAt a.block).run P w = .ok none w := by
    simp only [viewAt, Sem.run_bind, run_shape h, Result.andThen_ok]
    rfl
  simp only [Conv.seenAt, Sem.run_bind, hv, Result.andThen_ok, Sem.run_pure]

theorem bytes_push (P : Program) (w : World) (f : Value → ByteArray → Sem (ForInStep ByteArray)) (hf : ∀ n s, (f (.int .u8 n) s).run P w = .ok (.yield (s.push (UInt8.ofNat n.toNat))) w) :
    ∀ (l : List Value) (r : List UInt8) (s : ByteArray), toBytes l = some r → (forIn l s f).run P w = .ok ⟨(s.data.toList ++ r).toArray⟩ w := by
  intro l
  induction l with
  | nil =>
    intro r s h
    simp [toBytes] at h; subst h
    simp
  | cons v l ih =>
    intro r s h
    unfold toBytes at h
    split at h
    · rename_i heq; cases heq
    · rename_i n l' heq
      cases heq
      cases hr : toBytes l with
      | none => rw [hr] at h; cases h
      | some r' =>
        rw [hr] at h
        simp only [Option.some.injEq] at h
        subst h
        rw [List.forIn_cons]
        simp only [Sem.run_bind, hf, Result.andThen_ok]
        rw [ih r' _ hr]
        congr 2
        simp
    · cases h

theorem cvW_ok {P : Program} {T : Nat → Option TInf} (hT : TOk P T) {s t : Nat} {x : Value} {σ : SHeap} {K : Value → Prop} (h : cvW T s t x σ K) :
    ∃ v, K v ∧ ∀ w, Sat w σ → (convert s t x).run P w = .ok v w := by
  obtain ⟨ds, hds, h⟩ := optW_some h
  obtain ⟨dt, hdt, h⟩ := optW_some h
  obtain ⟨ts, fs, hus⟩ := descOf_some (P := P) hT hds
  obtain ⟨tt, ft, hut⟩ := descOf_some (P := P) hT hdt
  cases dt <;> first | exact h.elim | skip
  · rename_i k
    cases tt <;> simp [TD.fits] at ft
    subst ft
    obtain ⟨k', n, rfl, hk⟩ := asI_elim h
    refine ⟨_, hk, fun w _ => ?_⟩
    simp only [convert, Sem.run_bind, hus, hut, Result.andThen_ok]
    cases ts <;> rfl
  · cases tt <;> simp [TD.fits] at ft
    cases ds <;> first | exact h.elim | skip
    · obtain ⟨k', n, rfl, hk⟩ := asI_elim h
      refine ⟨_, hk, fun w _ => ?_⟩
      simp only [convert, Sem.run_bind, hus, hut, Result.andThen_ok]
      cases ts <;> rfl
    · obtain ⟨b, rfl, hk⟩ := asS_elim h
      refine ⟨_, hk, fun w _ => ?_⟩
      simp only [convert, Sem.run_bind, hus, hut, Result.andThen_ok]
      cases ts <;> rfl
    · rename_i e
      obtain ⟨de, hde, h⟩ := optW_some h
      obtain ⟨te, fe, hue⟩ := descOf_some (P := P) hT hde
      cases ts <;> simp [TD.fits] at fs
      subst fs
      split at h
      · cases te <;> simp [TD.fits] at fe
        subst fe
        obtain ⟨a, len, cap, rfl, h2⟩ := asSl_elim h
        cases hz : Nat.beq len 0 with
        | true =>
          rw [hz] at h2
          obtain rfl := Nat.eq_of_beq_eq_true hz
          refine ⟨_, h2, fun w _ => ?_⟩
          simp only [convert, Sem.run_bind, hus, hut, hue, Result.andThen_ok, Conv.bytesToString]
          cases a with
          | none => rfl
          | some a =>
            have : (loadCells a 0).run P w = .ok #[] w := rfl
            simp only [Sem.run_bind, this, Result.andThen_ok]
            simp
        | false =>
          rw [hz] at h2
          obtain ⟨a, rfl, h3⟩ := optW_some h2
          obtain ⟨l, hl, h4⟩ := optW_some h3
          obtain ⟨b, hb, hk⟩ := optW_some h4
          refine ⟨_, hk, fun w hs => ?_⟩
          simp only [convert, Sem.run_bind, hus, hut, hue, Result.andThen_ok, Conv.bytesToString, run_loadCells hs hl]
          rw [List.forIn_toArray, bytes_push P w _ (fun n s => rfl) l b .empty hb]
          rfl
      · exact h.elim
  · rename_i u
    cases tt <;> simp [TD.fits] at ft
    subst ft
    cases ds <;> first | exact h.elim | skip
    cases ts <;> simp [TD.fits] at fs
    obtain ⟨a, rfl, h2⟩ := asP_elim h
    obtain ⟨n, hn, h3⟩ := optW_some h2
    obtain ⟨r, hr, h4⟩ := optW_some h3
    split at h4
    · rename_i e off vs room
      obtain ⟨i, hi, hsp, hn0, hi0, rfl, hlen, hl, hk⟩ := optW_some h4
      refine ⟨_, hk, fun w hs => ?_⟩
      obtain ⟨_, c, fz, hw, hsz, _, _⟩ := hs a.block _ hr
      obtain ⟨ti, q1, q2, _⟩ := (hT e i hi).info
      have hcell : P.cellsOf e = i.size := by simp [Program.cellsOf, q1, q2]
      have hcount : 1 ≤ c.size / P.cellsOf e := by
        rw [hcell]; exact (Nat.one_le_div_iff hi0).2 (by omega)
      have hlies := liesAt_more hcount ((hT e i hi).lies _ hl)
      have hvar : (variablesAt a u 1).run P w = .ok true w := by
        simp only [variablesAt, program, Sem.run_bind, run_shape hw, Sem.run, Result.andThen_ok, Sem.run_pure, hlies]
      simp only [convert, Conv.unsafePointer, Sem.run_bind, hus, hut, Result.andThen_ok, run_seenAt hw, sizeT_some (P := P) hT hn, hvar, Sem.run_pure]
      simp
    · exact h4.elim
  · cases tt <;> simp [TD.fits] at ft
    cases ds <;> first | exact h.elim | skip
    rename_i e
    cases ts <;> simp [TD.fits] at fs
    subst fs
    obtain ⟨a, rfl, h2⟩ := asP_elim h
    obtain ⟨n, hn, h3⟩ := optW_some h2
    obtain ⟨r, hr, h4⟩ := optW_some h3
    split at h4
    · rename_i e2 off vs room
      obtain ⟨hsp, hn0, hlo, hhi, hk⟩ := h4
      refine ⟨_, hk, fun w hs => ?_⟩
      obtain ⟨_, c, fz, hw, hsz, _, _⟩ := hs a.block _ hr
      have hin : (cellsIn a.block).run P w = .ok (some c.size) w := by
        simp only [cellsIn, Sem.run_bind, run_shape hw, Result.andThen_ok]
        rfl
      have hlt : ¬ c.size ≤ a.off := by omega
      have hn1 : ¬ n = 0 := by omega
      simp only [convert, Conv.unsafePointer, Sem.run_bind, hus, hut, Result.andThen_ok, run_seenAt hw, hin, sizeT_some (P := P) hT hn, Sem.run_pure]
      simp [hlt, hn1, hsp]
    · exact h4.elim

/-- Lengths. -/
def lenW (T : Nat → Option TInf) (t : Nat) (x : Value) (σ : SHeap) (K : Value → Prop) : Prop :=
  optW (descOf T t) fun d =>
    match d with
    | .string => asS x fun s => K (.int .i64 s.size)
    | .slice _ => asSl x fun _ n _ => K (.int .i64 n)
    | .map .. => match x with
      | .map none => K (.int .i64 0)
      | .map (some r) => match σ r with
        | some (.obj (.map es _)) => K (.int .i64 es.size)
        | _ => False
      | _ => False
    | _ => False

theorem lenW_ok {P : Program} {T : Nat → Option TInf} (hT : TOk P T) {t : Nat} {x : Value} {σ : SHeap} {K : Value → Prop} (h : lenW T t x σ K) (t2 : Nat) :
    ∃ v, K v ∧ ∀ w, Sat w σ → (Builtin.len_ #[t] t2 #[x]).run P w = .ok v w := by
  obtain ⟨d, hd, h⟩ := optW_some h
  obtain ⟨td, f, hu⟩ := descOf_some (P := P) hT hd
  cases d <;> first | exact h.elim | skip
  · cases td <;> simp [TD.fits] at f
    obtain ⟨s, rfl, hk⟩ := asS_elim h
    exact ⟨_, hk, fun w _ => by simp [Builtin.len_, hu, goInt]⟩
  · cases td <;> simp [TD.fits] at f
    obtain ⟨a, n, c, rfl, hk⟩ := asSl_elim h
    exact ⟨_, hk, fun w _ => by simp [Builtin.len_, hu, goInt]⟩
  · cases td <;> simp [TD.fits] at f
    cases x with
    | map r =>
      cases r with
      | none => exact ⟨_, h, fun w _ => by simp [Builtin.len_, hu, goInt]⟩
      | some r =>
        dsimp only at h
        split at h
        · rename_i es clk hr
          refine ⟨_, h, fun w hs => ?_⟩
          have hw : w.heap[r]? = some (.map es clk) := hs r _ hr
          simp [Builtin.len_, hu, goInt, getObj, Sem.run, hw]
        · exact h.elim
    | _ => exact h.elim

/-- Assertions of a type. -/
def tasX (x : Value) (asserted : Nat) (z : Value) (K : Value → Prop) : Prop :=
  match x with
  | .nilIface => K (.tuple #[z, .bool false])
  | .iface t v => bif Nat.beq t asserted then K (.tuple #[v, .bool true]) else K (.tuple #[z, .bool false])
  | _ => False

def tasW (T : Nat → Option TInf) (x : Value) (asserted : Nat) (K : Value → Prop) : Prop :=
  optW (T asserted) fun i =>
    match i.desc with
    | .iface _ => False
    | _ => tasX x asserted i.zval K

theorem tasW_ok {P : Program} {T : Nat → Option TInf} (hT : TOk P T) {x : Value} {t : Nat} {K : Value → Prop} (h : tasW T x t K) (xt : Nat) :
    ∃ v, K v ∧ ∀ w, (Instr.typeAssert x xt t true).run P w = .ok v w := by
  obtain ⟨i, hi, h⟩ := optW_some h
  have hok := hT t i hi
  obtain ⟨d, h1, h2⟩ := hok.under
  have hu := fun w => run_underlying h1 w
  have hni : ∀ b, i.desc ≠ .iface b := by
    intro b hb; rw [hb] at h; exact h
  have hd : ∀ ms, d ≠ .interface ms := by
    intro ms hms
    rw [hms] at h2
    cases hd : i.desc <;> rw [hd] at h2 <;> first | (simp [TD.fits] at h2; done) | exact hni _ hd
  have h' : tasX x t i.zval K := by
    cases hd : i.desc <;> rw [hd] at h <;> first | exact h | exact absurd hd (hni _)
  cases x with
  | nilIface =>
    refine ⟨_, h', fun w => ?_⟩
    simp only [Instr.typeAssert, Sem.run_bind, hu, Result.andThen_ok]
    cases d <;> first | exact absurd rfl (hd _) | (simp only [Sem.run_bind, hok.zero, Result.andThen_ok, if_true]; rfl)
  | iface t' v =>
    simp only [tasX] at h'
    cases hb : Nat.beq t' t with
    | true =>
      rw [hb] at h'
      obtain rfl := Nat.eq_of_beq_eq_true hb
      refine ⟨_, h', fun w => ?_⟩
      simp only [Instr.typeAssert, Sem.run_bind, hu, Result.andThen_ok]
      cases d <;> first | exact absurd rfl (hd _) | (simp only [if_true]; rfl)
    | false =>
      rw [hb] at h'
      have hne : t' ≠ t := fun e => by subst e; simp at hb
      refine ⟨_, h', fun w => ?_⟩
      simp only [Instr.typeAssert, Sem.run_bind, hu, Result.andThen_ok]
      cases d <;> first | exact absurd rfl (hd _) | (simp only [hne, if_false, Sem.run_bind, hok.zero, Result.andThen_ok, if_true]; rfl)
  | _ => exact h'.elim

/-- Least and greatest. -/
def minmaxW (mx : Bool) : List Value → (Value → Prop) → Prop
  | [.int k a, .int _ b], K => K (.int k (bif mx then (if b > a then b else a) else (if b < a then b else a)))
  | _, _ => False

end Go.Sep
