/- Regions that draw their order: the whole region. -/
import Derived.Test.YtdheehhnpjkdbaaDoorFwN2
set_option linter.unusedVariables false
set_option linter.unusedSimpArgs false
namespace Go.PR
open Go

/-! ### operations that may be exchanged -/
theorem keepEnv_get (ts : List Nat) : ∀ (i : Nat) (ds : List D) (j : Nat), (keepEnv ts i ds)[j]? = (ds[j]?).map fun d => if ts.contains (i + j) then d else .any
  | i, [], j => by simp [keepEnv]
  | i, d :: ds, 0 => by simp [keepEnv]
  | i, d :: ds, j + 1 => by
    simp only [keepEnv, List.getElem?_cons_succ, keepEnv_get ts (i + 1) ds j]
    rw [Nat.add_right_comm, Nat.add_assoc]

theorem keepEnv_set {ts : List Nat} {ds : List D} {t : Nat} (d : D) (h : t ∉ ts) : keepEnv ts 0 (ds.set t d) = keepEnv ts 0 ds := by
  apply List.ext_getElem?
  intro j
  rw [keepEnv_get, keepEnv_get, List.getElem?_set]
  by_cases e : t = j
  · subst e
    have : ts.contains (0 + t) = false := by simpa using h
    rw [this]
    by_cases hl : t < ds.length
    · simp [hl]
    · simp [hl]
  · simp [e]

def envD (dst : Option Tmp) (d : D) (env : List D) : List D := match dst with | some t => env.set t d | none => env

theorem setD_eq (st : St) (dst : Option Tmp) (d : D) : st.setD dst d = ⟨envD dst d st.env, st.rows⟩ := by cases dst <;> rfl

theorem keepEnv_envD {ts : List Nat} {env : List D} {dst : Option Tmp} (d : D) (h : ∀ t, dst = some t → t ∉ ts) : keepEnv ts 0 (envD dst d env) = keepEnv ts 0 env := by
  cases dst with
  | none => rfl
  | some t => exact keepEnv_set d (h t rfl)

theorem envD_comm {x y : Option Tmp} (h : ∀ t, x = some t → y ≠ some t) (d e : D) (env : List D) : envD x d (envD y e env) = envD y e (envD x d env) := by
  cases x with
  | none => rfl
  | some t => cases y with
    | none => rfl
    | some u =>
      have : t ≠ u := fun e' => h t rfl (e' ▸ rfl)
      simp only [envD]
      exact List.set_comm _ _ (Ne.symm this)

/-- How an operation turns the rows. -/
inductive Rch where
  | keep | add (f : Nat → Option Row) | to (g : Nat → Option Row)

def Rch.ap (dst : Option Tmp) (rows : Nat → Option Row) : Rch → Nat → Option Row
  | .keep => rows
  | .add f => addRows dst f rows
  | .to g => g

section
variable {X : Ctx} {cl : FuncId → List D → List Row → Option Ret} {ops : Array Oper} {clo : List Nat}

/-- The rows that an operation sees. -/
def seen (ops : Array Oper) (clo : List Nat) (k : Nat) (o : Oper) (rows : Nat → Option Row) : Nat → Option Row :=
  match cls o.op with
  | .pure => fun _ => none
  | .read => mask (maskP clo k ops.toList 0) rows
  | .new => mask (maskP clo k ops.toList 0) rows
  | .write => rows
  | .no => rows

/-- What an operation does: a value, and how the rows turn. -/
def effD (X : Ctx) (cl : FuncId → List D → List Row → Option Ret) (ops : Array Oper) (o : Oper) (e : List D) (R : Nat → Option Row) : Option (D × Rch) :=
  match wanted ops ⟨e, fun _ => none⟩ o with
  | .no => some (.und, .keep)
  | .unknown => none
  | .yes => match cls o.op with
    | .pure => (quietA X ⟨e, R⟩ o).map fun d => (d, .keep)
    | .read => (quietA X ⟨e, R⟩ o).map fun d => (d, .keep)
    | .new => (newD X cl ⟨e, R⟩ o).map fun p => (p.1, .add p.2)
    | .write => (writeD X ⟨e, fun _ => none⟩ R o).map fun p => (p.1, .to p.2)
    | .no => none

theorem stepD_eff (k : Nat) (o : Oper) (st : St) : stepD X cl ops clo k o st = (effD X cl ops o (keepEnv (o.looksAt ops) 0 st.env) (seen ops clo k o st.rows)).map fun p => ⟨envD o.dst p.1 st.env, p.2.ap o.dst st.rows⟩ := by
  unfold stepD effD seen
  dsimp only
  generalize keepEnv (o.looksAt ops) 0 st.env = e
  cases wanted ops ⟨e, fun _ => none⟩ o with
  | no => simp [setD_eq, Rch.ap]
  | unknown => rfl
  | yes =>
    dsimp only
    cases cls o.op with
    | pure => dsimp only; cases quietA X ⟨e, fun _ => none⟩ o <;> simp [setD_eq, Rch.ap]
    | read => dsimp only; cases quietA X ⟨e, mask (maskP clo k ops.toList 0) st.rows⟩ o <;> simp [setD_eq, Rch.ap]
    | new => dsimp only; cases newD X cl ⟨e, mask (maskP clo k ops.toList 0) st.rows⟩ o <;> simp [setD_eq, Rch.ap]
    | write => dsimp only; cases writeD X ⟨e, fun _ => none⟩ st.rows o <;> simp [setD_eq, Rch.ap]
    | no => rfl

theorem addRows_mask {dst : Option Tmp} {add rows : Nat → Option Row} {p : Nat → Bool} (h : ∀ r, nset dst r = true → p r = true) : mask p (addRows dst add rows) = mask p rows := by
  funext i
  unfold mask addRows
  cases e : p i with
  | true => rfl
  | false =>
    have : nset dst i = false := by
      cases e2 : nset dst i with
      | false => rfl
      | true => rw [h i e2] at e; cases e
    simp [this]

theorem addRows_comm {x y : Option Tmp} (hd : ∀ r, nset x r = true → nset y r = true → False) (f g rows : Nat → Option Row) : addRows x f (addRows y g rows) = addRows y g (addRows x f rows) := by
  funext i
  unfold addRows
  cases e : nset x i with
  | false => simp
  | true =>
    cases e2 : nset y i with
    | false => simp
    | true => exact (hd i e e2).elim

theorem effD_keep {o : Oper} {e : List D} {R : Nat → Option Row} {p : D × Rch} (hc : cls o.op = .pure ∨ cls o.op = .read) (h : effD X cl ops o e R = some p) : p.2 = .keep := by
  unfold effD at h
  split at h
  · cases h; rfl
  · cases h
  · rcases hc with hc | hc <;> (rw [hc] at h; simp only at h; obtain ⟨d, h1, rfl⟩ := Option.map_eq_some_iff.1 h; rfl)

theorem effD_new {o : Oper} {e : List D} {R : Nat → Option Row} {p : D × Rch} (hc : cls o.op = .new) (h : effD X cl ops o e R = some p) : p.2 = .keep ∨ ∃ f, p.2 = .add f := by
  unfold effD at h
  split at h
  · cases h; exact .inl rfl
  · cases h
  · rw [hc] at h; simp only at h; obtain ⟨d, h1, rfl⟩ := Option.map_eq_some_iff.1 h; exact .inr ⟨_, rfl⟩

theorem effD_rn {o : Oper} {e : List D} {R : Nat → Option Row} {p : D × Rch} (hc : cls o.op = .read ∨ cls o.op = .new) (h : effD X cl ops o e R = some p) : p.2 = .keep ∨ ((∃ f, p.2 = .add f) ∧ makes o.op = true) := by
  rcases hc with hc | hc
  · exact .inl (effD_keep (.inr hc) h)
  · rcases effD_new hc h with h1 | h1
    · exact .inl h1
    · exact .inr ⟨h1, by simp [makes, hc]⟩

/-- Two operations, one after the other: the other way round it comes to the same. -/
theorem stepD_comm {k i : Nat} {ok oi : Oper} (hap : ok.apart ops oi = true)
    (hcl : cls ok.op = .pure ∨ cls oi.op = .pure ∨ ((cls ok.op = .read ∨ cls ok.op = .new) ∧ (cls oi.op = .read ∨ cls oi.op = .new)))
    (hmi : makes ok.op = true → ∀ r, nset ok.dst r = true → maskP clo i ops.toList 0 r = true) (hmk : makes oi.op = true → ∀ r, nset oi.dst r = true → maskP clo k ops.toList 0 r = true)
    (hdis : makes ok.op = true → makes oi.op = true → ∀ r, nset ok.dst r = true → nset oi.dst r = true → False)
    {st st1 st2 : St} (h1 : stepD X cl ops clo k ok st = some st1) (h2 : stepD X cl ops clo i oi st1 = some st2) : ∃ s, stepD X cl ops clo i oi st = some s ∧ stepD X cl ops clo k ok s = some st2 := by
  obtain ⟨a1, a2, a3⟩ := Oper.apart_spec hap
  rw [stepD_eff] at h1 h2
  obtain ⟨p, hp, rfl⟩ := Option.map_eq_some_iff.1 h1
  obtain ⟨q, hq, rfl⟩ := Option.map_eq_some_iff.1 h2
  dsimp only at hq
  rw [keepEnv_envD _ (fun t ht => a1 t ht)] at hq
  have key : seen ops clo i oi (p.2.ap ok.dst st.rows) = seen ops clo i oi st.rows ∧ (effD X cl ops oi (keepEnv (oi.looksAt ops) 0 st.env) (seen ops clo i oi st.rows) = some q → seen ops clo k ok (q.2.ap oi.dst st.rows) = seen ops clo k ok st.rows ∧ p.2.ap ok.dst (q.2.ap oi.dst st.rows) = q.2.ap oi.dst (p.2.ap ok.dst st.rows)) := by
    rcases hcl with hc | hc | ⟨hc, hc'⟩
    · have e := effD_keep (.inl hc) hp
      rw [e]
      refine ⟨rfl, fun _ => ⟨by unfold seen; rw [hc], rfl⟩⟩
    · refine ⟨by unfold seen; rw [hc], fun hq => ?_⟩
      have e := effD_keep (.inl hc) hq
      rw [e]
      exact ⟨rfl, rfl⟩
    · have si : ∀ R, seen ops clo i oi R = mask (maskP clo i ops.toList 0) R := fun R => by unfold seen; rcases hc' with h | h <;> rw [h]
      have sk : ∀ R, seen ops clo k ok R = mask (maskP clo k ops.toList 0) R := fun R => by unfold seen; rcases hc with h | h <;> rw [h]
      rw [si, si, sk, sk]
      rcases effD_rn hc hp with e | ⟨⟨f, e⟩, m⟩
      · rw [e]
        refine ⟨rfl, fun hq => ?_⟩
        rcases effD_rn hc' hq with e' | ⟨⟨g, e'⟩, m'⟩
        · rw [e']; exact ⟨rfl, rfl⟩
        · rw [e']; exact ⟨addRows_mask (hmk m'), rfl⟩
      · rw [e]
        refine ⟨addRows_mask (hmi m), fun hq => ?_⟩
        rcases effD_rn hc' hq with e' | ⟨⟨g, e'⟩, m'⟩
        · rw [e']; exact ⟨rfl, rfl⟩
        · rw [e']; exact ⟨addRows_mask (hmk m'), addRows_comm (hdis m m') _ _ _⟩
  rw [key.1] at hq
  obtain ⟨k1, k2⟩ := key.2 hq
  refine ⟨⟨envD oi.dst q.1 st.env, q.2.ap oi.dst st.rows⟩, by rw [stepD_eff, hq]; rfl, ?_⟩
  rw [stepD_eff]
  dsimp only
  rw [keepEnv_envD _ (fun t ht => a3 t ht), k1, hp]
  simp only [Option.map_some, k2, envD_comm a2]

/-! ### lists of operations -/
def runL (f : Nat → St → Option St) : List Nat → St → Option St
  | [], st => some st
  | i :: is, st => match f i st with
    | some s => runL f is s
    | none => none

theorem runL_front {f : Nat → St → Option St} {i : Nat} {L2 : List Nat} : ∀ (L1 : List Nat) {st st' : St}, (∀ k ∈ L1, ∀ a b c, f k a = some b → f i b = some c → ∃ s, f i a = some s ∧ f k s = some c) →
    runL f (L1 ++ i :: L2) st = some st' → ∃ s, f i st = some s ∧ runL f (L1 ++ L2) s = some st'
  | [], st, st', _, h => by
    simp only [List.nil_append, runL] at h ⊢
    split at h
    · rename_i s hs; exact ⟨s, hs, h⟩
    · cases h
  | k :: L1, st, st', hc, h => by
    simp only [List.cons_append, runL] at h
    split at h
    case h_2 => cases h
    rename_i s1 hs1
    obtain ⟨s2, h1, h2⟩ := runL_front L1 (fun k hk => hc k (by simp [hk])) h
    obtain ⟨s, h3, h4⟩ := hc k (by simp) _ _ _ hs1 h1
    exact ⟨s, h3, by simp only [List.cons_append, runL, h4, h2]⟩

def stepI (X : Ctx) (cl : FuncId → List D → List Row → Option Ret) (ops : Array Oper) (clo : List Nat) (i : Nat) (st : St) : Option St :=
  match ops[i]? with
  | some o => stepD X cl ops clo i o st
  | none => none

theorem stepsD_runL : ∀ (l : List Oper) (k : Nat) (st : St), (∀ j, l[j]? = ops[k + j]? ∨ l.length ≤ j) → stepsD X cl ops clo l k st = runL (stepI X cl ops clo) (List.range' k l.length) st
  | [], k, st, _ => by simp [stepsD, runL]
  | o :: l, k, st, hl => by
    have h0 : ops[k]? = some o := by have := hl 0; have := (by simpa using this : some o = _); exact this.symm
    simp only [stepsD, List.length_cons, List.range'_succ, runL, stepI, h0]
    cases stepD X cl ops clo k o st with
    | none => rfl
    | some s =>
      dsimp only
      exact stepsD_runL l (k + 1) s fun j => by
        have := hl (j + 1)
        simpa [Nat.add_assoc, Nat.add_comm 1 j] using this

/-! ### what waits -/
/-- Closed: with an operation all that it waits for. -/
def Down (ops : Array Oper) (S : Nat → Prop) : Prop := ∀ j o, S j → ops[j]? = some o → ∀ e ∈ o.after, Region.binds .any e = true → S e.on

theorem foldl_bits (acc : List Nat) {S : Nat → Prop} (hacc : ∀ j k, (acc.getD j 0).testBit k = true → S j → S k) : ∀ (es : List Edge) (m : Nat), (∀ k, m.testBit k = true → S k) → (∀ e ∈ es, Region.binds .any e = true → S e.on) →
    ∀ k, (es.foldl (fun m e => if Region.binds .any e then (m ||| 2 ^ e.on) ||| acc.getD e.on 0 else m) m).testBit k = true → S k
  | [], m, hm, _, k, h => hm k h
  | e :: es, m, hm, he, k, h => by
    simp only [List.foldl_cons] at h
    refine foldl_bits acc hacc es _ ?_ (fun e' h' => he e' (by simp [h'])) k h
    intro q hq
    split at hq
    · rename_i hb
      have hS := he e (by simp) hb
      simp only [Nat.testBit_or, Bool.or_eq_true] at hq
      rcases hq with (h1 | h1) | h1
      · exact hm q h1
      · rw [Nat.testBit_two_pow] at h1
        have : e.on = q := by simpa using h1
        rw [← this]; exact hS
      · exact hacc _ _ h1 hS
    · exact hm q hq

theorem closL_spec {S : Nat → Prop} (hS : Down ops S) : ∀ (l : List Oper) (acc : List Nat), (∀ j, l[j]? = ops[acc.length + j]? ∨ l.length ≤ j) → (∀ j k, (acc.getD j 0).testBit k = true → (∀ o, ops[j]? = some o → ∀ e ∈ o.after, Region.binds .any e = true → S e.on) → S k) →
    ∀ j k, ((closL l acc).getD j 0).testBit k = true → (∀ o, ops[j]? = some o → ∀ e ∈ o.after, Region.binds .any e = true → S e.on) → S k
  | [], acc, _, h => h
  | o :: l, acc, hl, h => by
    have h0 : ops[acc.length]? = some o := by have := hl 0; have := (by simpa using this : some o = _); exact this.symm
    simp only [closL]
    refine closL_spec hS l _ (fun j => ?_) ?_
    · have := hl (j + 1)
      simpa [Nat.add_assoc, Nat.add_comm 1 j] using this
    · intro j k hb hpre
      by_cases hj : j < acc.length
      · rw [List.getD_eq_getElem?_getD, List.getElem?_append_left hj, ← List.getD_eq_getElem?_getD] at hb
        exact h j k hb hpre
      · rw [List.getD_eq_getElem?_getD, List.getElem?_append_right (by omega)] at hb
        by_cases hj2 : j = acc.length
        · subst hj2
          simp only [Nat.sub_self, List.getElem?_cons_zero, Option.getD_some] at hb
          refine foldl_bits acc (fun q k hq hSq => h q k hq fun o ho e he hbnd => hS q o hSq ho e he hbnd) _ _ (fun k hk => by simp at hk) (fun e he hbnd => hpre o h0 e (by simpa using he) hbnd) k hb
        · have : ([o.after.toList.foldl (fun m e => if Region.binds .any e then (m ||| 2 ^ e.on) ||| acc.getD e.on 0 else m) 0])[j - acc.length]? = none := List.getElem?_eq_none (by simp; omega)
          rw [this] at hb
          simp at hb

theorem maskP_of : ∀ (l : List Oper) (j0 : Nat) {k j : Nat} {o : Oper} {r : Nat}, l[j]? = some o → j0 + j ≠ k → (k < j0 + j ∨ (clo.getD k 0).testBit (j0 + j) = false) → makes o.op = true → nset o.dst r = true → maskP clo k l j0 r = true
  | [], j0, k, j, o, r, h, _, _, _, _ => by simp at h
  | o' :: l, j0, k, 0, o, r, h, hne, hw, hm, hn => by
    simp at h; subst h
    simp only [maskP, Nat.add_zero] at hne hw ⊢
    simp [hne, hm, hn]
    rcases hw with h | h
    · exact .inl (.inl h)
    · exact .inl (.inr h)
  | o' :: l, j0, k, j + 1, o, r, h, hne, hw, hm, hn => by
    have e : j0 + (j + 1) = j0 + 1 + j := by omega
    rw [e] at hne hw
    simp only [maskP, Bool.or_eq_true]
    exact .inr (maskP_of l (j0 + 1) (by simpa using h) hne hw hm hn)

theorem orderAt_of {i : Nat} {oi : Oper} : ∀ (l : List Oper) (k0 : Nat), orderAt ops clo i oi l k0 = true → ∀ (j : Nat) (ok : Oper), l[j]? = some ok → k0 + j < i →
    ((clo.getD i 0).testBit (k0 + j) = true ∨ commOK ops ok oi = true) ∧ (makes ok.op = true → makes oi.op = true → ∀ t, ok.dst = some t → oi.dst ≠ some t)
  | [], k0, _, j, ok, h, _ => by simp at h
  | o :: l, k0, ho, 0, ok, h, hlt => by
    simp at h; subst h
    simp only [orderAt, Bool.and_eq_true, Bool.or_eq_true, decide_eq_true_eq] at ho
    rcases ho.1 with h1 | h1
    · omega
    · refine ⟨by simpa using h1.1, fun m1 m2 t ht hn => ?_⟩
      have h2 := h1.2
      simp [m1, m2, ht, hn] at h2
  | o :: l, k0, ho, j + 1, ok, h, hlt => by
    simp only [orderAt, Bool.and_eq_true] at ho
    have e : k0 + (j + 1) = k0 + 1 + j := by omega
    rw [e] at hlt ⊢
    exact orderAt_of l (k0 + 1) ho.2 j ok (by simpa using h) hlt

theorem orderAll_of : ∀ (l : List Oper) (i0 : Nat), orderAll ops clo l i0 = true → ∀ (j : Nat) (oi : Oper), l[j]? = some oi →
    (∀ e ∈ oi.after, Region.binds .any e = true → e.on < i0 + j) ∧ (∀ d, oi.dst = some d → d < 10000) ∧ orderAt ops clo (i0 + j) oi ops.toList 0 = true
  | [], i0, _, j, ok, h => by simp at h
  | o :: l, i0, ho, 0, oi, h => by
    simp at h; subst h
    simp only [orderAll, Bool.and_eq_true] at ho
    obtain ⟨⟨⟨h1, h2⟩, h3⟩, _⟩ := ho
    refine ⟨fun e he hb => ?_, fun d hd => by rw [hd] at h2; simpa using h2, h3⟩
    have := (Array.all_eq_true_iff_forall_mem.1 h1) e he
    simpa [hb] using this
  | o :: l, i0, ho, j + 1, oi, h => by
    simp only [orderAll, Bool.and_eq_true] at ho
    have e : i0 + (j + 1) = i0 + 1 + j := by omega
    rw [e]
    exact orderAll_of l (i0 + 1) ho.2 j oi (by simpa using h)

end
end Go.PR
