/- Regions that draw their order: what the evaluator says holds of the model. -/
import Derived.Test.YtdheehhnpjkdbaaDoorFwN3
set_option linter.unusedVariables false
set_option linter.unusedSimpArgs false
namespace Go.PR
open Go

section
variable {P : Program} {X : Ctx} {F : Nat → Prop} {w0 w w' : World} {M0 : Entry} {M : Nat → Prop} {mu mu' : Nat → Option Loc} {a : Act} {st st1 : St} {ops : Array Oper} {clo : List Nat}

/-- Between two operations: what the operations still to come make is not born yet. -/
def InvD (X : Ctx) (F : Nat → Prop) (w0 : World) (M0 : Entry) (df : List Deferred) (ops : Array Oper) (L : List Nat) (st : St) (a : Act) (w : World) : Prop :=
  a.defers = df ∧ ∃ M mu, SR X.glob F w0 M0 w M mu a.tmps st ∧ ∀ j ∈ L, ∀ o, ops[j]? = some o → makes o.op = true → ∀ id, nset o.dst id = true → mu id = none

theorem stepD_sound (hX : XOK P X) {cl : FuncId → List D → List Row → Option Ret} (hcl : ∀ f args prows r, cl f args prows = some r → Sound P X f args prows r) {df : List Deferred} {i : Nat} {o : Oper} (ho : ops[i]? = some o) (hlt : ∀ d, o.dst = some d → d < 10000) {L L' : List Nat} (hi : i ∈ L) (hsub : ∀ j ∈ L', j ∈ L)
    (hdis : ∀ j ∈ L', ∀ o', ops[j]? = some o' → makes o'.op = true → makes o.op = true → ∀ r, nset o.dst r = true → nset o'.dst r = true → False) (h : InvD X F w0 M0 df ops L st a w) {s : St} (hs : stepD X cl ops clo i o st = some s)
    {Q : Exit → Act → World → Prop} {K : Act → World → Prop} (hK : ∀ a w, InvD X F w0 M0 df ops L' s a w → K a w) : wpOp P ops Q i K a w := by
  obtain ⟨rfl, M, mu, h, hun⟩ := h
  unfold stepD at hs
  dsimp only at hs
  have hl0 := h.look (o.looksAt ops) (rows := fun _ => none) none_sub
  have hl1 := h.look (o.looksAt ops) (rows := mask (maskP clo i ops.toList 0) st.rows) (fun _ _ h => mask_sub h)
  have hww := wanted_sound hl0 ops o
  unfold wpOp
  rw [ho]
  split at hs
  · rename_i e
    cases hs
    simp only [hww.2 e, Bool.false_eq_true, if_false]
    exact hK _ _ ⟨put_defers _ _ _, M, mu, und_put h _, fun j hj => hun j (hsub j hj)⟩
  · cases hs
  · rename_i e
    simp only [hww.1 e, if_true]
    refine .inl ?_
    have quiet : ∀ {d : D}, (∃ v, (execOp a.eval o).run P w = .ok (.value v) w ∧ Rep w M mu d v) → st.setD o.dst d = s → o.wp P a w K Q := by
      rintro d ⟨v, h1, h2⟩ rfl
      unfold Oper.wp
      rw [h1]
      exact hK _ _ ⟨put_defers _ _ _, M, mu, h.setDst h2 _, fun j hj => hun j (hsub j hj)⟩
    have turned : makes o.op = true → ∀ {rows : Nat → Option Row} {d : D}, ({ st with rows := rows } : St).setD o.dst d = s → ∀ v w' M' mu', SR X.glob F w0 M0 w' M' mu' a.tmps { st with rows := rows } → Rep w' M' mu' d v → (∀ r, nset o.dst r = false → mu' r = mu r) → K (a.put o.dst v) w' := by
      rintro hm rows d rfl v w' M' mu' k1 k2 k3
      refine hK _ _ ⟨put_defers _ _ _, M', mu', k1.setDst k2 _, fun j hj o' ho' hm' id hid => ?_⟩
      rw [k3 id (by
        cases e : nset o.dst id with
        | false => rfl
        | true => exact (hdis j hj o' ho' hm' hm id e hid).elim)]
      exact hun j (hsub j hj) o' ho' hm' id hid
    split at hs
    · obtain ⟨d, hd, hs'⟩ := Option.map_eq_some_iff.1 hs
      exact quiet (quietA_sound hX hl0 hd) hs'
    · obtain ⟨d, hd, hs'⟩ := Option.map_eq_some_iff.1 hs
      exact quiet (quietA_sound hX hl1 hd) hs'
    · rename_i hc
      obtain ⟨p, hp, hs'⟩ := Option.map_eq_some_iff.1 hs
      have hm : makes o.op = true := by simp [makes, hc]
      exact newD_sound hX hcl h hl1 hlt (hun i hi o ho hm) hp (turned hm hs')
    · rename_i hc
      obtain ⟨p, hp, hs'⟩ := Option.map_eq_some_iff.1 hs
      have hm : makes o.op = true := by simp [makes, hc]
      exact writeD_sound hX h hl0 hlt (hun i hi o ho hm) hp (turned hm hs')
    · cases hs

theorem split_mem {L : List Nat} {i : Nat} (h : i ∈ L) : ∃ L1 L2, L = L1 ++ i :: L2 := List.append_of_mem h

theorem sorted_front {L1 L2 : List Nat} {i : Nat} (h : (L1 ++ i :: L2).Pairwise (· < ·)) : (∀ k ∈ L1, k < i) ∧ (L1 ++ L2).Pairwise (· < ·) ∧ i ∉ L1 ++ L2 := by
  rw [List.pairwise_append] at h
  obtain ⟨h1, h2, h3⟩ := h
  rw [List.pairwise_cons] at h2
  refine ⟨fun k hk => h3 k hk i (by simp), ?_, fun hm => ?_⟩
  · rw [List.pairwise_append]
    exact ⟨h1, h2.2, fun a ha b hb => h3 a ha b (by simp [hb])⟩
  · rcases List.mem_append.1 hm with hm | hm
    · have := h3 i hm i (by simp); omega
    · have := h2.1 i hm; omega

theorem anyD (hX : XOK P X) {cl : FuncId → List D → List Row → Option Ret} (hcl : ∀ f args prows r, cl f args prows = some r → Sound P X f args prows r) {df : List Deferred} (hok : orderOK ops = true) {Q : Exit → Act → World → Prop} {st' : St} (hQ : ∀ a w, InvD X F w0 M0 df ops [] st' a w → Q .normal a w) :
    ∀ (fuel : Nat) (L : List Nat) (listed : Array Bool) (st : St) (a : Act) (w : World), L.length = fuel → L.Pairwise (· < ·) → (∀ j ∈ L, j < ops.size) → listed.size = ops.size → (∀ j, j < ops.size → (listed.getD j true = false ↔ j ∈ L)) →
      Down ops (fun j => listed.getD j false = true) → InvD X F w0 M0 df ops L st a w → runL (stepI X cl ops (closL ops.toList [])) L st = some st' → wpAny P .any ops Q fuel listed a w := by
  have hall := fun j oi h => orderAll_of ops.toList 0 hok j oi h
  intro fuel
  induction fuel with
  | zero =>
    intro L listed st a w hlen hp hlt hsz hL hdown hinv hrun
    have : L = [] := List.eq_nil_of_length_eq_zero hlen
    subst this
    simp only [runL] at hrun
    cases hrun
    refine ⟨?_, hQ _ _ hinv⟩
    cases e : Region.ready .any ops listed with
    | nil => rfl
    | cons i is =>
      have hi : i ∈ Region.ready .any ops listed := by rw [e]; simp
      obtain ⟨h0, o, ho, _⟩ := mem_ready.1 hi
      have := (hL i (Array.getElem?_eq_some_iff.1 ho).1).1 h0
      simp at this
  | succ fuel ih =>
    intro L listed st a w hlen hp hlt hsz hL hdown hinv hrun
    refine ⟨fun hnil => ?_, fun i hi => ?_⟩
    · -- the first of what is left is ready
      exfalso
      cases L with
      | nil => simp at hlen
      | cons i L' =>
        have hi := hlt i (by simp)
        have : i ∈ Region.ready .any ops listed := by
          refine mem_ready.2 ⟨(hL i hi).2 (by simp), ops[i], Array.getElem?_eq_getElem hi, fun e he hb => ?_⟩
          have h1 := (hall i ops[i] (by rw [Array.getElem?_toList]; exact Array.getElem?_eq_getElem hi)).1 e he hb
          rw [Nat.zero_add] at h1
          have hsz' : e.on < ops.size := by omega
          have hn : ¬ listed.getD e.on true = false := fun hf => by
            have := (hL e.on hsz').1 hf
            rcases List.mem_cons.1 this with h2 | h2
            · omega
            · have := (List.pairwise_cons.1 hp).1 _ h2; omega
          have hin : e.on < listed.size := by omega
          simp [Array.getD, hin] at hn ⊢
          exact hn
        rw [hnil] at this
        cases this
    · obtain ⟨h0, o, ho, hpre⟩ := mem_ready.1 hi
      have hisz := (Array.getElem?_eq_some_iff.1 ho).1
      have hiL := (hL i hisz).1 h0
      obtain ⟨L1, L2, rfl⟩ := split_mem hiL
      obtain ⟨hlow, hp', hnot⟩ := sorted_front hp
      have hoL : ops.toList[i]? = some o := by rw [Array.getElem?_toList]; exact ho
      obtain ⟨_, hd10, hat⟩ := hall i o hoL
      rw [Nat.zero_add] at hat
      have unl : ∀ k, k ∈ L1 ++ i :: L2 → ¬ listed.getD k false = true := fun k hk hf => by
        have h1 := (hL k (hlt k hk)).2 hk
        have hin : k < listed.size := by have := hlt k hk; omega
        simp [Array.getD, hin] at h1 hf
        rw [h1] at hf; cases hf
      have notw : ∀ k ∈ L1, ((closL ops.toList []).getD i 0).testBit k = false := fun k hk => by
        cases e : ((closL ops.toList []).getD i 0).testBit k with
        | false => rfl
        | true =>
          exfalso
          refine unl k (by simp [hk]) ?_
          refine closL_spec (S := fun j => listed.getD j false = true) hdown ops.toList [] (fun j => by simp) (fun j k h => by simp at h) i k e ?_
          intro o' ho' e' he' hb'
          rw [ho] at ho'
          cases ho'
          exact hpre e' he' hb'
      have comm : ∀ k ∈ L1, ∀ a b c, stepI X cl ops (closL ops.toList []) k a = some b → stepI X cl ops (closL ops.toList []) i b = some c → ∃ s, stepI X cl ops (closL ops.toList []) i a = some s ∧ stepI X cl ops (closL ops.toList []) k s = some c := by
        intro k hk a b c h1 h2
        have hkL : k ∈ L1 ++ i :: L2 := by simp [hk]
        have hks := hlt k hkL
        have hok' : ops[k]? = some ops[k] := Array.getElem?_eq_getElem hks
        generalize ops[k] = ok at hok'
        have hokL : ops.toList[k]? = some ok := by rw [Array.getElem?_toList]; exact hok'
        have hki := hlow k hk
        obtain ⟨hw, hdst⟩ := orderAt_of ops.toList 0 hat k ok hokL (by omega)
        rw [Nat.zero_add] at hw
        rw [notw k hk] at hw
        have hcm : commOK ops ok o = true := by simpa using hw
        simp only [stepI, hok', ho] at h1 h2 ⊢
        simp only [commOK, Bool.and_eq_true] at hcm
        refine stepD_comm hcm.1 ?_ ?_ ?_ ?_ h1 h2
        · have := hcm.2
          cases e1 : cls ok.op <;> cases e2 : cls o.op <;> simp [e1, e2] at this ⊢
        · intro m r hr
          exact maskP_of ops.toList 0 hokL (by omega) (.inr (by rw [Nat.zero_add]; exact notw k hk)) m hr
        · intro m r hr
          exact maskP_of ops.toList 0 hoL (by omega) (.inl (by omega)) m hr
        · intro m1 m2 r r1 r2
          obtain ⟨e1, t, e2⟩ := nset_disj r1 r2; exact hdst m1 m2 t e2 (e1 ▸ e2)
      obtain ⟨s, hs1, hs2⟩ := runL_front L1 comm hrun
      simp only [stepI, ho] at hs1
      refine stepD_sound hX hcl ho hd10 (L' := L1 ++ L2) (by simp) (fun j hj => by rcases List.mem_append.1 hj with h | h <;> simp [h]) ?_ hinv hs1 ?_
      · intro j hj o' ho' m' m r r1 r2
        have hjs := (Array.getElem?_eq_some_iff.1 ho').1
        have ho'L : ops.toList[j]? = some o' := by rw [Array.getElem?_toList]; exact ho'
        have hne : j ≠ i := fun e => hnot (e ▸ hj)
        rcases Nat.lt_or_ge j i with hlt' | hge
        · obtain ⟨e1, t, e2⟩ := nset_disj r2 r1; exact (orderAt_of ops.toList 0 hat j o' ho'L (by omega)).2 m' m t e2 (e1 ▸ e2)
        · have hat' := (hall j o' ho'L).2.2
          rw [Nat.zero_add] at hat'
          obtain ⟨e1, t, e2⟩ := nset_disj r1 r2; exact (orderAt_of ops.toList 0 hat' i o hoL (by omega)).2 m m' t e2 (e1 ▸ e2)
      · intro a' w' hinv'
        refine ih (L1 ++ L2) _ s a' w' (by simp at hlen ⊢; omega) hp' (fun j hj => hlt j (by rcases List.mem_append.1 hj with h | h <;> simp [h])) (by simpa using hsz) ?_ ?_ hinv' hs2
        · intro j hj
          by_cases e : i = j
          · subst e
            constructor
            · intro hf
              have : i < listed.size := by omega
              simp [Array.getD, this] at hf
            · intro hm; exact (hnot hm).elim
          · rw [getD_set_ne true e, hL j hj]
            simp [Ne.symm e]
        · intro j oj hj hoj e he hb
          by_cases e' : i = j
          · subst e'
            rw [ho] at hoj
            cases hoj
            exact getD_set_true (hpre e he hb)
          · rw [getD_set_ne false e'] at hj
            exact getD_set_true (hdown j oj hj hoj e he hb)

theorem SR.bindCell (h : SR X.glob F w0 M0 w M mu a.tmps st) (d : D) : ∃ mu', SR X.glob F w0 M0 w M mu' a.tmps (bindCell d st) := by
  unfold Go.PR.bindCell
  split
  case h_2 => exact ⟨mu, h⟩
  rename_i r off
  split
  case h_2 => exact ⟨mu, h⟩
  split
  case h_2 => exact ⟨mu, h⟩
  split
  case isFalse => exact ⟨mu, h⟩
  rename_i hc
  simp only [Bool.and_eq_true, bne_iff_ne] at hc
  refine h.move hc.2 fun hh => ?_
  have := hh.2
  unfold home XB at this
  omega

theorem bindEnd_sound {df : List Deferred} : ∀ (l : List Oper) {st : St} {a : Act} {w : World}, After X F w0 M0 df st a w → After X F w0 M0 df (bindEnd X l st) a w
  | [], st, a, w, h => h
  | o :: l, st, a, w, h => by
    unfold bindEnd
    split
    · split
      · rename_i x t hop hdst ht
        obtain ⟨hd, M, mu, hs⟩ := h
        have hp : ¬ Pinned t := fun hh => absurd (Nat.lt_of_lt_of_le ht (by decide : 1000 ≤ PB)) (Nat.not_lt.2 hh.1)
        obtain ⟨mu', h2⟩ := hs.bindAt (nkOf X o.type) t t hp
        exact bindEnd_sound l ⟨hd, M, mu', h2⟩
      · exact bindEnd_sound l h
    · rename_i t ad x hop hdst
      obtain ⟨hd, M, mu, hs⟩ := h
      obtain ⟨mu', h2⟩ := hs.bindCell (ev X st ad)
      exact bindEnd_sound l ⟨hd, M, mu', h2⟩
    · exact bindEnd_sound l h

theorem allP_of : ∀ {l : List Oper} {r : Nat}, allP l r = true → ∃ d, nset d r = true
  | [], r, h => by simp [allP] at h
  | o :: l, r, h => by
    simp only [allP, Bool.or_eq_true, Bool.and_eq_true] at h
    rcases h with h | h
    · exact ⟨_, h.2⟩
    · exact allP_of h

theorem allP_mem : ∀ {l : List Oper} {j : Nat} {o : Oper} {r : Nat}, l[j]? = some o → makes o.op = true → nset o.dst r = true → allP l r = true
  | [], j, o, r, h, _, _ => by simp at h
  | o' :: l, 0, o, r, h, hm, hn => by simp at h; subst h; simp [allP, hm, hn]
  | o' :: l, j + 1, o, r, h, hm, hn => by
    simp only [allP, Bool.or_eq_true]
    exact .inr (allP_mem (by simpa using h) hm hn)

theorem draw_sound (hX : XOK P X) {cl : FuncId → List D → List Row → Option Ret} (hcl : ∀ f args prows r, cl f args prows = some r → Sound P X f args prows r) {df : List Deferred} {id : Nat} {Q : Exit → Act → World → Prop} {st' : St} (h : After X F w0 M0 df st a w) (hs : drawD X cl ops st = some st') (hQ : ∀ a w, After X F w0 M0 df st' a w → Q .normal a w) :
    (Code.region id ops true).wp P Q a w := by
  obtain ⟨hd, M, mu, h⟩ := h
  unfold drawD at hs
  split at hs
  case isFalse => cases hs
  rename_i hok
  obtain ⟨s, hs1, rfl⟩ := Option.map_eq_some_iff.1 hs
  have h1 := (h.world (w' := { w with drawn := w.drawn + 1 }) ⟨rfl, rfl, rfl, Nat.le_refl _, fun _ _ _ => rfl⟩).dropP (allP ops.toList) (fun i hi => by
    cases e : allP ops.toList i with
    | false => rfl
    | true => obtain ⟨d, hd⟩ := allP_of e; exact (nset_pin hd hi).elim)
  rw [stepsD_runL ops.toList 0 _ (fun j => by simp)] at hs1
  refine wp_region_any hX.mixed ?_
  refine anyD hX hcl hok (st' := s) (fun a w hi => hQ a w (bindEnd_sound _ (by obtain ⟨hd, M, mu, hs, _⟩ := hi; exact ⟨hd, M, mu, hs⟩))) ops.size (List.range' 0 ops.toList.length) _ _ a _ (by simp) ?_ ?_ (by simp) ?_ ?_ ⟨hd, M, _, h1, ?_⟩ hs1
  · exact List.pairwise_lt_range' 
  · intro j hj
    simp [List.mem_range'] at hj
    omega
  · intro j hj
    simp [hj, List.mem_range']
  · intro j o hj ho e he hb
    have hlt := (Array.getElem?_eq_some_iff.1 ho).1
    simp [hlt] at hj
  · intro j hj o ho hm r hr
    rw [allP_mem (l := ops.toList) (by rw [Array.getElem?_toList]; exact ho) hm hr]
    rfl

end
end Go.PR
