/- The evaluator's operations on rows, over the relation with the model's memory. -/
import Derived.Test.YtdheehhnpjkdbaaDoorFwF
set_option linter.unusedVariables false
set_option linter.unusedSimpArgs false
namespace Go.PR
open Go

section
variable {G : Nat → Option D} {F : Nat → Prop} {w0 w w' : World} {M0 : Entry} {M : Nat → Prop} {mu : Nat → Option Loc} {tmps : Array Value} {st : St}

theorem blockOf_at {l : Option Loc} {b : Nat} (h : blockOf l = some b) : ∃ base size, l = some (.at_ b base size) := by
  cases l with
  | none => simp [blockOf] at h
  | some l => cases l with
    | nowhere => simp [blockOf] at h
    | at_ b' base size => simp [blockOf] at h; subst h; exact ⟨_, _, rfl⟩

/-- A row takes a new place: a new block, or one that no other row of ours lies in. -/
theorem SR.place (h : SR G F w0 M0 w M mu tmps st) (id : Nat) (hpin : ¬ Pinned id) (row : Row) (l : Loc) (hk : Keeps (fun x => blockOf (some l) = some x) w w')
    (hfree : ∀ b, blockOf (some l) = some b → (w.heap.size ≤ b ∧ b < w'.heap.size) ∨ (M b ∧ F b ∧ ∀ j rj, j ≠ id → st.rows j = some rj → rj.wr = true → blockOf (mu j) ≠ some b))
    (hrow : ∀ (M' : Nat → Prop) (mu' : Nat → Option Loc), (∀ b, M' b ↔ M b ∨ (row.wr = true ∧ blockOf (some l) = some b)) → (∀ r, r ≠ id → mu' r = mu r) → mu' id = some l → RowOK F w' M' mu' id row) :
    ∃ M' mu', mu' id = some l ∧ (∀ r, r ≠ id → mu' r = mu r) ∧ (∀ b, M' b ↔ M b ∨ (row.wr = true ∧ blockOf (some l) = some b)) ∧ Keeps M w w' ∧ SR G F w0 M0 w' M' mu' tmps (st.newRow id row) := by
  have hkM : Keeps M w w' := hk.mono fun b hb he => by
    rcases hfree b he with h1 | h1
    · omega
    · exact h1.1
  have hkF : Keeps F w w' := hk.mono fun b hb he => by
    rcases hfree b he with h1 | h1
    · omega
    · exact h1.2.1
  let M' : Nat → Prop := fun b => M b ∨ (row.wr = true ∧ blockOf (some l) = some b)
  let mu' : Nat → Option Loc := fun r => if r = id then some l else mu r
  have hMm : ∀ b, b < w.heap.size → M' b → M b := fun b hb hm => by
    rcases hm with h1 | ⟨_, h2⟩
    · exact h1
    · rcases hfree b h2 with h1 | h1
      · omega
      · exact h1.1
  have hren : ∀ r i, killF id r = some i → mu' i = mu r := fun r i e => by
    simp only [killF] at e
    split at e
    · cases e
    · rename_i hne; cases e; simp [mu', hne]
  have own : ∀ k rk b, st.rows k = some rk → rk.wr = true → blockOf (mu k) = some b → b < w.heap.size ∧ M b := by
    intro k rk b hr hm hb
    obtain ⟨l', e', hh⟩ := h.rows k rk hr
    obtain ⟨base, size, e2⟩ := blockOf_at hb
    rw [e2] at e'
    cases e'
    obtain ⟨cs, T, cv, h1, _, _, _, _, h6, _⟩ := hh
    exact ⟨(Array.getElem?_eq_some_iff.1 h1).1, (h6 hm).1⟩
  refine ⟨M', mu', by simp [mu'], fun r hr => by simp [mu', hr], fun b => Iff.rfl, hkM, ?_⟩
  refine { env := ?_, rows := ?_, apart := ?_, keeps := h.keeps.trans hkF, m1 := ?_, m2 := ?_, mlt := ?_, fr := h.fr, glob := ?_, pin := fun i hi => (show mu' i = mu i from if_neg (fun e : i = id => hpin (e ▸ hi))).trans (h.pin i hi) }
  · exact RepL.keeps hkM hMm (fun _ _ e => e) _ (RepL.ren hren _ h.env)
  · intro i r hr
    simp only [St.newRow, St.drop] at hr
    by_cases hi : i = id
    · simp only [hi, if_true] at hr
      cases hr
      rw [hi]
      exact hrow M' mu' (fun b => Iff.rfl) (fun r hr => by simp [mu', hr]) (by simp [mu'])
    · simp only [hi, if_false] at hr
      obtain ⟨r0, e0, rfl⟩ := Option.map_eq_some_iff.1 hr
      have h1 := (h.rows i r0 e0).ren (mu' := mu') (id' := i) hren (by simp [mu', hi])
      refine h1.keeps hkM hMm (fun _ _ e => e) fun b hb hm => ?_
      have hb' : blockOf (mu i) = some b := by simpa [mu', hi] using hb
      obtain ⟨o1, o2⟩ := own i r0 b e0 hm hb'
      refine ⟨hk.block b o1 fun he => ?_, .inl o2⟩
      rcases hfree b he with h2 | h2
      · omega
      · exact h2.2.2 i r0 hi e0 hm hb'
  · intro i j ri rj b hij hi hj mi mj bi bj
    simp only [St.newRow, St.drop] at hi hj
    by_cases hi0 : i = id
    · have hj0 : j ≠ id := fun e => hij (hi0.trans e.symm)
      simp only [hj0, if_false] at hj
      obtain ⟨r1, e1, rfl⟩ := Option.map_eq_some_iff.1 hj
      have bj' : blockOf (mu j) = some b := by simpa [mu', hj0] using bj
      have bi' : blockOf (some l) = some b := by simpa [mu', hi0] using bi
      have := own j r1 b e1 mj bj'
      rcases hfree b bi' with h2 | h2
      · omega
      · exact h2.2.2 j r1 hj0 e1 mj bj'
    · simp only [hi0, if_false] at hi
      obtain ⟨r0, e0, rfl⟩ := Option.map_eq_some_iff.1 hi
      have bi' : blockOf (mu i) = some b := by simpa [mu', hi0] using bi
      by_cases hj0 : j = id
      · have bj' : blockOf (some l) = some b := by simpa [mu', hj0] using bj
        have := own i r0 b e0 mi bi'
        rcases hfree b bj' with h2 | h2
        · omega
        · exact h2.2.2 i r0 hi0 e0 mi bi'
      · simp only [hj0, if_false] at hj
        obtain ⟨r1, e1, rfl⟩ := Option.map_eq_some_iff.1 hj
        have bj' : blockOf (mu j) = some b := by simpa [mu', hj0] using bj
        exact h.apart i j r0 r1 b hij e0 e1 mi mj bi' bj'
  · intro b hb hm
    exact h.m1 b hb (hMm b (Nat.lt_of_lt_of_le hb h.keeps.size) hm)
  · intro b hb hf; exact .inl (h.m2 b hb hf)
  · intro b hb
    rcases hb with h1 | ⟨_, h2⟩
    · exact Nat.lt_of_lt_of_le (h.mlt b h1) hk.size
    · rcases hfree b h2 with h3 | h3
      · exact h3.2
      · exact Nat.lt_of_lt_of_le (h.mlt b h3.1) hk.size
  · intro g d hg
    exact Rep.keeps hkM hMm (fun _ _ e => e) d (h.glob g d hg)

/-- A row that lies in block b is written. -/
theorem SR.write (h : SR G F w0 M0 w M mu tmps st) {r : Nat} {row : Row} (hr : st.rows r = some row) (hw : row.wr = true) {b base size : Nat} (hl : mu r = some (.at_ b base size)) (hk : Keeps (fun x => x = b) w w')
    {c' : Cont} {cv' : List Value} {cs' : Array Value} {T : TypeId} (hc : ContRep w M mu c' cv') (hb : w'.heap[b]? = some (.cells cs' T (0, 0))) (hs : base + size = cs'.size) (hle : cv'.length ≤ size) (hcs : ∀ j, j < cv'.length → cs'[base + j]? = cv'[j]?) :
    SR G F w0 M0 w' M mu tmps (st.setRow r ⟨true, c'⟩) := by
  obtain ⟨l, e, hh⟩ := h.rows r row hr
  rw [hl] at e
  cases e
  obtain ⟨cs, T0, cv, h1, h2, h3, h4, h5, h6, h7⟩ := hh
  obtain ⟨hMb, hFb⟩ := h6 hw
  have hkM : Keeps M w w' := hk.mono fun x hx e => e ▸ hMb
  have hkF : Keeps F w w' := hk.mono fun x hx e => e ▸ hFb
  refine { env := RepL.keeps hkM (fun _ _ h => h) (fun _ _ h => h) _ h.env, rows := ?_, apart := ?_, keeps := h.keeps.trans hkF, m1 := h.m1, m2 := h.m2, mlt := fun x hx => Nat.lt_of_lt_of_le (h.mlt x hx) hk.size, fr := h.fr, glob := fun g d hg => Rep.keeps hkM (fun _ _ h => h) (fun _ _ h => h) d (h.glob g d hg), pin := h.pin }
  · intro i ri hi
    simp only [St.setRow] at hi
    by_cases hir : i = r
    · simp only [hir, if_true] at hi
      cases hi
      rw [hir]
      exact ⟨_, hl, cs', T, cv', hb, hs, hc.keeps hkM (fun _ _ h => h) (fun _ _ h => h), hle, hcs, fun _ => ⟨hMb, hFb⟩, fun hf => Bool.noConfusion hf⟩
    · simp only [hir, if_false] at hi
      refine (h.rows i ri hi).keeps hkM (fun _ _ h => h) (fun _ _ h => h) fun b' hb' hm => ?_
      obtain ⟨base', size', e'⟩ := blockOf_at hb'
      obtain ⟨l', e2, hh'⟩ := h.rows i ri hi
      rw [e'] at e2
      cases e2
      obtain ⟨cs2, T2, cv2, g1, _, _, _, _, g6, _⟩ := hh'
      refine ⟨hk.block b' (Array.getElem?_eq_some_iff.1 g1).1 fun e => ?_, (g6 hm).1⟩
      subst e
      exact h.apart i r ri row b' hir hi hr hm hw (by rw [e']; rfl) (by rw [hl]; rfl)
  · intro i j ri rj x hij hi hj mi mj bi bj
    simp only [St.setRow] at hi hj
    by_cases hir : i = r
    · simp only [hir, if_true] at hi
      have hjr : j ≠ r := fun e => hij (hir.trans e.symm)
      simp only [hjr, if_false] at hj
      exact h.apart r j row rj x (fun e => hjr e.symm) hr hj hw mj (by rw [← hir]; exact bi) bj
    · simp only [hir, if_false] at hi
      by_cases hjr : j = r
      · exact h.apart i r ri row x hir hi hr mi hw bi (by rw [← hjr]; exact bj)
      · simp only [hjr, if_false] at hj
        exact h.apart i j ri rj x hij hi hj mi mj bi bj

theorem home_pin (id j : Nat) : ¬ Pinned (home id j) := by unfold Pinned home PB XB; omega
theorem nid_pin (t : Nat) : ¬ Pinned (nid t) := by unfold Pinned nid PB XB; omega
theorem xid_pin (t i : Nat) : ¬ Pinned (xid t i) := by unfold Pinned xid PB XB; omega

/-- A new block, and a row that lies in it. -/
theorem SR.alloc (h : SR G F w0 M0 w M mu tmps st) (id : Nat) (hpin : ¬ Pinned id) (c : Cont) (cs : Array Value) (T : TypeId) (cv : List Value) (hw : Keeps (fun _ => False) w w') (hb : w'.heap[w.heap.size]? = some (.cells cs T (0, 0)))
    (hc : ∀ mu', (∀ r, r ≠ id → mu' r = mu r) → ContRep w M mu' c cv) (hl : cv.length ≤ cs.size) (hcs : ∀ j, j < cv.length → cs[j]? = cv[j]?) :
    ∃ M' mu', mu' id = some (.at_ w.heap.size 0 cs.size) ∧ SR G F w0 M0 w' M' mu' tmps (st.newRow id ⟨true, c⟩) ∧ ∀ r, r ≠ id → mu' r = mu r := by
  have hlt : w.heap.size < w'.heap.size := (Array.getElem?_eq_some_iff.1 hb).1
  obtain ⟨M', mu', e1, e2, e3, _, h3⟩ := h.place id hpin ⟨true, c⟩ (.at_ w.heap.size 0 cs.size) (hw.mono fun _ _ h => h.elim) (fun b hb' => .inl (by simp [blockOf] at hb'; omega))
    (fun M' mu' hM hu hid => ⟨_, hid, cs, T, cv, hb, by simp, ContRep.keeps (hw.mono fun _ _ h => h.elim) (fun b hb' hm => by
      rcases (hM b).1 hm with h2 | ⟨_, h2⟩
      · exact h2
      · simp [blockOf] at h2; omega) (fun _ _ e => e) (hc mu' hu), hl, by simpa using hcs, fun _ => ⟨(hM _).2 (.inr ⟨rfl, rfl⟩), h.fr _ h.keeps.size⟩, fun hf => Bool.noConfusion hf⟩)
  exact ⟨M', mu', e1, h3, e2⟩

/-- A row's content is not known any more. -/
theorem SR.forget (h : SR G F w0 M0 w M mu tmps st) (r : Nat) : SR G F w0 M0 w M mu tmps (st.forget r) :=
  { h with
    rows := fun i row hr => by
      simp only [St.forget] at hr
      split at hr
      · cases hr
      · exact h.rows i row hr
    apart := fun i j ri rj b hij hi hj => by
      simp only [St.forget] at hi hj
      split at hi
      · cases hi
      · split at hj
        · cases hj
        · exact h.apart i j ri rj b hij hi hj }

/-- Row a becomes row b. -/
theorem SR.move (h : SR G F w0 M0 w M mu tmps st) {p q : Nat} (hne : p ≠ q) (hpin : ¬ Pinned q) : ∃ mu', SR G F w0 M0 w M mu' tmps (st.move p q) := by
  let mu' : Nat → Option Loc := fun i => if i = q then mu p else mu i
  have hren : ∀ r i, mvF p q r = some i → mu' i = mu r := fun r i e => by
    simp only [mvF] at e
    split at e
    · rename_i hr; cases e; simp [mu', hr]
    · split at e
      · cases e
      · rename_i h1 h2; cases e; simp [mu', h2]
  refine ⟨mu', ?_⟩
  have rowsAt : ∀ i ri, (st.move p q).rows i = some ri → ∃ j rj, st.rows j = some rj ∧ ri = rj.ren (mvF p q) ∧ mu' i = mu j ∧ (i = q → j = p) ∧ (i ≠ q → j = i ∧ i ≠ p) := by
    intro i ri hi
    simp only [St.move] at hi
    by_cases hiq : i = q
    · simp only [hiq, if_true] at hi
      obtain ⟨r0, e0, rfl⟩ := Option.map_eq_some_iff.1 hi
      exact ⟨p, r0, e0, rfl, by simp [mu', hiq], fun _ => rfl, fun hn => absurd hiq hn⟩
    · simp only [hiq, if_false] at hi
      by_cases hip : i = p
      · simp [hip] at hi
      · simp only [hip, if_false] at hi
        obtain ⟨r0, e0, rfl⟩ := Option.map_eq_some_iff.1 hi
        exact ⟨i, r0, e0, rfl, by simp [mu', hiq], fun e => absurd e hiq, fun _ => ⟨rfl, hip⟩⟩
  exact
  { h with
    pin := fun i hi => by
      have : i ≠ q := fun e => hpin (e ▸ hi)
      simp only [mu', this, if_false]
      exact h.pin i hi
    env := RepL.ren hren _ h.env
    rows := fun i ri hi => by
      obtain ⟨j, rj, e, rfl, hm, _⟩ := rowsAt i ri hi
      exact (h.rows j rj e).ren hren hm
    apart := fun i j ri rj b hij hi hj mi mj bi bj => by
      obtain ⟨i', ri', e1, rfl, m1, q1, n1⟩ := rowsAt i ri hi
      obtain ⟨j', rj', e2, rfl, m2, q2, n2⟩ := rowsAt j rj hj
      refine h.apart i' j' ri' rj' b ?_ e1 e2 mi mj (by rw [← m1]; exact bi) (by rw [← m2]; exact bj)
      intro e
      by_cases h1 : i = q
      · by_cases h2 : j = q
        · exact hij (h1.trans h2.symm)
        · have := (n2 h2).2; rw [q1 h1] at e; exact this ((n2 h2).1 ▸ e.symm)
      · by_cases h2 : j = q
        · have := (n1 h1).2; rw [q2 h2] at e; exact this ((n1 h1).1 ▸ e)
        · rw [(n1 h1).1, (n2 h2).1] at e; exact hij e }

theorem SR.push (h : SR G F w0 M0 w M mu tmps st) {ds : List D} {vs : List Value} (hr : RepL w M mu ds vs) : SR G F w0 M0 w M mu (tmps ++ vs.toArray) (st.push ds) :=
  { h with env := by simpa [St.push] using RepL.append h.env hr }

theorem SR.set (h : SR G F w0 M0 w M mu tmps st) (i : Nat) {d : D} (hd : Rep w M mu d (tmps.getD i undef)) : SR G F w0 M0 w M mu tmps { st with env := st.env.set i d } := by
  have h1 := h.put hd i
  by_cases hi : i < tmps.size
  · have e : tmps.setIfInBounds i (tmps.getD i undef) = tmps := by
      apply Array.ext
      · simp
      · intro j h1 h2
        rw [Array.getElem_setIfInBounds]
        split
        · rename_i hij; subst hij; simp [Array.getD_eq_getD_getElem?, h2]
        · rfl
    rwa [e] at h1
  · have e : tmps.setIfInBounds i (tmps.getD i undef) = tmps := by
      simp [Array.setIfInBounds, hi]
    rwa [e] at h1

theorem emptyC_rep {k : NK} {c : Cont} (h : emptyC k = some c) : ContRep w M mu c [] ∧ c.len = 0 ∧ c.isVar = false := by
  cases k <;> simp [emptyC] at h <;> subst h <;> simp [ContRep, intsV, boolsV, All2, RepL, Cont.len, Cont.isVar]

theorem SR.bindAt (h : SR G F w0 M0 w M mu tmps st) (k : NK) (i hm : Nat) (hpin : ¬ Pinned hm) : ∃ mu', SR G F w0 M0 w M mu' tmps (bindAt k i hm st) := by
  unfold Go.PR.bindAt
  split
  · rename_i r n e
    split
    · rename_i hc
      simp only [Bool.and_eq_true, bne_iff_ne] at hc
      exact h.move hc.2 hpin
    · exact ⟨mu, h⟩
  · rename_i k' e
    split
    · rename_i c hc
      obtain ⟨hr, hl, _⟩ := emptyC_rep (w := w) (M := M) (mu := mu) hc
      have hv := h.get i
      rw [e] at hv
      simp only [Rep] at hv
      obtain ⟨A, hv⟩ := hv
      obtain ⟨M', mu', e1, e2, e3, _, h1⟩ := h.place (w' := w) hm hpin ⟨true, c⟩ .nowhere (Keeps.refl _ _) (fun b hb => by simp [blockOf] at hb)
        (fun M' mu' _ _ hid => ⟨_, hid, (emptyC_rep hc).1⟩)
      have hM : M' = M := by funext b; simp [e3, blockOf]
      rw [hM] at h1
      exact ⟨mu', h1.set i (by simp only [Rep]; exact ⟨_, e1, rfl, A, hv⟩)⟩
    · exact ⟨mu, h⟩
  · exact ⟨mu, h⟩

theorem SR.bindAll (hm : Nat → Nat) (hpin : ∀ j, ¬ Pinned (hm j)) : ∀ (n i j : Nat) {mu : Nat → Option Loc} {st : St}, SR G F w0 M0 w M mu tmps st → ∃ mu', SR G F w0 M0 w M mu' tmps (bindAll hm n i j st)
  | 0, i, j, mu, st, h => ⟨mu, h⟩
  | n + 1, i, j, mu, st, h => by
    obtain ⟨mu1, h1⟩ := h.bindAt .unk i (hm j) (hpin j)
    exact SR.bindAll hm hpin n (i + 1) (j + 1) h1

theorem SR.cut {vs : List Value} (h : SR G F w0 M0 w M mu (tmps ++ vs.toArray) st) {n : Nat} (hn : n = tmps.size) : SR G F w0 M0 w M mu tmps { st with env := st.env.take n } ∧ RepL w M mu (st.env.drop n) vs := by
  have he := h.env
  simp at he
  refine ⟨{ h with env := ?_ }, ?_⟩
  · have := he.take n
    rw [hn] at this
    simpa [hn] using this
  · have := he.drop n
    rw [hn] at this
    simpa [hn] using this

end
end Go.PR
