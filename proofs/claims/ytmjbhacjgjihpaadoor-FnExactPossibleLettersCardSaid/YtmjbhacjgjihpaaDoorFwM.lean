/- What a function's contract says (Sound), and what a caller has of it. -/
import Derived.Test.YtmjbhacjgjihpaaDoorFwJ2
set_option linter.unusedVariables false
set_option linter.unusedSimpArgs false
set_option linter.unusedSectionVars false
section
namespace Go.PR
open Go
theorem z41 {a b : Nat} (h : a ≤ b) : a + (b - a) = b := by omega
def zn (r : Ret) : Nat → Option Row := fun i => if XB ≤ i then r.out[i - XB]? else if PB ≤ i then (r.passed[i - PB]?).getD none else none
def Fset (w : World) (mu : Nat → Option Loc) (n : Nat) : Nat → Prop := fun b => w.heap.size ≤ b ∨ ∃ j, j < n ∧ InB (mu (PB + j)) b
def Sound (P : Program) (X : Ctx) (f : FuncId) (args : List D) (prows : List Row) (r : Ret) : Prop :=
  ∀ (w : World) (M : Nat → Prop) (mu : Nat → Option Loc) (vs : List Value), SR X.glob (Fset w mu prows.length) w ⟨M, mu⟩ w M mu vs.toArray ⟨args, rowsIn prows⟩ →
    Calls P f vs.toArray w fun e w' => ∃ v M' mu', e = .returned v ∧ SR X.glob (Fset w mu prows.length) w ⟨M, mu⟩ w' M' mu' #[v] ⟨[r.res], zn r⟩
section
variable {P : Program} {X : Ctx} {G : Nat → Option D} {F : Nat → Prop} {w0 w w' : World} {M0 : Entry} {M M' Mc : Nat → Prop} {mu mu' muc : Nat → Option Loc} {tmps : Array Value} {a : Act} {st : St}
theorem SR.dropTo (h : SR G F w0 M0 w M mu tmps st) (id : Nat) (hpin : ¬ Pinned id) {mu2 : Nat → Option Loc} (hmu : ∀ r, r ≠ id → mu2 r = mu r) : SR G F w0 M0 w M mu2 tmps (st.drop id) := by
  have hren : ∀ r i, killF id r = some i → mu2 i = mu r := fun r i e => by
    simp only [killF] at e
    split at e
    · cases e
    · rename_i hne; cases e; exact hmu _ hne
  have rowOf : ∀ i ri, (st.drop id).rows i = some ri → ∃ r0, st.rows i = some r0 ∧ ri = r0.ren (killF id) ∧ i ≠ id := by
    intro i ri hi
    simp only [St.drop] at hi
    split at hi
    · cases hi
    · rename_i hne
      obtain ⟨r0, e0, rfl⟩ := Option.map_eq_some_iff.1 hi
      exact ⟨r0, e0, rfl, hne⟩
  exact
  { h with
    env := RepL.ren hren _ h.env
    rows := fun i ri hi => by
      obtain ⟨r0, e0, rfl, hne⟩ := rowOf i ri hi
      exact (h.rows i r0 e0).ren hren (hmu i hne)
    apart := fun i j ri rj b hij hi hj mi mj bi bj => by
      obtain ⟨r0, e0, rfl, hne⟩ := rowOf i ri hi
      obtain ⟨r1, e1, rfl, hne1⟩ := rowOf j rj hj
      exact h.apart i j r0 r1 b hij e0 e1 mi mj (by rw [← hmu i hne]; exact bi) (by rw [← hmu j hne1]; exact bj)
    pin := fun i hi => (hmu i fun e => hpin (e ▸ hi)).trans (h.pin i hi) }
theorem SR.dropAllTo : ∀ (is : List Nat), (∀ i ∈ is, ¬ Pinned i) → ∀ {mu : Nat → Option Loc} {st : St}, SR G F w0 M0 w M mu tmps st → ∀ {mu2 : Nat → Option Loc}, (∀ r, r ∉ is → mu2 r = mu r) → SR G F w0 M0 w M mu2 tmps (dropAll is st)
  | [], _, mu, st, h, mu2, hmu => by
    have : mu2 = mu := by funext r; exact hmu r (by simp)
    rw [this]; exact h
  | i :: is, hp, mu, st, h, mu2, hmu => by
    have h1 := h.dropTo i (hp i (by simp)) (mu2 := fun r => if r = i then mu2 i else mu r) (fun r hr => by simp [hr])
    exact SR.dropAllTo is (fun j hj => hp j (by simp [hj])) h1 (fun r hr => by
      by_cases e : r = i
      · simp [e]
      · simp only [e, if_false]; exact hmu r (by simp [e, hr]))
theorem SR.dropAny (h : SR G F w0 M0 w M mu tmps st) : ∀ (is : List Nat), SR G F w0 M0 w M mu tmps (dropAll is st) := by
  intro is
  induction is generalizing st with
  | nil => exact h
  | cons i is ih => exact ih (h.drop i)
theorem zai (a b : List Nat) (st : St) : dropAll (a ++ b) st = dropAll b (dropAll a st) := by
  induction a generalizing st with
  | nil => rfl
  | cons i is ih => exact ih _
theorem zfk (is : List Nat) (st : St) (i : Nat) : (i ∈ is → (dropAll is st).rows i = none) ∧ ∀ r, (dropAll is st).rows i = some r → ∃ r0, st.rows i = some r0 ∧ r.wr = r0.wr := by
  induction is generalizing st with
  | nil => exact ⟨by simp, fun r h => ⟨r, h, rfl⟩⟩
  | cons j is ih =>
    obtain ⟨h1, h2⟩ := ih (st.drop j)
    have back : ∀ r, (dropAll is (st.drop j)).rows i = some r → i ≠ j ∧ ∃ r0, st.rows i = some r0 ∧ r.wr = r0.wr := by
      intro r hr
      obtain ⟨r1, e1, w1⟩ := h2 r hr
      simp only [St.drop] at e1
      split at e1
      · cases e1
      · rename_i hne
        obtain ⟨r0, e0, rfl⟩ := Option.map_eq_some_iff.1 e1
        exact ⟨hne, r0, e0, w1⟩
    refine ⟨fun hi => ?_, fun r hr => (back r hr).2⟩
    rcases List.mem_cons.1 hi with rfl | hi
    · cases e : (dropAll is (st.drop i)).rows i with
      | none => exact e
      | some r => exact absurd rfl (back r e).1
    · exact h1 hi
mutual
theorem Rep.noImm {d : D} {v : Value} (hn : d.noImm = true) (h : Rep w M mu d v) : Rep w M' mu d v := by
  cases d <;> simp only [D.noImm] at hn <;> simp only [Rep] at h ⊢ <;> first
    | exact h
    | (cases hn; done)
    | (obtain ⟨cv, e, h⟩ := h; exact ⟨cv, e, RepL.noImm hn h⟩)
    | skip
theorem RepL.noImm : ∀ {ds : List D} {vs : List Value}, D.noImmL ds = true → RepL w M mu ds vs → RepL w M' mu ds vs
  | [], [], _, _ => by simp only [RepL]
  | [], _ :: _, _, h => by simp only [RepL] at h
  | _ :: _, [], _, h => by simp only [RepL] at h
  | d :: ds, v :: vs, hn, h => by
    simp only [D.noImmL, Bool.and_eq_true] at hn
    simp only [RepL] at h ⊢
    exact ⟨Rep.noImm hn.1 h.1, RepL.noImm hn.2 h.2⟩
end
theorem ContRep.noImm {c : Cont} {cv : List Value} (hn : c.noImm = true) (h : ContRep w M mu c cv) : ContRep w M' mu c cv := by
  cases c <;> simp [Cont.noImm] at hn <;> first | exact h | exact ⟨RepL.noImm hn h.1, h.2⟩
theorem RowOK.widen {F' : Nat → Prop} {id : Nat} {row : Row} (h : RowOK F w M mu id row) (hF : ∀ b, InB (mu id) b → row.wr = true → F' b) : RowOK F' w M mu id row := by
  obtain ⟨l, e, h⟩ := h
  refine ⟨l, e, ?_⟩
  cases l with
  | nowhere => exact h
  | mapAt b =>
    obtain ⟨arr, clock, h1, h2, h3, h6, h7⟩ := h
    exact ⟨arr, clock, h1, h2, h3, fun hw => ⟨(h6 hw).1, hF b (by rw [e]; rfl) hw⟩, h7⟩
  | nest b base size inn =>
    obtain ⟨cs, T, cv, fl, h1, h2, hfl, h3, h4, h5, h8, h6, h7⟩ := h
    exact ⟨cs, T, cv, fl, h1, h2, hfl, h3, h4, h5, h8, fun hw x hx => ⟨(h6 hw x hx).1, hF x (by rw [e]; exact hx) hw⟩, h7⟩
  | at_ b base size =>
    obtain ⟨cs, T, cv, h1, h2, h3, h4, h5, h6, h7⟩ := h
    exact ⟨cs, T, cv, h1, h2, h3, h4, h5, fun hw => ⟨(h6 hw).1, hF b (by rw [e]; rfl) hw⟩, h7⟩
theorem SR.own (h : SR G F w0 M0 w M mu tmps st) {i : Nat} {r : Row} (hr : st.rows i = some r) {b : Nat} (hb : InB (mu i) b) : b < w.heap.size ∧ (r.wr = true → M b ∧ F b) ∧ (r.wr = false → ¬ M b) := by
  exact (h.rows i r hr).block hb
theorem xid_inj {t i j : Nat} (hi : i < 40) (hj : j < 40) (h : xid t i = xid t j) : i = j := by
  unfold xid at h
  rw [Nat.mod_eq_of_lt hi, Nat.mod_eq_of_lt hj] at h
  omega
theorem z4z {t n i q : Nat} (hn : n ≤ 40) (h : (List.range n).find? (fun j => xid t j == i) = some q) : q < n ∧ xid t q = i := by
  have h1 := List.find?_some h
  have h2 := List.mem_of_find?_eq_some h
  exact ⟨List.mem_range.1 h2, by simpa using h1⟩
theorem zfz {t n q : Nat} (hn : n ≤ 40) (hq : q < n) : (List.range n).find? (fun j => xid t j == xid t q) = some q := by
  cases e : (List.range n).find? (fun j => xid t j == xid t q) with
  | none =>
    have := List.find?_eq_none.1 e q (List.mem_range.2 hq)
    simp at this
  | some q' =>
    obtain ⟨h1, h2⟩ := z4z hn e
    rw [xid_inj (by omega) (by omega) h2]
theorem z7m {t n i : Nat} (h : (List.range n).find? (fun j => xid t j == i) = none) : i ∉ outIds t n := by
  intro hm
  obtain ⟨q, hq, rfl⟩ := List.mem_map.1 hm
  have := List.find?_eq_none.1 h q hq
  simp at this
theorem z51 {ids : List Nat} {i j : Nat} (h : idx ids i = some j) : ids[j]? = some i := by
  unfold idx at h
  obtain ⟨hlt, hp, _⟩ := List.findIdx?_eq_some_iff_getElem.1 h
  rw [List.getElem?_eq_getElem hlt]
  simpa using hp
theorem z3q {ids : List Nat} (h : nodupB ids = true) {i j : Nat} (hj : ids[j]? = some i) : idx ids i = some j := by
  unfold nodupB at h
  rw [List.all_eq_true] at h
  have := h (i, j) (by rw [List.mem_iff_getElem?]; exact ⟨j, by simp [List.getElem?_zipIdx, hj]⟩)
  simpa using this
theorem SR.back (h : SR G F w0 M0 w M mu tmps st) (ids : List Nat) (dst : Nat) (r : Ret) (hnd : nodupB ids = true) (hrows : ∀ (j i : Nat), ids[j]? = some i → ∃ row, st.rows i = some row ∧ row.wr = true) (hlen : ids.length ≤ 1000)
    (hMc : ∀ b, Mc b → M b) (hmuc : ∀ (j i : Nat), ids[j]? = some i → muc (PB + j) = mu i) {v : Value}
    (hc : SR G (Fset w muc ids.length) w ⟨Mc, muc⟩ w' M' mu' #[v] ⟨[r.res], zn r⟩) (hpl : r.passed.length = ids.length) (ho : r.out.length ≤ 40) (hdis : ∀ i ∈ outIds dst r.out.length, i ∉ ids)
    (hup : (∀ b, M b → Mc b) ∨ (ids = [] ∧ r.res.noImm = true ∧ ∀ x ∈ r.out, x.wr = true ∧ x.c.noImm = true)) (gl : List Nat) (hgone : ∀ (j i : Nat), ids[j]? = some i → (r.passed[j]?).getD none = none → i ∈ gl) :
    ∃ M'' mu'', SR G F w0 M0 w' M'' mu'' tmps { (dropAll (gl ++ outIds dst r.out.length) st) with rows := zx ids dst r (dropAll (gl ++ outIds dst r.out.length) st).rows } ∧ Rep w' M'' mu'' (r.res.ren (outF ids dst r.out.length)) v ∧ ∀ i, i ∉ outIds dst r.out.length → mu'' i = mu i := by
  -- the blocks of what was handed over
  let Pass : Nat → Prop := fun b => ∃ j, j < ids.length ∧ InB (muc (PB + j)) b
  have hPass : ∀ b, Pass b → b < w.heap.size ∧ M b ∧ F b := by
    rintro b ⟨j, hj, hb⟩
    have hi := List.getElem?_eq_getElem hj
    obtain ⟨row, hr, hw⟩ := hrows j _ hi
    rw [hmuc j _ hi] at hb
    obtain ⟨o1, o2, _⟩ := h.own hr hb
    exact ⟨o1, (o2 hw).1, (o2 hw).2⟩
  have hkM : Keeps M w w' := hc.keeps.mono fun b hb hf => by
    rcases hf with h1 | h1
    · omega
    · exact (hPass b h1).2.1
  have hkF : Keeps F w w' := hc.keeps.mono fun b hb hf => by
    rcases hf with h1 | h1
    · omega
    · exact (hPass b h1).2.2
  let M2 : Nat → Prop := fun b => M' b ∨ (M b ∧ ¬ Pass b)
  have hM2 : ∀ b, b < w.heap.size → M2 b → M b := fun b hb hm => by
    rcases hm with h1 | h1
    · exact hMc b (hc.m1 b hb h1)
    · exact h1.1
  have hM2eq : (∀ b, M b → Mc b) → M2 = M' := fun hs => by
    funext b
    simp only [M2, eq_iff_iff]
    refine ⟨fun h => ?_, .inl⟩
    rcases h with h | ⟨h1, h2⟩
    · exact h
    · refine hc.m2 b (hs b h1) ?_
      rintro (h3 | h3)
      · have := h.mlt b h1; omega
      · exact h2 h3
  let mu2 : Nat → Option Loc := fun i => match (List.range r.out.length).find? (fun j => xid dst j == i) with
    | some q => mu' (XB + q)
    | none => mu i
  have hmu2 : ∀ i, i ∉ outIds dst r.out.length → mu2 i = mu i := fun i hi => by
    simp only [mu2]
    cases e : (List.range r.out.length).find? (fun j => xid dst j == i) with
    | none => rfl
    | some q =>
      obtain ⟨h1, h2⟩ := z4z ho e
      exact absurd (List.mem_map.2 ⟨q, List.mem_range.2 h1, h2⟩) hi
  have hmu2x : ∀ q, q < r.out.length → mu2 (xid dst q) = mu' (XB + q) := fun q hq => by simp only [mu2, zfz ho hq]
  clear_value mu2
  have pinned : ∀ j, j < ids.length → Pinned (PB + j) := fun j hj => ⟨Nat.le_add_right _ _, Nat.lt_of_le_of_lt (Nat.add_le_add_left (Nat.le_trans (Nat.le_of_lt hj) hlen) PB) (by decide)⟩
  have hlt : ∀ j i, ids[j]? = some i → j < ids.length := fun j i hi => by
    rcases Nat.lt_or_ge j ids.length with h | h
    · exact h
    · rw [List.getElem?_eq_none h] at hi; cases hi
  have hmu2p : ∀ j i, ids[j]? = some i → mu2 i = mu' (PB + j) := fun j i hi => by
    rw [hmu2 i (fun hm => hdis i hm (List.mem_of_getElem? hi)), ← hmuc j i hi]
    exact (hc.pin (PB + j) (pinned j (hlt j i hi))).symm
  have hout : ∀ q i, outF ids dst r.out.length q = some i → mu2 i = mu' q := fun q i e => by
    unfold outF at e
    split at e
    · rename_i hq
      split at e
      · rename_i hq2
        have e' := Option.some.inj e
        rw [← e']
        exact (hmu2x _ hq2).trans (congrArg mu' (z41 hq))
      · cases e
    · split at e
      · rename_i hq hq2
        exact (hmu2p _ _ e).trans (congrArg mu' (z41 hq2))
      · cases e
  -- the old state under the new account, in the old world
  have hpin : ∀ i ∈ outIds dst r.out.length, ¬ Pinned i := fun i hi => by
    obtain ⟨q, _, rfl⟩ := List.mem_map.1 hi
    exact xid_pin _ _
  have hs : SR G F w0 M0 w M mu2 tmps (dropAll (gl ++ outIds dst r.out.length) st) := by
    rw [zai]
    exact SR.dropAllTo _ hpin (h.dropAny gl) hmu2
  have hsrows := zfk (gl ++ outIds dst r.out.length) st
  generalize dropAll (gl ++ outIds dst r.out.length) st = s at hs hsrows ⊢
  -- which row is which
  have kind : ∀ i row, zx ids dst r s.rows i = some row →
      (∃ (q : Nat) (x : Row), q < r.out.length ∧ i = xid dst q ∧ r.out[q]? = some x ∧ row = x.ren (outF ids dst r.out.length)) ∨
      (∃ (j : Nat) (x : Row), ids[j]? = some i ∧ r.passed[j]? = some (some x) ∧ row = x.ren (outF ids dst r.out.length)) ∨
      (i ∉ ids ∧ i ∉ outIds dst r.out.length ∧ s.rows i = some row) := by
    intro i row hr
    unfold zx at hr
    split at hr
    · rename_i q hq
      obtain ⟨h1, h2⟩ := z4z ho hq
      obtain ⟨x, hx, rfl⟩ := Option.map_eq_some_iff.1 hr
      exact .inl ⟨q, x, h1, h2.symm, hx, rfl⟩
    · rename_i hq
      split at hr
      · rename_i j hj
        obtain ⟨x, hx, rfl⟩ := Option.map_eq_some_iff.1 hr
        refine .inr (.inl ⟨j, x, z51 hj, ?_, rfl⟩)
        cases e : r.passed[j]? with
        | none => rw [e] at hx; simp at hx
        | some y => rw [e] at hx; simp at hx; rw [hx]
      · rename_i hj
        refine .inr (.inr ⟨fun hm => ?_, z7m hq, hr⟩)
        obtain ⟨j, hj2⟩ := List.mem_iff_getElem?.1 hm
        rw [z3q hnd hj2] at hj
        cases hj
  have backRow : ∀ q x, (zn r) q = some x → RowOK (Fset w muc ids.length) w' M' mu' q x := fun q x hx => hc.rows q x hx
  have bX : ∀ (q : Nat) (x : Row), r.out[q]? = some x → zn r (XB + q) = some x := fun q x hx => by
    unfold zn
    rw [if_pos (Nat.le_add_right _ _), Nat.add_sub_cancel_left]
    exact hx
  have bP : ∀ (j : Nat) (x : Row), j < ids.length → r.passed[j]? = some (some x) → zn r (PB + j) = some x := fun j x hj hx => by
    unfold zn
    rw [if_neg (Nat.not_le.2 (pinned j hj).2), if_pos (Nat.le_add_right _ _), Nat.add_sub_cancel_left, hx]
    rfl
  -- facts carried up to M2
  have up0 : ∀ (q : Nat) (x : Row), zn r q = some x → (PB ≤ q ∧ q < XB → ids ≠ []) → (XB ≤ q → x ∈ r.out) → (XB ≤ q ∨ (PB ≤ q ∧ q < XB)) → RowOK (Fset w muc ids.length) w' M2 mu' q x := by
    intro q x hx hP hX hor
    rcases hup with hs | ⟨hnil, hres, hall⟩
    · rw [hM2eq hs]; exact backRow q x hx
    · have hXq : XB ≤ q := by
        rcases hor with h | h
        · exact h
        · exact absurd hnil (hP h)
      obtain ⟨hw, hn⟩ := hall x (hX hXq)
      obtain ⟨l, e, hh⟩ := backRow q x hx
      refine ⟨l, e, ?_⟩
      cases l with
      | nowhere => exact ContRep.noImm hn hh
      | mapAt b =>
        obtain ⟨arr, clock, h1, h2, h3, h6, h7⟩ := hh
        exact ⟨arr, clock, h1, h2, h3.noImm hn, fun hw => ⟨.inl (h6 hw).1, (h6 hw).2⟩, fun hf => by rw [hw] at hf; cases hf⟩
      | nest b base size inn =>
        obtain ⟨cs, T, cv, fl, h1, h2, hfl, h3, h4, h5, h8, h6, h7⟩ := hh
        exact ⟨cs, T, cv, fl, h1, h2, hfl, h3, h4, h5, h8, fun hw y hy => ⟨.inl (h6 hw y hy).1, (h6 hw y hy).2⟩, fun hf => by rw [hw] at hf; cases hf⟩
      | at_ b base size =>
        obtain ⟨cs, T, cv, h1, h2, h3, h4, h5, h6, h7⟩ := hh
        exact ⟨cs, T, cv, h1, h2, h3.noImm hn, h4, h5, fun hw => ⟨.inl (h6 hw).1, (h6 hw).2⟩, fun hf => by rw [hw] at hf; cases hf⟩
  have upRow : ∀ (q i : Nat) (x : Row), zn r q = some x → mu2 i = mu' q → (PB ≤ q ∧ q < XB → ids ≠ []) → (XB ≤ q → x ∈ r.out) → (XB ≤ q ∨ (PB ≤ q ∧ q < XB)) → RowOK F w' M2 mu2 i (x.ren (outF ids dst r.out.length)) := by
    intro q i x hx hi hP hX hor
    refine ((up0 q x hx hP hX hor).ren (id' := i) hout hi).widen fun b hb hw => ?_
    rw [hi] at hb
    obtain ⟨o1, o2, _⟩ := hc.own hx hb
    rcases (o2 hw).2 with h2 | h2
    · exact h.fr b (Nat.le_trans h.keeps.size h2)
    · exact (hPass b h2).2.2
  have resUp : Rep w' M2 mu' r.res v := by
    have h0 := hc.env
    simp only [RepL] at h0
    rcases hup with hs | ⟨hnil, hres, hall⟩
    · rw [hM2eq hs]; exact h0.1
    · exact Rep.noImm hres h0.1
  have mem_of : ∀ {q : Nat} {x : Row}, r.out[q]? = some x → x ∈ r.out := fun h => List.mem_of_getElem? h
  -- an old row that was not handed over: its block is left alone
  have oldBlock : ∀ i row b, i ∉ ids → s.rows i = some row → row.wr = true → InB (mu2 i) b → b < w.heap.size ∧ M b ∧ ¬ Fset w muc ids.length b := by
    intro i row b hi hr hw hb
    obtain ⟨o1, o2, _⟩ := hs.own hr hb
    refine ⟨o1, (o2 hw).1, ?_⟩
    rintro (h1 | ⟨j, hj, hbj⟩)
    · omega
    · have hij := List.getElem?_eq_getElem hj
      obtain ⟨row', hr', hw'⟩ := hrows j _ hij
      rw [hmuc j _ hij] at hbj
      -- the row handed over may have been given up in s; compare in st
      obtain ⟨r0, e0, w0'⟩ := (hsrows i).2 row hr
      have hio : i ∉ outIds dst r.out.length := fun hm => by
        have := (hsrows i).1 (List.mem_append.2 (.inr hm))
        rw [hr] at this; cases this
      rw [hmu2 i hio] at hb
      exact h.apart i ids[j] r0 row' b (fun e => hi (e ▸ List.mem_of_getElem? hij)) e0 hr' (w0' ▸ hw) hw' hb hbj
  refine ⟨M2, mu2, { env := RepL.keeps hkM hM2 (fun _ _ e => e) _ hs.env, rows := ?_, apart := ?_, keeps := h.keeps.trans hkF, m1 := fun b hb hm => h.m1 b hb (hM2 b (Nat.lt_of_lt_of_le hb h.keeps.size) hm), m2 := ?_, mlt := ?_, fr := h.fr, glob := fun g d hg => Rep.keeps hkM hM2 (fun _ _ h => h) d (h.glob g d hg), pin := hs.pin }, Rep.ren hout _ resUp, hmu2⟩
  · intro i row hr
    rcases kind i row hr with ⟨q, x, hq, rfl, hx, rfl⟩ | ⟨j, x, hj, hx, rfl⟩ | ⟨h1, h2, h3⟩
    · exact upRow (XB + q) _ x (bX q x hx) (hmu2x q hq) (fun hh => absurd hh.2 (Nat.not_lt.2 (Nat.le_add_right _ _))) (fun _ => mem_of hx) (.inl (Nat.le_add_right _ _))
    · have hjl := hlt j i hj
      exact upRow (PB + j) _ x (bP j x hjl hx) (hmu2p j i hj) (fun _ e => by rw [e] at hj; simp at hj) (fun hh => absurd hh (Nat.not_le.2 (pinned j hjl).2)) (.inr (pinned j hjl))
    · refine (hs.rows i row h3).keeps hkM hM2 (fun _ _ e => e) fun b hb hw => ?_
      obtain ⟨o1, o2, o3⟩ := oldBlock i row b h1 h3 hw hb
      exact ⟨hc.keeps.block b o1 o3, .inr ⟨o2, fun hp => o3 (.inr hp)⟩⟩
  · -- apart
    have newBlock : ∀ i row b, (∃ q x, zn r q = some x ∧ mu2 i = mu' q ∧ row = x.ren (outF ids dst r.out.length)) → row.wr = true → InB (mu2 i) b → Fset w muc ids.length b := by
      rintro i row b ⟨q, x, hx, hm, rfl⟩ hw hb
      rw [hm] at hb
      exact ((hc.own hx hb).2.1 hw).2
    have toBack : ∀ i row, zx ids dst r s.rows i = some row → (∃ q x, zn r q = some x ∧ mu2 i = mu' q ∧ row = x.ren (outF ids dst r.out.length) ∧ outF ids dst r.out.length q = some i) ∨ (i ∉ ids ∧ i ∉ outIds dst r.out.length ∧ s.rows i = some row) := by
      intro i row hr
      rcases kind i row hr with ⟨q, x, hq, rfl, hx, rfl⟩ | ⟨j, x, hj, hx, rfl⟩ | h3
      · refine .inl ⟨XB + q, x, bX q x hx, hmu2x q hq, rfl, ?_⟩
        unfold outF
        rw [if_pos (Nat.le_add_right _ _), Nat.add_sub_cancel_left, if_pos hq]
      · have hjl := hlt j i hj
        refine .inl ⟨PB + j, x, bP j x hjl hx, hmu2p j i hj, rfl, ?_⟩
        unfold outF
        rw [if_neg (Nat.not_le.2 (pinned j hjl).2), if_pos (Nat.le_add_right _ _), Nat.add_sub_cancel_left]
        exact hj
      · exact .inr h3
    intro i j ri rj b hij hi hj mi mj bi bj
    rcases toBack i ri hi with ⟨q, x, hx, hm, rfl, hq⟩ | ⟨i1, i2, i3⟩ <;> rcases toBack j rj hj with ⟨q', x', hx', hm', rfl, hq'⟩ | ⟨j1, j2, j3⟩
    · refine hc.apart q q' x x' b (fun e => ?_) hx hx' mi mj (by rw [← hm]; exact bi) (by rw [← hm']; exact bj)
      rw [e, hq'] at hq
      cases hq
      exact hij rfl
    · exact (oldBlock j rj b j1 j3 mj bj).2.2 (newBlock i _ b ⟨q, x, hx, hm, rfl⟩ mi bi)
    · exact (oldBlock i ri b i1 i3 mi bi).2.2 (newBlock j _ b ⟨q', x', hx', hm', rfl⟩ mj bj)
    · exact hs.apart i j ri rj b hij i3 j3 mi mj bi bj
  · intro b hb hF
    refine .inr ⟨h.m2 b hb hF, fun hp => hF (hPass b hp).2.2⟩
  · intro b hb
    rcases hb with h1 | h1
    · exact hc.mlt b h1
    · exact Nat.lt_of_lt_of_le (h.mlt b h1.1) hc.keeps.size
end
end Go.PR

end

section
namespace Go.PR
open Go
section
variable {P : Program} {X : Ctx} {G : Nat → Option D} {F : Nat → Prop} {w0 w w' : World} {M0 : Entry} {M M' Mc : Nat → Prop} {mu mu' muc : Nat → Option Loc} {tmps : Array Value} {a : Act} {st : St}
theorem zc3 {α β : Type} {f : α → Option β} : ∀ {l : List α} {l' : List β}, mapO f l = some l' → ∀ (i : Nat) (x : α), l[i]? = some x → ∃ y, l'[i]? = some y ∧ f x = some y
  | [], l', h, i, x, e => by simp at e
  | x' :: l, l', h, i, x, e => by
    simp only [mapO] at h
    split at h
    · rename_i b bs h1 h2
      cases h
      cases i with
      | zero => simp at e; subst e; exact ⟨b, by simp, h1⟩
      | succ i => simpa using zc3 h2 i x (by simpa using e)
    · cases h
theorem z5r : ∀ {ds : List D} {vs : List Value}, ds.all D.isCell = true → RepL w M mu ds vs → ∀ u ∈ vs, u.oneCell' = true
  | [], [], _, _ => by simp
  | [], _ :: _, _, h => by simp only [RepL] at h
  | _ :: _, [], _, h => by simp only [RepL] at h
  | d :: ds, v :: vs, hc, h => by
    simp only [List.all_cons, Bool.and_eq_true] at hc
    simp only [RepL] at h
    intro u hu
    rcases List.mem_cons.1 hu with rfl | hu
    · have h0 := h.1
      have hcell : ∀ (l : Loc) (o : Nat), l.cell o u → u.oneCell' = true := fun l o hl => by
        cases l with
        | nowhere => cases hl
        | mapAt b => cases hl
        | nest => cases hl
        | at_ b base size => simp only [Loc.cell] at hl; rw [hl]; rfl
      have hsl : ∀ (l : Loc) (o n : Nat), l.slice o n u → u.oneCell' = true := fun l o n hl => by
        cases l with
        | nowhere => obtain ⟨_, A, rfl⟩ := hl; rfl
        | mapAt b => exact hl.elim
        | nest => exact hl.elim
        | at_ b base size => rcases hl with ⟨_, _, A, rfl⟩ | ⟨c, rfl, _⟩ <;> rfl
      cases d <;> simp [D.isCell] at hc <;> simp only [Rep] at h0
      case nil => obtain ⟨A, rfl, _⟩ := h0; rfl
      case bool => subst h0; rfl
      case int => subst h0; rfl
      case str => subst h0; rfl
      case fn => obtain ⟨cv, rfl, _⟩ := h0; rfl
      case immI => obtain ⟨A, c, rfl, _⟩ := h0; rfl
      case immB => obtain ⟨A, c, rfl, _⟩ := h0; rfl
      case imm2 => obtain ⟨cv, _, A, c, rfl, _⟩ := h0; rfl
      case immG => obtain ⟨cv, _, _, A, c, rfl, _⟩ := h0; rfl
      case immR => obtain ⟨A, c, cv, rfl, _⟩ := h0; rfl
      case pim => obtain ⟨ad, cv, rfl, _⟩ := h0; rfl
      case ptr => obtain ⟨l, _, hl⟩ := h0; exact hcell l _ hl
      case pel => obtain ⟨l, _, hl⟩ := h0; exact hcell l _ hl
      case rsl => obtain ⟨l, _, hl⟩ := h0; exact hsl l _ _ hl
      case mpr => obtain ⟨b, _, rfl⟩ := h0; rfl
      case npe => obtain ⟨l, _, h0⟩ := h0; obtain ⟨a, rfl⟩ := Loc.ocell_form h0; rfl
      case nep => obtain ⟨l, _, h0⟩ := h0; obtain ⟨a, rfl⟩ := Loc.icell_form h0; rfl
      case nsl => obtain ⟨l, _, h0⟩ := h0; obtain ⟨A, c, rfl, _⟩ := Loc.outer_form h0; rfl
      case nel => obtain ⟨l, _, h0⟩ := h0; obtain ⟨A, c, rfl, _⟩ := Loc.inner_form h0; rfl
      case rcs => obtain ⟨l, _, h0⟩ := h0; obtain ⟨A, c, rfl, _⟩ := Loc.recs_form h0; rfl
      case rpe => obtain ⟨l, _, h0⟩ := h0; exact hcell l _ h0
    · exact z5r hc.2 h.2 u hu
theorem zf2 {cl : FuncId → List D → List Row → Option Ret} (hcl : ∀ f args prows r, cl f args prows = some r → Sound P X f args prows r) (h : SR X.glob F w0 M0 w M mu tmps st) {dst : Nat} {f : FuncId} {args : List D} {vs : List Value} (hr : RepL w M mu args vs) {d : D} {st' : St}
    (hd : callD X cl dst f args st = some (d, st')) : Calls P f vs.toArray w fun e w' => ∃ v M' mu', e = .returned v ∧ SR X.glob F w0 M0 w' M' mu' tmps st' ∧ Rep w' M' mu' d v := by
  unfold callD at hd
  split at hd
  · -- the rows themselves are handed over
    dsimp only at hd
    generalize reach st.rows args = ids at hd
    split at hd
    case h_2 => cases hd
    rename_i rows hrows
    split at hd
    case isFalse => cases hd
    rename_i hcond
    simp only [Bool.and_eq_true, decide_eq_true_eq] at hcond
    obtain ⟨⟨hwr, hlen⟩, hnd⟩ := hcond
    split at hd
    case h_2 => cases hd
    rename_i r hcall
    split at hd
    case isFalse => cases hd
    rename_i hcond2
    simp only [Bool.and_eq_true, decide_eq_true_eq] at hcond2
    obtain ⟨⟨hpl, hol⟩, hdis⟩ := hcond2
    cases hd
    obtain ⟨hrl, hrg⟩ := z8d hrows
    have hra := zc3 hrows
    let muc : Nat → Option Loc := fun i => if PB ≤ i then (match ids[i - PB]? with | some q => mu q | none => none) else none
    have hmuc : ∀ (j i : Nat), ids[j]? = some i → muc (PB + j) = mu i := fun j i hi => by
      simp only [muc, if_pos (Nat.le_add_right PB j), Nat.add_sub_cancel_left, hi]
    clear_value muc
    have hin : ∀ q i, inF ids q = some i → muc i = mu q := fun q i e => by
      unfold inF at e
      obtain ⟨j, hj, e'⟩ := Option.map_eq_some_iff.1 e
      rw [← e']
      exact hmuc j q (z51 hj)
    have hrow : ∀ (j i : Nat), ids[j]? = some i → ∃ row, rows[j]? = some row ∧ st.rows i = some row ∧ row.wr = true := fun j i hi => by
      obtain ⟨row, h1, h2⟩ := hra j i hi
      exact ⟨row, h1, h2, (List.all_eq_true.1 hwr) row (List.mem_of_getElem? h1)⟩
    have hlenr : (rows.map (·.ren (inF ids))).length = ids.length := by simp [hrl]
    have hentry : SR X.glob (Fset w muc ids.length) w ⟨M, muc⟩ w M muc vs.toArray ⟨D.renL (inF ids) args, rowsIn (rows.map (·.ren (inF ids)))⟩ := by
      have rowOf : ∀ i ri, rowsIn (rows.map (·.ren (inF ids))) i = some ri → ∃ j q row, i = PB + j ∧ ids[j]? = some q ∧ st.rows q = some row ∧ row.wr = true ∧ ri = row.ren (inF ids) ∧ j < ids.length := by
        intro i ri hi
        unfold rowsIn at hi
        split at hi
        · rename_i hPB
          rw [List.getElem?_map] at hi
          obtain ⟨row, h1, h2⟩ := Option.map_eq_some_iff.1 hi
          obtain ⟨q, h3, h4⟩ := hrg _ row h1
          refine ⟨i - PB, q, row, (z41 hPB).symm, h3, h4, (List.all_eq_true.1 hwr) row (List.mem_of_getElem? h1), h2.symm, ?_⟩
          rcases Nat.lt_or_ge (i - PB) ids.length with h | h
          · exact h
          · rw [List.getElem?_eq_none h] at h3; cases h3
        · cases hi
      refine { env := by simpa using RepL.ren hin args hr, rows := ?_, apart := ?_, keeps := Keeps.refl _ _, m1 := fun _ _ h => h, m2 := fun _ h _ => h, mlt := h.mlt, fr := fun _ h => .inl h, glob := h.glob, pin := fun _ _ => rfl }
      · intro i ri hi
        obtain ⟨j, q, row, rfl, h1, h2, h3, rfl, h4⟩ := rowOf i ri hi
        refine ((h.rows q row h2).ren (id' := PB + j) hin (hmuc j q h1)).widen fun b hb hw => .inr ⟨j, h4, hb⟩
      · intro i j ri rj b hij hi hj mi mj bi bj
        obtain ⟨j1, q1, row1, rfl, h1, h2, h3, rfl, h4⟩ := rowOf i ri hi
        obtain ⟨j2, q2, row2, rfl, g1, g2, g3, rfl, g4⟩ := rowOf j rj hj
        rw [hmuc j1 q1 h1] at bi
        rw [hmuc j2 q2 g1] at bj
        refine h.apart q1 q2 row1 row2 b (fun e => ?_) h2 g2 h3 g3 bi bj
        have e1 := z3q hnd h1
        have e2 := z3q hnd g1
        rw [e, e2] at e1
        cases e1
        exact hij rfl
    have hsound := hcl f _ _ r hcall w M muc vs (by rw [hlenr]; exact hentry)
    rw [hlenr] at hsound
    refine hsound.mono ?_
    rintro e w' ⟨v, M', mu', rfl, hc⟩
    obtain ⟨M'', mu'', k1, k2, _⟩ := h.back ids dst r hnd (fun j i hi => by obtain ⟨row, _, h2, h3⟩ := hrow j i hi; exact ⟨row, h2, h3⟩) hlen (fun _ h => h) hmuc hc hpl hol
      (fun i hi hm => by have := (List.all_eq_true.1 hdis) i hi; simp at this; exact this hm) (.inl fun _ h => h) (gone ids r) (fun j i hi hp => by
        unfold gone
        rw [List.mem_filterMap]
        refine ⟨(i, j), by rw [List.mem_iff_getElem?]; exact ⟨j, by simp [List.getElem?_zipIdx, hi]⟩, ?_⟩
        cases e : r.passed[j]? with
        | none => simp [e]
        | some y => cases y with
          | none => simp [e]
          | some z => rw [e] at hp; cases hp)
    exact ⟨v, M'', mu'', rfl, k1, k2⟩
  · -- only what they hold
    dsimp only at hd
    generalize reach st.rows args = Z at hd
    split at hd
    case h_2 => cases hd
    rename_i args' hargs
    split at hd
    case h_2 => cases hd
    rename_i r hcall
    split at hd
    case isFalse => cases hd
    rename_i hcond
    simp only [Bool.and_eq_true, decide_eq_true_eq, List.isEmpty_iff] at hcond
    obtain ⟨hpn, hol⟩ := hcond
    cases hd
    let Mc := Less M mu st.rows Z
    have hargs' : RepL w Mc mu0 args' vs := z3o (fun d d' v e hv => z3t h Z mu0 _ d d' v e hv) hargs hr
    have hentry : SR X.glob (Fset w mu0 0) w ⟨Mc, mu0⟩ w Mc mu0 vs.toArray ⟨args', rowsIn []⟩ := by
      have none_ : ∀ i, rowsIn [] i = none := fun i => by unfold rowsIn; split <;> simp
      exact { env := by simpa using hargs', rows := (fun i ri hi => absurd ((none_ i).symm.trans hi) (by simp)), apart := (fun i j ri rj b _ hi => absurd ((none_ i).symm.trans hi) (by simp)), keeps := Keeps.refl _ _, m1 := fun _ _ h => h, m2 := fun _ h _ => h, mlt := fun b hb => h.mlt b hb.1, fr := fun _ h => .inl h, glob := fun g d hg => Rep.keeps (Keeps.refl _ _) (fun _ _ hb => hb.1) (fun _ _ h => h) d (h.glob g d hg), pin := fun _ _ => rfl }
    have hsound := hcl f _ _ r hcall w Mc mu0 vs hentry
    refine hsound.mono ?_
    rintro e w' ⟨v, M', mu', rfl, hc⟩
    have nd0 : nodupB [] = true := rfl
    split
    · -- nothing is frozen
      rename_i hz
      have hup : (∀ b, M b → Mc b) ∨ (([] : List Nat) = [] ∧ r.res.noImm = true ∧ ∀ x ∈ r.out, x.wr = true ∧ x.c.noImm = true) := by
        simp only [Bool.or_eq_true, List.isEmpty_iff, Bool.and_eq_true, List.all_eq_true] at hz
        rcases hz with rfl | ⟨h1, h2⟩
        · left; intro b hb; show Less M mu st.rows [] b; rw [z89 rfl]; exact hb
        · exact .inr ⟨rfl, h1, fun x hx => by have := h2 x hx; simpa using this⟩
      obtain ⟨M'', mu'', k1, k2, _⟩ := h.back [] dst r nd0 (fun j i hi => by simp at hi) (by simp) (fun b hb => hb.1) (fun j i hi => by simp at hi) hc (by simp [hpn]) hol (fun i _ => by simp) hup [] (fun j i hi => by simp at hi)
      exact ⟨v, M'', mu'', rfl, by simpa using k1, k2⟩
    · have hf := h.freeze Z
      obtain ⟨M'', mu'', k1, k2, _⟩ := hf.back [] dst r nd0 (fun j i hi => by simp at hi) (by simp) (Mc := Mc) (fun b hb => hb) (fun j i hi => by simp at hi) hc (by simp [hpn]) hol (fun i _ => by simp) (.inl fun _ h => h) [] (fun j i hi => by simp at hi)
      exact ⟨v, M'', mu'', rfl, by simpa using k1, k2⟩
theorem SR.setDst (h : SR X.glob F w0 M0 w M mu a.tmps st) {d : D} {v : Value} (hv : Rep w M mu d v) (dst : Option Tmp) : SR X.glob F w0 M0 w M mu (a.put dst v).tmps (st.setD dst d) := by
  cases dst with
  | none => exact h
  | some t => exact h.put hv t
theorem zf (a : Act) (dst : Option Tmp) (v : Value) : (a.put dst v).defers = a.defers := by cases dst <;> rfl
def After (X : Ctx) (F : Nat → Prop) (w0 : World) (M0 : Entry) (df : List Deferred) (st : St) (a : Act) (w : World) : Prop := a.defers = df ∧ ∃ M mu, SR X.glob F w0 M0 w M mu a.tmps st
theorem z8g {kk : MK} {key : Int × Int} : ∀ {es : List MEnt} {j i : Nat} {v : Int}, mfind kk key es j = some (i, v) → ∃ n, i = j + n ∧ ∃ h : n < es.length, kk.same key es[n].1 = true ∧ v = es[n].2
  | [], _, _, _, h => by simp [mfind] at h
  | p :: es, j, i, v, h => by
    simp only [mfind] at h
    split at h
    · rename_i hs
      cases h
      exact ⟨0, rfl, by simp, hs, rfl⟩
    · obtain ⟨n, rfl, hn, h1, h2⟩ := z8g h
      exact ⟨n + 1, by omega, by simpa using hn, by simpa using h1, by simpa using h2⟩
theorem zd1 (w : World) (b : Nat) (o : Obj) : Keeps (fun x => x = b) w { w with heap := w.heap.setIfInBounds b o } :=
  ⟨rfl, rfl, rfl, by simp, fun x _ hn => Array.getElem?_setIfInBounds_ne (fun e => hn e.symm)⟩
theorem zd0 {w : World} {b : Nat} {o0 : Obj} (h : w.heap[b]? = some o0) (o : Obj) : ({ w with heap := w.heap.setIfInBounds b o } : World).heap[b]? = some o := by
  have hlt := (Array.getElem?_eq_some_iff.1 h).1
  show (w.heap.setIfInBounds b o)[b]? = _
  rw [Array.getElem?_setIfInBounds_self_of_lt hlt]
theorem zpb {vk : MV} {d : D} {x : Int} {v : Value} (h : valD vk d = some x) (hv : Rep w M mu d v) : v = vk.val x := by
  cases vk with
  | int k => cases d <;> simp only [valD] at h <;> first | (cases h; done) | skip
             split at h
             case isFalse => cases h
             rename_i hk
             cases h
             subst hk
             simpa only [Rep, MV.val] using hv
  | bool => cases d <;> simp only [valD] at h <;> first | (cases h; done) | skip
            rename_i b
            cases h
            simp only [Rep] at hv
            rw [hv]
            cases b <;> rfl
theorem zc5 (hX : XOK P X) (h : SR X.glob F w0 M0 w M mu a.tmps st) {t ke el : TypeId} {s b : Nat} {z : List D} (ht : X.tt t = some ⟨.map ke el, s, b, z⟩) {m k x : D} {vm vk vx : Value}
    (hm : Rep w M mu m vm) (hk : Rep w M mu k vk) (hx : Rep w M mu x vx) {st' : St} (hs : mapPut X ke el st m k x = some st') :
    ∃ w', (Instr.mapUpdate t vm vk vx).run P w = .ok () w' ∧ SR X.glob F w0 M0 w' M mu a.tmps st' := by
  have hu := (hX.tt _ _ ht).kind
  simp only [KindOK] at hu
  unfold mapPut at hs
  split at hs
  case h_2 => cases hs
  rename_i kk mv r hkv
  split at hs
  case h_2 => cases hs
  rename_i kk' mv' es hrow
  split at hs
  case isFalse => cases hs
  rename_i hkk
  obtain ⟨rfl, rfl⟩ := hkk
  split at hs
  case h_2 => cases hs
  rename_i key n hkey hval
  cases hs
  obtain ⟨huk, _⟩ := zc1 hX hkv
  obtain ⟨bl, arr, clock, rfl, hb, hrep, hmu, _⟩ := map_at h hm hrow
  obtain rfl := zbi hkey hk
  obtain rfl := zpb hval hx
  have hf := zar huk key hrep w
  have hrep' : arr.toList.map (fun e => (e.key, e.val)) = es.map fun p => (kk.val p.1, mv.val p.2) := hrep
  unfold mset
  cases hf2 : mfind kk key es 0 with
  | none =>
    rw [hf2] at hf
    refine ⟨_, by simp [Instr.mapUpdate, run_underlying hu, getObj, setObj, Sem.run, hb, z5g huk, hf]; rfl, ?_⟩
    refine h.writeMap hrow rfl hmu (zd1 w bl _) (zd0 hb _) ?_
    show (arr.push _).toList.map (fun e => (e.key, e.val)) = _
    rw [Array.toList_push, List.map_append, List.map_append, hrep']
    rfl
  | some p =>
    obtain ⟨i, old⟩ := p
    rw [hf2] at hf
    obtain ⟨j, hij, hj, hsame, _⟩ := z8g hf2
    obtain rfl : i = j := by omega
    have hlen : arr.size = es.length := by
      have := congrArg List.length hrep'
      simpa using this
    have hi : i < arr.size := by omega
    have hkeyi : arr[i].key = kk.val es[i].1 := by
      have := congrArg (fun l => l[i]?) hrep'
      simp only [List.getElem?_map, Array.getElem?_toList, Array.getElem?_eq_getElem hi, List.getElem?_eq_getElem hj, Option.map_some, Option.some.injEq, Prod.mk.injEq] at this
      exact this.1
    have heq : kk.val es[i].1 = kk.val key := by
      cases kk with
      | int q => have : key.1 = es[i].1.1 := by simpa [MK.same] using hsame
                 simp [MK.val, this]
      | str => have : decS key.1 = decS es[i].1.1 := ba_beq.1 (by simpa [MK.same] using hsame)
               simp [MK.val, this]
      | two q => have : key.1 = es[i].1.1 ∧ key.2 = es[i].1.2 := by simpa [MK.same] using hsame
                 simp [MK.val, this.1, this.2]
    have hstay : (Instr.keyThatStays (((arr[i]?).map (·.key)).getD (kk.val key)) (kk.val key)).run P w = .ok (kk.val key) w := by
      rw [Array.getElem?_eq_getElem hi]
      simp only [Option.map_some, Option.getD_some, hkeyi, heq]
      cases kk <;> simp [Instr.keyThatStays, MK.val, Instr.sameBits, ba_beq]
    refine ⟨_, by simp [Instr.mapUpdate, run_underlying hu, getObj, setObj, Sem.run, hb, z5g huk, hf, hstay]; rfl, ?_⟩
    refine h.writeMap hrow rfl hmu (zd1 w bl _) (zd0 hb _) ?_
    show (arr.modify i _).toList.map (fun e => (e.key, e.val)) = _
    apply List.ext_getElem?
    intro j
    simp only [List.getElem?_map, Array.getElem?_toList, Array.getElem?_modify, List.getElem?_set]
    have hj' := congrArg (fun l => l[j]?) hrep'
    simp only [List.getElem?_map, Array.getElem?_toList] at hj'
    by_cases hji : i = j
    · subst hji
      simp [hi, hj, Array.getElem?_eq_getElem hi, MK.val]
    · simp only [if_neg hji]
      exact hj'
theorem SR.buildR {sh : List FK} : ∀ (ds : List D) {M : Nat → Prop} {st s : St} {vs : List Value} {ps : List Rcd}, SR X.glob F w0 M0 w M mu a.tmps st → Go.PR.buildR sh ds st = some (ps, s) → RepL w M mu ds vs →
    ∃ M', (∀ b, M' b → M b) ∧ SR X.glob F w0 M0 w M' mu a.tmps s ∧ rcdsRep w M' sh ps (vs.map fun v => v.cells.toList).flatten ∧ ps.length = ds.length ∧ ∀ v ∈ vs, v.cells.size = sh.length
  | [], M, st, s, vs, ps, h, hb, hr => by
    simp only [Go.PR.buildR] at hb
    cases hb
    cases vs with
    | nil => exact ⟨M, fun _ h => h, h, by simp [rcdsRep], rfl, by simp⟩
    | cons => simp only [RepL] at hr
  | d :: ds, M, st, s, [], ps, h, hb, hr => by simp only [RepL] at hr
  | d :: ds, M, st, s, v :: vs, ps, h, hb, hr => by
    simp only [RepL] at hr
    simp only [Go.PR.buildR] at hb
    split at hb
    case h_2 => cases hb
    rename_i cells s1 hs
    split at hb
    case h_2 => cases hb
    rename_i p hp
    obtain ⟨⟨ps', s'⟩, hb', e⟩ := Option.map_eq_some_iff.1 hb
    cases e
    obtain ⟨M1, m1, g1, g2⟩ := h.settle hs hr.1
    have hds := RepL.keeps (mu' := mu) (Keeps.refl _ w) (fun b _ hb => m1 b hb) (fun _ _ h => h) ds hr.2
    obtain ⟨M2, m2, k1, k2, k3, k4⟩ := SR.buildR ds g1 hb' hds
    have hv := g2 mu
    simp only [Rep] at hv
    obtain ⟨cv, rfl, hcv⟩ := hv
    have hrc := z56 hp hcv
    have hlen := (rcdRep.cells (mu' := mu0) hrc).2
    refine ⟨M2, fun b hb => m1 b (m2 b hb), k1, ⟨cv, _, by simp [Value.cells], hrc.keeps (Keeps.refl _ _) (fun b _ hb => m2 b hb), k2⟩, by simp [k3], fun u hu => ?_⟩
    rcases List.mem_cons.1 hu with rfl | hu
    · simpa [Value.cells] using hlen
    · exact k4 u hu
theorem zan (sz : Nat) : ∀ (vs : List Value) (k : Nat) (cells : Array Value), (∀ v ∈ vs, v.cells.size = sz) → (k + vs.length) * sz ≤ cells.size →
    ∃ cells', Instr.fill (fun i => some (i * sz, sz)) cells ((vs.zipIdx k).map fun p => (p.2, p.1)) = some cells' ∧ (∀ j, j < (vs.map fun v => v.cells.toList).flatten.length → cells'[k * sz + j]? = ((vs.map fun v => v.cells.toList).flatten)[j]?) ∧ (∀ j, j < k * sz → cells'[j]? = cells[j]?) ∧ cells'.size = cells.size
  | [], k, cells, _, _ => ⟨cells, by simp [Instr.fill], by simp, fun _ _ => rfl, rfl⟩
  | v :: vs, k, cells, h1, hl => by
    have hv := h1 v (by simp)
    have hl1 : k * sz + sz ≤ cells.size := by
      have : (k + 1) * sz ≤ (k + (v :: vs).length) * sz := Nat.mul_le_mul_right _ (by simp)
      rw [Nat.succ_mul] at this
      omega
    have hset := z90 (cs := cells.toList) v.cells.toList (k * sz) (by simpa [hv] using hl1)
    have hfold : v.cells.zipIdx.foldl (fun (cs : Array Value) (p : Value × Nat) => cs.setIfInBounds (k * sz + p.2) p.1) cells = (v.cells.toList.zipIdx.foldl (fun (c : Array Value) (p : Value × Nat) => c.setIfInBounds (k * sz + p.2) p.1) cells.toList.toArray) := by
      simp only [← Array.foldl_toList, Array.toList_zipIdx]
    have hsize : (v.cells.toList.zipIdx.foldl (fun (c : Array Value) (p : Value × Nat) => c.setIfInBounds (k * sz + p.2) p.1) cells.toList.toArray).size = cells.size := by
      have : ∀ (l : List (Value × Nat)) (c : Array Value), (l.foldl (fun (c : Array Value) (p : Value × Nat) => c.setIfInBounds (k * sz + p.2) p.1) c).size = c.size := by
        intro l
        induction l with
        | nil => intro c; rfl
        | cons x l ih => intro c; rw [List.foldl_cons, ih]; simp
      rw [this]
    obtain ⟨cells', e1, e3, e4, e5⟩ := zan sz vs (k + 1) _ (fun u hu => h1 u (by simp [hu])) (by rw [hsize]; simpa [Nat.add_assoc, Nat.add_comm 1] using hl)
    refine ⟨cells', ?_, fun j hj => ?_, fun j hj => ?_, e5.trans hsize⟩
    · rw [← e1, ← hfold, List.zipIdx_cons, List.map_cons]
      conv => lhs; unfold Instr.fill
      simp only
      rw [if_neg (by rw [hv]; simp; omega)]
    · simp only [List.map_cons, List.flatten_cons] at hj ⊢
      by_cases hjs : j < sz
      · rw [e4 _ (by rw [Nat.succ_mul]; omega), ← Array.getElem?_toList, hset, if_pos (by simp [hv]; omega), List.getElem?_append_left (by simpa [hv] using hjs)]
        congr 1; omega
      · rw [List.getElem?_append_right (by simpa [hv] using hjs)]
        have := e3 (j - sz) (by simp [hv] at hj ⊢; omega)
        rw [Nat.succ_mul, show k * sz + sz + (j - sz) = k * sz + j by omega] at this
        rw [this]
        congr 1
        simp [hv]
    · rw [e4 _ (by rw [Nat.succ_mul]; omega), ← Array.getElem?_toList, hset, if_neg (by omega)]
      simp
theorem z9m (w : World) (o : Obj) : Keeps (fun _ => False) w (w.alloc o) := Keeps.alloc _ w o
theorem za4 (hX : XOK P X) {t e : TypeId} {ei : TI} (hu : P.underlying t = some (.slice e)) (he : X.tt e = some ei) {vs : List Value} (h1 : ∀ v ∈ vs, v.cells.size = ei.size) (h0 : vs.length ≤ 1000) (parts : Array (Nat × Value))
    (hp : parts.toList = (vs.zipIdx 0).map fun p => (p.2, p.1)) (hsz : ei.size ≤ 1000) :
    ∃ cells, (Instr.buildSlice t vs.length parts).run P w = .ok (.slice (some ⟨w.heap.size, 0, none⟩) vs.length vs.length) (w.alloc (.cells cells e)) ∧
      (∀ j, j < (vs.map fun v => v.cells.toList).flatten.length → cells[j]? = ((vs.map fun v => v.cells.toList).flatten)[j]?) ∧ cells.size = vs.length * ei.size := by
  obtain ⟨ti, z, i1, i2, i3, i4, i5, i6⟩ := (hX.tt e ei he).info
  have hle : vs.length * ei.size ≤ 1000 * 1000 := Nat.mul_le_mul h0 hsz
  have hn' : ¬ 16777216 < vs.length * ei.size := by omega
  have key : ∀ (cells : Array Value), cells.size = vs.length * ei.size → ∃ cells', Instr.fill (fun i => some (i * ei.size, ei.size)) cells parts.toList = some cells' ∧ (∀ j, j < (vs.map fun v => v.cells.toList).flatten.length → cells'[j]? = ((vs.map fun v => v.cells.toList).flatten)[j]?) ∧ cells'.size = vs.length * ei.size := by
    intro cells hc
    obtain ⟨cells', e1, e3, _, e5⟩ := zan ei.size vs 0 cells h1 (by rw [Nat.zero_add, hc]; exact Nat.le_refl _)
    refine ⟨cells', by rw [hp]; exact e1, fun j hj => ?_, e5.trans hc⟩
    have := e3 j hj
    rwa [Nat.zero_mul, Nat.zero_add] at this
  by_cases h00 : vs.length * ei.size = 0
  · obtain ⟨cells', e1, e2⟩ := key #[] (by simp [h00])
    refine ⟨cells', ?_, e2⟩
    simp [Instr.buildSlice, run_underlying hu, za hX he, h00, e1, newRow, Array.range_zero']
  · obtain ⟨cells', e1, e2⟩ := key ((Array.range (vs.length * ei.size)).map (z.cells[· % z.cells.size]!)) (by simp)
    refine ⟨cells', ?_, e2⟩
    simp only [Instr.buildSlice, Sem.run_bind, run_underlying hu, Result.andThen_ok, za hX he]
    simp [hn', h00, zeroValue, typeInfo, i1, i4, newRow, e1]
theorem zp2 (hX : XOK P X) {cl : FuncId → List D → List Row → Option Ret} (hcl : ∀ f args prows r, cl f args prows = some r → Sound P X f args prows r) (h : SR X.glob F w0 M0 w M mu a.tmps st) {o : Oper} {st' : St} (hs : step X cl o st = some st') {Q : Exit → Act → World → Prop} :
    o.wp P a w (After X F w0 M0 a.defers st') Q := by
  have hquiet : (quiet X st o).map (fun d => st.setD o.dst d) = some st' → o.wp P a w (After X F w0 M0 a.defers st') Q := by
    intro hs
    obtain ⟨d, hd, rfl⟩ := Option.map_eq_some_iff.1 hs
    obtain ⟨v, h1, h2⟩ := zcg hX h hd
    unfold Oper.wp
    rw [h1]
    exact ⟨zf _ _ _, M, mu, h.setDst h2 _⟩
  unfold step at hs
  split at hs
  · -- assign
    rename_i x t hop hdst
    split at hs
    case isFalse => cases hs
    cases hs
    unfold Oper.wp
    have hrun : (execOp a.eval o).run P w = .ok (.value (a.eval x)) w := by simp [execOp, hop]
    rw [hrun]
    refine ⟨zf _ _ _, ?_⟩
    have h1 := h.put (ev_rep h x) t
    rw [hdst]
    rename_i ht
    have hp : ¬ Pinned t := fun hh => absurd (Nat.lt_of_lt_of_le ht (by decide : 1000 ≤ PB)) (Nat.not_lt.2 hh.1)
    obtain ⟨mu', h2⟩ := h1.bindAt (nkAt X o) t t hp
    exact ⟨M, mu', h2⟩
  · -- alloc
    rename_i t d hop hdst
    obtain ⟨i, ht, rfl⟩ := Option.map_eq_some_iff.1 hs
    obtain ⟨ti, z, i1, i2, i3, i4, i5, i6⟩ := (hX.tt t i ht).info
    have hrun : (execOp a.eval o).run P w = .ok (.value (.pointer (some ⟨w.heap.size, 0, none⟩))) (w.alloc (.cells z.cells t)) := by
      simp [execOp, hop, Instr.alloc, zeroValue, typeInfo, i1, i4, newVar, newRow]
    unfold Oper.wp
    rw [hrun]
    refine ⟨zf _ _ _, ?_⟩
    obtain ⟨M', mu', e1, h2⟩ := h.box (w' := w.alloc (.cells z.cells t)) (nid d) (nid_pin d) (cells := zeroAt X o t i) (cv := z.cells.toList) (zph (z4u i5)) (ze7 i5) (T := t) (Keeps.alloc _ w _) (by simpa using zy w (.cells z.cells t))
    rw [hdst]
    exact ⟨M', mu', h2.put (d := .ptr (nid d) 0) (by simp only [Rep]; exact ⟨_, e1, rfl⟩) d⟩
  · -- box
    rename_i t x d hop hdst
    split at hs
    case h_2 => cases hs
    rename_i i ht
    split at hs
    case isFalse => cases hs
    rename_i hcond
    simp only [Bool.and_eq_true, beq_iff_eq] at hcond
    obtain ⟨⟨hk1, hk2⟩, hk3⟩ := hcond
    cases hs
    have hx := ev_rep h x
    have hcr := z44 hx hk1
    have hone := z5r hk3 hcr
    have hrun : (execOp a.eval o).run P w = .ok (.value (.pointer (some ⟨w.heap.size, 0, none⟩))) (w.alloc (.cells (a.eval x).cells t)) := by
      simp [execOp, hop, Instr.box, newVar, newRow]
    unfold Oper.wp
    rw [hrun]
    refine ⟨zf _ _ _, ?_⟩
    obtain ⟨M', mu', e1, h2⟩ := h.box (w' := w.alloc (.cells (a.eval x).cells t)) (nid d) (nid_pin d) (cells := (ev X st x).cells) (cv := (a.eval x).cells.toList) hcr hone (T := t) (Keeps.alloc _ w _) (by simpa using zy w (.cells (a.eval x).cells t))
    rw [hdst]
    exact ⟨M', mu', h2.put (d := .ptr (nid d) 0) (by simp only [Rep]; exact ⟨_, e1, rfl⟩) d⟩
  · -- store
    rename_i t ad x hop hdst
    split at hs
    case h_2 => cases hs
    rename_i i ht
    have hA := ev_rep h ad
    have hV := ev_rep h x
    generalize ev X st ad = da at *
    generalize ev X st x = dv at *
    have fin : ∀ {w' : World} {M' : Nat → Prop} {mu' : Nat → Option Loc}, (Instr.storeAt t (a.eval ad) (a.eval x)).run P w = .ok () w' → SR X.glob F w0 M0 w' M' mu' a.tmps st' → o.wp P a w (After X F w0 M0 a.defers st') Q := by
      intro w' M' mu' h1 h2
      have hrun : (execOp a.eval o).run P w = .ok .skip w' := by simp [execOp, hop, h1]
      unfold Oper.wp
      rw [hrun, Oper.upon_skip, hdst]
      exact ⟨rfl, M', mu', h2⟩
    unfold storeD at hs
    split at hs
    · rename_i r off
      split at hs
      case isFalse => cases hs
      rename_i hcond
      simp only [Bool.and_eq_true, beq_iff_eq] at hcond
      obtain ⟨⟨hk1, hk2⟩, hk3⟩ := hcond
      have hone := z5r hk3 (z44 hV hk1)
      obtain ⟨w', mu', h1, h2⟩ := SR.storeVar hX h ht hA hV hk1 hk2 hone hs
      exact fin h1 h2
    · rename_i r j
      split at hs
      case isFalse => cases hs
      rename_i hcond
      split at hs
      case h_2 => cases hs
      rename_i d' s hset
      split at hs
      case h_2 => cases hs
      rename_i c hrow
      split at hs
      case isTrue => cases hs
      obtain ⟨c', hc', rfl⟩ := Option.map_eq_some_iff.1 hs
      obtain ⟨M', m1, g1, g2⟩ := h.settle hset hV
      have hA' := Rep.keeps (mu' := mu) (Keeps.refl _ w) (fun b _ hb => m1 b hb) (fun _ _ h => h) _ hA
      obtain ⟨w', h1, h2⟩ := SR.storeEl hX g1 ht hcond.1 hA' (g2 mu) hrow hc'
      exact fin h1 h2
    · rename_i r j q
      split at hs
      case isFalse => cases hs
      rename_i hcond
      split at hs
      case h_2 => cases hs
      rename_i k xss k' x' hrow
      split at hs
      case isFalse => cases hs
      rename_i hc
      obtain ⟨rfl, hj, hq⟩ := hc
      cases hs
      simp only [Rep] at hV
      obtain ⟨w', h1, h2⟩ := SR.storeNep (x := x') hX h ht hcond.1 hA hrow hj hq
      exact fin (by rw [hV]; exact h1) h2
    · rename_i r j
      split at hs
      case isFalse => cases hs
      rename_i hcond
      split at hs
      case h_2 => cases hs
      rename_i k xss s m hrow
      split at hs
      case h_2 => cases hs
      rename_i k' xs hrow2
      split at hs
      case isFalse => cases hs
      rename_i hc
      obtain ⟨rfl, hrs, hrp, hj, rfl⟩ := hc
      cases hs
      obtain ⟨w', mu', h1, h2⟩ := SR.storeNpe hX h ht hcond.1 hA hV hrow hrow2 hrs hrp hj
      exact fin h1 h2
    · rename_i r sz j f
      split at hs
      case h_2 => cases hs
      rename_i d' s hset
      split at hs
      case h_2 => cases hs
      rename_i sh ps hrow
      split at hs
      case isFalse => cases hs
      rename_i hc
      obtain ⟨rfl, hj, hk1, hk2, hk3, hk4⟩ := hc
      obtain ⟨p, hp, rfl⟩ := Option.map_eq_some_iff.1 hs
      obtain ⟨M', m1, g1, g2⟩ := h.settle hset hV
      have hA' := Rep.keeps (mu' := mu) (Keeps.refl _ w) (fun b _ hb => m1 b hb) (fun _ _ h => h) _ hA
      have hone := z5r hk3 (z44 (g2 mu) hk1)
      obtain ⟨w', h1, h2⟩ := SR.storeRpe hX g1 ht hA' (g2 mu) hk1 hk2 hone hrow hj hk4 hp
      exact fin h1 h2
    · cases hs
  · -- a new map
    rename_i t hint d hop hdst
    split at hs
    case h_2 => cases hs
    rename_i ke el _ _ _ ht
    split at hs
    case h_2 => cases hs
    rename_i kk vk hkv
    split at hs
    case isFalse => cases hs
    rename_i hh
    cases hs
    have hu := (hX.tt _ _ ht).kind
    simp only [KindOK] at hu
    have hrun : (execOp a.eval o).run P w = .ok (.value (.map (some w.heap.size))) (w.alloc (.map #[] 0)) := by
      cases hint with
      | none =>
        have r0 : (Instr.makeMap t none).run P w = .ok (.map (some w.heap.size)) (w.alloc (.map #[] 0)) := rfl
        simp [execOp, hop, r0]
      | some x =>
        unfold hintOK at hh
        simp only at hh
        split at hh
        case h_2 => cases hh
        rename_i k n e
        have hx := ev_rep h x
        rw [e] at hx
        simp only [Rep] at hx
        have r0 : (Instr.makeMap t (some (.int k n))).run P w = .ok (.map (some w.heap.size)) (w.alloc (.map #[] 0)) := by
          simp only [Instr.makeMap, Sem.run_bind, run_underlying hu, Result.andThen_ok, asInt, Sem.run_pure]
          rfl
        simp [execOp, hop, hx, r0]
    unfold Oper.wp
    rw [hrun]
    refine ⟨zf _ _ _, ?_⟩
    obtain ⟨M', mu', e1, h2, _⟩ := h.allocMap (nid d) (nid_pin d) kk vk
    rw [hdst]
    exact ⟨M', mu', h2.put (d := .mpr (nid d)) (by simp only [Rep]; exact ⟨_, e1, rfl⟩) d⟩
  · -- an entry
    rename_i t m k x hop hdst
    split at hs
    case h_2 => cases hs
    rename_i ke el _ _ _ ht
    obtain ⟨w', h1, h2⟩ := zc5 hX h ht (ev_rep h m) (ev_rep h k) (ev_rep h x) hs
    have hrun : (execOp a.eval o).run P w = .ok .skip w' := by simp [execOp, hop, h1]
    unfold Oper.wp
    rw [hrun, Oper.upon_skip, hdst]
    exact ⟨rfl, M, mu, h2⟩
  · -- an entry of a literal
    rename_i t m k x hop hdst
    split at hs
    case h_2 => cases hs
    rename_i ke el _ _ _ ht
    obtain ⟨w', h1, h2⟩ := zc5 hX h ht (ev_rep h m) (ev_rep h k) (ev_rep h x) hs
    have hrun : (execOp a.eval o).run P w = .ok .skip w' := by simp [execOp, hop, h1]
    unfold Oper.wp
    rw [hrun, Oper.upon_skip, hdst]
    exact ⟨rfl, M, mu, h2⟩
  · -- a literal
    rename_i t n parts d hop hdst
    split at hs
    case h_2 => cases hs
    rename_i e ei hel
    split at hs
    case isFalse =>
      split at hs
      case isFalse => cases hs
      rename_i hag
      split at hs
      case h_2 => cases hs
      rename_i ds sh hds hsh
      split at hs
      case isFalse => cases hs
      rename_i hn
      obtain ⟨ps, s, hb, hst'⟩ : ∃ (ps : List Rcd) (s : St), Go.PR.buildR sh ds st = some (ps, s) ∧ ((X.nestPos o.pos = true ∧ st' = (s.newRow (nid d) ⟨true, .recs sh ps⟩).setD (some d) (.rcs (nid d) sh.length n)) ∨ st' = s.setD (some d) (.immR sh ps)) := by
        split at hs
        · rename_i hnp
          obtain ⟨⟨ps, s⟩, hb, rfl⟩ := Option.map_eq_some_iff.1 hs
          exact ⟨ps, s, hb, .inl ⟨hnp, rfl⟩⟩
        · obtain ⟨⟨ps, s⟩, hb, rfl⟩ := Option.map_eq_some_iff.1 hs
          exact ⟨ps, s, hb, .inr rfl⟩
      obtain ⟨hu, he⟩ := z17 hX hel
      obtain ⟨hdsv, hidx⟩ := z3s parts.toList 0 ds hds
      have hreps : RepL w M mu ds (parts.toList.map fun p => a.eval p.2) := by
        rw [hdsv]
        have : ∀ (ps : List (Nat × Operand)), RepL w M mu (ps.map fun p => ev X st p.2) (ps.map fun p => a.eval p.2) := by
          intro ps
          induction ps with
          | nil => simp only [List.map, RepL]
          | cons p ps ih => simp only [List.map, RepL]; exact ⟨ev_rep h p.2, ih⟩
        exact this _
      obtain ⟨M1, m1, g1, g2, g3, g4⟩ := SR.buildR ds h hb hreps
      have hvl : (parts.toList.map fun p => a.eval p.2).length = n := by rw [← hreps.length]; exact hn.1
      obtain ⟨cells, r1, r2, r3⟩ := za4 (P := P) (w := w) hX hu he (vs := parts.toList.map fun p => a.eval p.2) (by rw [← hn.2]; exact g4) (by rw [hvl]; omega) (parts.map fun (i, x) => (i, a.eval x)) (by
        have hz := z40 a.eval parts.toList 0 hidx
        rw [← hz]
        simp) hag.2.2
      have hrun : (execOp a.eval o).run P w = .ok (.value (.slice (some ⟨w.heap.size, 0, none⟩) n n)) (w.alloc (.cells cells e)) := by
        rw [hvl] at r1
        simp only [execOp, hop]
        simp [r1]
      unfold Oper.wp
      rw [hrun]
      rcases hst' with ⟨_, rfl⟩ | rfl
      · refine ⟨zf _ _ _, ?_⟩
        have hfl := g2.len
        have hcsz : cells.size = n * sh.length := by rw [r3, hvl, hn.2]
        obtain ⟨M', mu', e1, h2, _⟩ := g1.alloc (w' := w.alloc (.cells cells e)) (nid d) (nid_pin d) (.recs sh ps) cells e _ (Keeps.alloc _ w _) (zy w _) (fun mu' _ => g2) (by rw [hfl, hcsz, g3, hn.1]; exact Nat.le_refl _) r2
        rw [hdst]
        refine ⟨M', mu', h2.put (d := .rcs (nid d) sh.length n) ?_ d⟩
        simp only [Rep]
        exact ⟨_, e1, n, rfl, Nat.le_refl _, hcsz.symm⟩
      refine ⟨zf _ _ _, M1, mu, ?_⟩
      have hk := z9m w (.cells cells e)
      have h2 := g1.world hk
      rw [hdst]
      refine h2.put (d := .immR sh ps) ?_ d
      simp only [Rep]
      refine ⟨_, n, _, by rw [g3, hn.1], by omega, g2.keeps (hk.mono fun _ _ h => h.elim) (fun _ _ h => h), .inr ⟨_, rfl, fun hm => absurd (g1.mlt _ hm) (Nat.lt_irrefl _), fun j hj => ?_⟩⟩
      rw [zb]
      simp only [World.cell?, zy, Nat.zero_add]
      exact r2 j hj
    rename_i hsz
    split at hs
    case h_2 => cases hs
    rename_i ds hds
    split at hs
    case isFalse => cases hs
    rename_i hn
    split at hs
    case isTrue =>
      obtain ⟨⟨r, s⟩, hb, rfl⟩ := Option.map_eq_some_iff.1 hs
      obtain ⟨hu, he⟩ := z17 hX hel
      obtain ⟨hdsv, hidx⟩ := z3s parts.toList 0 ds hds
      have hreps : RepL w M mu ds (parts.toList.map fun p => a.eval p.2) := by
        rw [hdsv]
        have : ∀ (ps : List (Nat × Operand)), RepL w M mu (ps.map fun p => ev X st p.2) (ps.map fun p => a.eval p.2) := by
          intro ps
          induction ps with
          | nil => simp only [List.map, RepL]
          | cons p ps ih => simp only [List.map, RepL]; exact ⟨ev_rep h p.2, ih⟩
        exact this _
      have hvl : (parts.toList.map fun p => a.eval p.2).length = n := by rw [← hreps.length]; exact hn
      obtain ⟨M', mu', h2, hr, h1⟩ := zk9 h (nid_pin d) hreps hb e
      have hrun : (execOp a.eval o).run P w = .ok (.value (.slice (some ⟨w.heap.size, 0, none⟩) n n)) (w.alloc (.cells (parts.toList.map fun p => a.eval p.2).toArray e)) := by
        have := z5f (P := P) (w := w) hX hu he hsz.1 h1 (by rw [hvl]; exact hsz.2) (parts.map fun (i, x) => (i, a.eval x)) (by
          have hz := z40 a.eval parts.toList 0 hidx
          rw [← hz]
          simp)
        rw [hvl] at this
        simp [execOp, hop, this]
      rw [hvl] at hr
      unfold Oper.wp
      rw [hrun]
      refine ⟨zf _ _ _, M', mu', ?_⟩
      rw [hdst]
      exact h2.put hr d
    split at hs
    case h_2 => cases hs
    rename_i c0 hc0
    obtain ⟨⟨c, s⟩, hb, rfl⟩ := Option.map_eq_some_iff.1 hs
    obtain ⟨hu, he⟩ := z17 hX hel
    obtain ⟨hdsv, hidx⟩ := z3s parts.toList 0 ds hds
    obtain ⟨z1, z2, z3⟩ := zal (w := w) (M := M) (mu := mu) hc0
    have hreps : RepL w M mu ds (parts.toList.map fun p => a.eval p.2) := by
      rw [hdsv]
      have : ∀ (ps : List (Nat × Operand)), RepL w M mu (ps.map fun p => ev X st p.2) (ps.map fun p => a.eval p.2) := by
        intro ps
        induction ps with
        | nil => simp only [List.map, RepL]
        | cons p ps ih => simp only [List.map, RepL]; exact ⟨ev_rep h p.2, ih⟩
      exact this _
    obtain ⟨M1, m1, g1, g2, g3, g4⟩ := SR.buildC ds h hb hreps z1 z3
    simp only [List.nil_append] at g2
    have hvl : (parts.toList.map fun p => a.eval p.2).length = n := by rw [← hreps.length]; exact hn
    have hrun : (execOp a.eval o).run P w = .ok (.value (.slice (some ⟨w.heap.size, 0, none⟩) n n)) (w.alloc (.cells (parts.toList.map fun p => a.eval p.2).toArray e)) := by
      have := z5f (P := P) (w := w) hX hu he hsz.1 g4 (by rw [hvl]; exact hsz.2) (parts.map fun (i, x) => (i, a.eval x)) (by
        have hz := z40 a.eval parts.toList 0 hidx
        rw [← hz]
        simp)
      rw [hvl] at this
      simp [execOp, hop, this]
    unfold Oper.wp
    rw [hrun]
    refine ⟨zf _ _ _, ?_⟩
    obtain ⟨M', mu', e1, h2, _⟩ := g1.alloc (w' := w.alloc (.cells (parts.toList.map fun p => a.eval p.2).toArray e)) (nid d) (nid_pin d) c (parts.toList.map fun p => a.eval p.2).toArray e _ (Keeps.alloc _ w _) (zy w _) (fun mu' _ => g2.anyMu g3) (by simp) (fun j hj => by simp)
    rw [hdst]
    refine ⟨M', mu', h2.put (d := .rsl (nid d) 0 n) ?_ d⟩
    simp only [Rep]
    exact ⟨_, e1, .inr ⟨n, rfl, Nat.le_refl _, by simpa using hvl.symm⟩⟩
  · -- make
    rename_i t l c d hop hdst
    split at hs
    case h_2 => cases hs
    rename_i e ei k1 n k2 m hel hl hc
    split at hs
    case isFalse =>
      split at hs
      case isFalse => cases hs
      rename_i hcond
      obtain ⟨hag, hnp, hsz, hby, h0, hnm, hml⟩ := hcond
      split at hs
      case h_2 => cases hs
      rename_i sh hsh
      split at hs
      case isFalse => cases hs
      rename_i hlen
      obtain ⟨⟨r, s⟩, hz, rfl⟩ := Option.map_eq_some_iff.1 hs
      obtain ⟨hu, he⟩ := z17 hX hel
      obtain ⟨ti, z, i1, i2, i3, i4, i5, i6⟩ := (hX.tt e ei he).info
      have hlv := ev_rep h l
      have hcv := ev_rep h c
      rw [hl] at hlv
      rw [hc] at hcv
      simp only [Rep] at hlv hcv
      have hml' : m ≤ 1099511627776 := hml
      have hb1 : (ti.bytes : Int) ≤ 128 := by rw [i3]; omega
      have hb2 : (ti.bytes : Int) * m ≤ 281474976710656 := by
        have : (ti.bytes : Int) * m ≤ 128 * 1099511627776 := Int.mul_le_mul hb1 hml' (by omega) (by omega)
        omega
      have hr := run_make (P := P) w t e ti z hu i1 i4 k1 k2 n m h0 hnm hb2 (by omega)
      have hsz1 : ti.size = sh.length := i2.trans hlen.symm
      obtain ⟨M', mu', h2, hre⟩ := zl4 h (nid_pin d) i5 hz e m.toNat (by omega) (by omega) (by omega)
      rw [hsz1] at hr
      have hrun : (execOp a.eval o).run P w = .ok (.value (.slice (some ⟨w.heap.size, 0, none⟩) n.toNat m.toNat)) (w.alloc (.cells (madeCells z.cells (m.toNat * sh.length)) e)) := by
        simp [execOp, hop, hlv, hcv, hr]
      unfold Oper.wp
      rw [hrun]
      refine ⟨zf _ _ _, M', mu', ?_⟩
      rw [hdst]
      exact h2.put hre d
    rename_i hcond
    obtain ⟨hsz, hby, h0, hnm, hml⟩ := hcond
    split at hs
    case isTrue =>
      obtain ⟨⟨r, s⟩, hz, rfl⟩ := Option.map_eq_some_iff.1 hs
      obtain ⟨hu, he⟩ := z17 hX hel
      obtain ⟨ti, z, i1, i2, i3, i4, i5, i6⟩ := (hX.tt e ei he).info
      have hlv := ev_rep h l
      have hcv := ev_rep h c
      rw [hl] at hlv
      rw [hc] at hcv
      simp only [Rep] at hlv hcv
      have hml' : m ≤ 1099511627776 := hml
      have hb1 : (ti.bytes : Int) ≤ 64 := by rw [i3]; omega
      have hb2 : (ti.bytes : Int) * m ≤ 281474976710656 := by
        have : (ti.bytes : Int) * m ≤ 64 * 1099511627776 := Int.mul_le_mul hb1 hml' (by omega) (by omega)
        omega
      have hr := run_make (P := P) w t e ti z hu i1 i4 k1 k2 n m h0 hnm hb2 (by omega)
      have hsz1 : ti.size = 1 := i2.trans hsz
      obtain ⟨M', mu', zc, h2, hre⟩ := zkc h (nid_pin d) i5 hz e m.toNat (by omega)
      rw [hsz1, Nat.mul_one, zc] at hr
      have hrun : (execOp a.eval o).run P w = .ok (.value (.slice (some ⟨w.heap.size, 0, none⟩) n.toNat m.toNat)) (w.alloc (.cells (madeCells #[.slice none 0 0] m.toNat) e)) := by
        simp [execOp, hop, hlv, hcv, hr]
      unfold Oper.wp
      rw [hrun]
      refine ⟨zf _ _ _, M', mu', ?_⟩
      rw [hdst]
      exact h2.put hre d
    obtain ⟨cc, hz, rfl⟩ := Option.map_eq_some_iff.1 hs
    obtain ⟨hu, he⟩ := z17 hX hel
    obtain ⟨ti, z, i1, i2, i3, i4, i5, i6⟩ := (hX.tt e ei he).info
    obtain ⟨z0, zc, zr, zv, zl, z1⟩ := z6y (w := w) (M := M) (mu := mu) i5 hz
    have hlv := ev_rep h l
    have hcv := ev_rep h c
    rw [hl] at hlv
    rw [hc] at hcv
    simp only [Rep] at hlv hcv
    have hml' : m ≤ 1099511627776 := hml
    have hb1 : (ti.bytes : Int) ≤ 64 := by rw [i3]; omega
    have hb2 : (ti.bytes : Int) * m ≤ 281474976710656 := by
      have : (ti.bytes : Int) * m ≤ 64 * 1099511627776 := Int.mul_le_mul hb1 hml' (by omega) (by omega)
      omega
    have hr := run_make (P := P) w t e ti z hu i1 i4 k1 k2 n m h0 hnm hb2 (by omega)
    have hsz1 : ti.size = 1 := i2.trans hsz
    rw [hsz1, Nat.mul_one, zc] at hr
    have hrun : (execOp a.eval o).run P w = .ok (.value (.slice (some ⟨w.heap.size, 0, none⟩) n.toNat m.toNat)) (w.alloc (.cells (madeCells #[z0] m.toNat) e)) := by
      simp [execOp, hop, hlv, hcv, hr]
    unfold Oper.wp
    rw [hrun]
    refine ⟨zf _ _ _, ?_⟩
    obtain ⟨M', mu', e1, h2, _⟩ := h.alloc (w' := w.alloc (.cells (madeCells #[z0] m.toNat) e)) (nid d) (nid_pin d) cc (madeCells #[z0] m.toNat) e (List.replicate n.toNat z0) (Keeps.alloc _ w _) (zy w _) (fun mu' _ => zr.anyMu zv) (by simp [size_madeCells]; omega) (fun j hj => by
      have hj' : j < n.toNat := by rwa [List.length_replicate] at hj
      rw [zc0 (by omega), List.getElem?_replicate, if_pos hj'])
    rw [hdst]
    refine ⟨M', mu', h2.put (d := .rsl (nid d) 0 n.toNat) ?_ d⟩
    simp only [Rep]
    exact ⟨_, e1, .inr ⟨m.toNat, rfl, by omega, by simp [size_madeCells]⟩⟩
  · -- append
    rename_i args argTypes d hop hdst
    split at hs
    case h_2 => cases hs
    rename_i x y t ty hargs hty
    split at hs
    case h_3 => cases hs
    case h_2 =>
      rename_i e ei kn _ _ _ hel hty2
      obtain ⟨⟨r, s⟩, ha, rfl⟩ := Option.map_eq_some_iff.1 hs
      obtain ⟨hu, he⟩ := z17 hX hel
      have hk := (hX.tt _ _ hty2).kind
      obtain rfl : args = #[x, y] := by cases args; simp_all
      obtain rfl : argTypes = #[t, ty] := by cases argTypes; simp_all
      obtain ⟨v, w', M', mu', h1, h2, h3⟩ := zeh (t' := o.type) hX h hu he hk (nid_pin d) (ev_rep h x) (ev_rep h y) ha
      have hrun : (execOp a.eval o).run P w = .ok (.value v) w' := by simp [execOp, hop, resolve, invoke, builtin, h1]
      unfold Oper.wp
      rw [hrun]
      refine ⟨zf _ _ _, ?_⟩
      rw [hdst]
      exact ⟨M', mu', h2.put h3 d⟩
    rename_i e ei e' _ _ _ hel hty2
    obtain ⟨⟨r, s⟩, ha, rfl⟩ := Option.map_eq_some_iff.1 hs
    obtain ⟨hu, he⟩ := z17 hX hel
    have hk := (hX.tt _ _ hty2).kind
    obtain rfl : args = #[x, y] := by cases args; simp_all
    obtain rfl : argTypes = #[t, ty] := by cases argTypes; simp_all
    obtain ⟨v, w', M', mu', h1, h2, h3, _⟩ := zef (t' := o.type) hX h hu he hk (nid_pin d) (ev_rep h x) (ev_rep h y) ha
    have hrun : (execOp a.eval o).run P w = .ok (.value v) w' := by simp [execOp, hop, resolve, invoke, builtin, h1]
    unfold Oper.wp
    rw [hrun]
    refine ⟨zf _ _ _, ?_⟩
    rw [hdst]
    exact ⟨M', mu', h2.put h3 d⟩
  · -- copy
    rename_i args argTypes hop
    split at hs
    case h_2 => cases hs
    rename_i x y t ty hargs hty
    split at hs
    case h_2 => cases hs
    rename_i e ei e' _ _ _ hel hty2
    split at hs
    case isFalse => cases hs
    rename_i hsz
    obtain ⟨⟨r, c⟩, ha, rfl⟩ := Option.map_eq_some_iff.1 hs
    obtain ⟨hu, he⟩ := z17 hX hel
    have hk := (hX.tt _ _ hty2).kind
    obtain rfl : args = #[x, y] := by cases args; simp_all
    obtain rfl : argTypes = #[t, ty] := by cases argTypes; simp_all
    obtain ⟨v, w', h1, h2, h3⟩ := zag (t' := o.type) hX h hu he hsz hk (ev_rep h x) (ev_rep h y) ha
    have hrun : (execOp a.eval o).run P w = .ok (.value v) w' := by simp [execOp, hop, resolve, invoke, builtin, h1]
    unfold Oper.wp
    rw [hrun]
    exact ⟨zf _ _ _, M, mu, h2.setDst h3 _⟩
  · -- clear
    rename_i args argTypes hop
    split at hs
    case h_2 => cases hs
    rename_i x t hargs hty
    split at hs
    case h_2 => cases hs
    rename_i e ei hel
    split at hs
    case isFalse => cases hs
    rename_i hsz
    obtain ⟨⟨r, c⟩, ha, rfl⟩ := Option.map_eq_some_iff.1 hs
    obtain ⟨hu, he⟩ := z17 hX hel
    obtain rfl : args = #[x] := by cases args; simp_all
    obtain rfl : argTypes = #[t] := by cases argTypes; simp_all
    obtain ⟨v, w', h1, h2, h3⟩ := za8 (t' := o.type) hX h hu he hsz (ev_rep h x) ha
    have hrun : (execOp a.eval o).run P w = .ok (.value v) w' := by simp [execOp, hop, resolve, invoke, builtin, h1]
    unfold Oper.wp
    rw [hrun]
    exact ⟨zf _ _ _, M, mu, h2.setDst h3 _⟩
  · -- a call
    rename_i g args argTypes d hop hdst
    split at hs
    case h_2 => cases hs
    rename_i f cap hg
    split at hs
    case isTrue => cases hs
    rename_i hft
    obtain ⟨⟨r, s⟩, hc, rfl⟩ := Option.map_eq_some_iff.1 hs
    have hgr := ev_rep h g
    rw [hg] at hgr
    simp only [Rep] at hgr
    obtain ⟨cv, hgv, hcap⟩ := hgr
    obtain ⟨fn, hfn⟩ : ∃ fn, X.ft f = some fn := by cases e : X.ft f with | none => simp [e] at hft | some fn => exact ⟨fn, rfl⟩
    obtain ⟨k1, k2, k3⟩ := hX.ft f fn hfn
    have hcall := zf2 hcl h (RepL.append (ev_repL h args.toList) hcap) hc
    have hrun : (execOp a.eval o).run P w = .ok (.enter f (args.toList.map a.eval ++ cv).toArray) w := by
      have k2' : ¬ fn.name = "runtime.NumGoroutine" := by simpa using k2
      have k3' : ¬ fn.body = none := by intro e; rw [e] at k3; cases k3
      simp [execOp, hop, resolve, hgv, Deferred.ofValue, invoke, callFunc, k1, k2', k3']
    unfold Oper.wp
    rw [hrun, Oper.upon_enter]
    refine hcall.mono ?_
    rintro e w' ⟨v, M', mu', rfl, h2, h3⟩
    refine ⟨zf _ _ _, ?_⟩
    rw [hdst]
    exact ⟨M', mu', h2.put h3 d⟩
  · exact hquiet hs
end
end Go.PR

end

section
namespace Go.PR
open Go
section
variable {P : Program} {X : Ctx} {F : Nat → Prop} {w0 w w' : World} {M0 : Entry} {M : Nat → Prop} {mu : Nat → Option Loc} {a : Act} {st : St}
theorem zkj {d : D} {v : Value} (h : Rep w M mu d v) (hd : (match d with | .any | .bool _ => false | _ => true) = true) (b : Bool) : v ≠ .bool b := by
  intro e
  subst e
  cases d <;> simp at hd <;> simp only [Rep] at h
  case und => cases h
  case nil => obtain ⟨A, h, _⟩ := h; cases h
  case int => cases h
  case mpr => obtain ⟨b', _, h⟩ := h; cases h
  case npe => obtain ⟨l, _, h⟩ := h; obtain ⟨a, h⟩ := Loc.ocell_form h; cases h
  case nep => obtain ⟨l, _, h⟩ := h; obtain ⟨a, h⟩ := Loc.icell_form h; cases h
  case nsl => obtain ⟨l, _, h⟩ := h; obtain ⟨A, c, h, _⟩ := Loc.outer_form h; cases h
  case nel => obtain ⟨l, _, h⟩ := h; obtain ⟨A, c, h, _⟩ := Loc.inner_form h; cases h
  case rcs => obtain ⟨l, _, h⟩ := h; obtain ⟨A, c, h, _⟩ := Loc.recs_form h; cases h
  case rpe => obtain ⟨l, _, h⟩ := h; obtain ⟨a, h⟩ := Loc.cell_form h; cases h
  case str => cases h
  case fn => obtain ⟨cv, h, _⟩ := h; cases h
  case immI => obtain ⟨A, c, h, _⟩ := h; cases h
  case immB => obtain ⟨A, c, h, _⟩ := h; cases h
  case imm2 => obtain ⟨cv, _, A, c, h, _⟩ := h; cases h
  case immG => obtain ⟨cv, _, _, A, c, h, _⟩ := h; cases h
  case immR => obtain ⟨A, c, cv, h, _⟩ := h; cases h
  case pim => obtain ⟨ad, cv, h, _⟩ := h; cases h
  case ptr => obtain ⟨l, _, h⟩ := h; cases l <;> simp [Loc.cell] at h
  case pel => obtain ⟨l, _, h⟩ := h; cases l <;> simp [Loc.cell] at h
  case rsl => obtain ⟨l, _, h⟩ := h; cases l <;> simp [Loc.slice] at h
  case agg => obtain ⟨cv, h, _⟩ := h; cases h
  case tup => obtain ⟨cv, h, _⟩ := h; cases h
theorem ze6 (h : SR X.glob F w0 M0 w M mu a.tmps st) (ops : Array Oper) (o : Oper) : (wanted ops st o = .yes → Region.wanted o (yielded ops a.tmps) = true) ∧ (wanted ops st o = .no → Region.wanted o (yielded ops a.tmps) = false) := by
  unfold Go.PR.wanted Region.wanted
  cases hg : o.guard with
  | none => simp
  | some g =>
    obtain ⟨j, want⟩ := g
    simp only
    unfold yielded
    cases hd : (ops[j]?).bind (·.dst) with
    | none => simp
    | some t =>
      simp only [Option.bind_some]
      have hr := h.get t
      cases hv : a.tmps[t]? with
      | none =>
        have : a.tmps.getD t undef = undef := by simp [Array.getD_eq_getD_getElem?, hv]
        rw [this] at hr
        split
        · rename_i b e; rw [e] at hr; simp only [Rep] at hr; cases hr
        · simp
        · simp
      | some v =>
        have e : a.tmps.getD t undef = v := by simp [Array.getD_eq_getD_getElem?, hv]
        rw [e] at hr
        split
        · rename_i b e
          rw [e] at hr
          simp only [Rep] at hr
          subst hr
          by_cases hb : b = want <;> simp [hb]
        · simp
        · rename_i h1 h2
          have := zkj hr (by split <;> simp_all)
          simp
          cases v <;> simp at this ⊢
theorem und_put (h : SR X.glob F w0 M0 w M mu a.tmps st) (dst : Option Tmp) : SR X.glob F w0 M0 w M mu (a.put dst undef).tmps (st.setD dst .und) := h.setDst (by simp only [Rep]) dst
theorem z9d (hX : XOK P X) {cl : FuncId → List D → List Row → Option Ret} (hcl : ∀ f args prows r, cl f args prows = some r → Sound P X f args prows r) {df : List Deferred} (h : After X F w0 M0 df st a w) {ops : Array Oper} {i : Nat} {o : Oper} (ho : ops[i]? = some o) {st' : St} (hs : stepG X cl ops o st = some st') {Q : Exit → Act → World → Prop}
    {K : Act → World → Prop} (hK : ∀ a w, After X F w0 M0 df st' a w → K a w) : wpOp P ops Q i K a w := by
  obtain ⟨rfl, M, mu, h⟩ := h
  have hw := ze6 h ops o
  unfold wpOp
  rw [ho]
  unfold stepG at hs
  split at hs
  · rename_i e
    simp only [hw.1 e, if_true]
    exact .inl (Oper.wp_mono hK (zp2 hX hcl h hs))
  · rename_i e
    cases hs
    simp only [hw.2 e, Bool.false_eq_true, if_false]
    exact hK _ _ ⟨zf _ _ _, M, mu, und_put h _⟩
  · cases hs
theorem ze1 (hX : XOK P X) {cl : FuncId → List D → List Row → Option Ret} (hcl : ∀ f args prows r, cl f args prows = some r → Sound P X f args prows r) {df : List Deferred} {ops : Array Oper} {Q : Exit → Act → World → Prop} {st' : St} (hQ : ∀ a w, After X F w0 M0 df st' a w → Q .normal a w) :
    ∀ (l : List Oper) (k : Nat) {st : St} {a : Act} {w : World}, (∀ j, l[j]? = ops[k + j]?) → After X F w0 M0 df st a w → stepsG X cl ops l st = some st' → wpOps P ops Q (List.range' k l.length) a w
  | [], k, st, a, w, _, h, hs => by simp only [stepsG] at hs; cases hs; exact hQ a w h
  | o :: l, k, st, a, w, hl, h, hs => by
    have h0 : ops[k]? = some o := by simpa using (hl 0).symm
    simp only [stepsG] at hs
    split at hs
    case h_2 => cases hs
    rename_i s hs1
    simp only [List.length_cons, List.range'_succ]
    rw [wpOps_cons]
    exact z9d hX hcl h h0 hs1 fun a w ha => ze1 hX hcl hQ l (k + 1) (fun j => by have := hl (j + 1); simpa [Nat.add_assoc, Nat.add_comm 1 j] using this) ha hs
theorem zl6 (hX : XOK P X) {cl : FuncId → List D → List Row → Option Ret} (hcl : ∀ f args prows r, cl f args prows = some r → Sound P X f args prows r) {df : List Deferred} {id : Nat} {ops : Array Oper} {Q : Exit → Act → World → Prop} {st' : St} (h : After X F w0 M0 df st a w) (hs : stepsG X cl ops ops.toList st = some st') (hQ : ∀ a w, After X F w0 M0 df st' a w → Q .normal a w) :
    (Code.region id ops false).wp P Q a w := by
  refine wp_region ?_
  have := ze1 hX hcl hQ ops.toList 0 (fun j => by simp) h hs
  rwa [Array.length_toList, ← List.range_eq_range'] at this
theorem z2p {rows : Nat → Option Row} : ∀ (is : List Nat) (i : Nat) (r : Row), rowsOf (z13 rows is) i = some r → rows i = some r
  | [], i, r, h => by simp [z13, rowsOf] at h
  | j :: is, i, r, h => by
    simp only [z13] at h
    split at h
    · rename_i r0 e0
      simp only [rowsOf] at h
      split at h
      · rename_i e; cases h; rw [e]; exact e0
      · exact z2p is i r h
    · exact z2p is i r h
theorem z5t (ts : List Nat) : ∀ (i : Nat) {ds : List D} {vs : List Value}, RepL w M mu ds vs → RepL w M mu (keepEnv ts i ds) vs
  | i, [], [], _ => by simp only [keepEnv, RepL]
  | i, [], _ :: _, h => by simp only [RepL] at h
  | i, _ :: _, [], h => by simp only [RepL] at h
  | i, d :: ds, v :: vs, h => by
    simp only [keepEnv, RepL] at h ⊢
    refine ⟨?_, z5t ts (i + 1) h.2⟩
    split
    · exact h.1
    · simp only [Rep]
theorem SR.keep (h : SR X.glob F w0 M0 w M mu a.tmps st) (hint : Option Hint) : SR X.glob F w0 M0 w M mu a.tmps (st.keep hint) := by
  cases hint with
  | none => exact h
  | some hi =>
    exact { h with
      env := z5t _ 0 h.env
      rows := fun i r hr => h.rows i r (z2p _ i r hr)
      apart := fun i j ri rj b hij hi hj => h.apart i j ri rj b hij (z2p _ i ri hi) (z2p _ j rj hj) }
theorem SR.keepOut (h : SR X.glob F w0 M0 w M mu a.tmps st) (hint : Option Hint) : SR X.glob F w0 M0 w M mu a.tmps (st.keepOut hint) := by
  cases hint with
  | none => exact h
  | some hi =>
    exact { h with
      env := z5t _ 0 h.env
      rows := fun i r hr => h.rows i r (z2p _ i r hr)
      apart := fun i j ri rj b hij hi hj => h.apart i j ri rj b hij (z2p _ i ri hi) (z2p _ j rj hj) }
def OutOK (X : Ctx) (F : Nat → Prop) (w0 : World) (M0 : Entry) (df : List Deferred) : Out → Exit → Act → World → Prop
  | .normal st, .normal, a, w => After X F w0 M0 df st a w
  | .exit i st, .exit j, a, w => i = j ∧ After X F w0 M0 df st a w
  | .ret st, .ret, a, w => After X F w0 M0 df st a w
  | _, _, _, _ => False
theorem OutOK.keep {df : List Deferred} {o : Out} {ex : Exit} {w : World} (hint : Option Hint) (h : OutOK X F w0 M0 df o ex a w) : OutOK X F w0 M0 df (o.keep hint) ex a w := by
  cases o <;> cases ex <;> simp only [OutOK] at h <;> simp only [Out.keep, OutOK]
  · obtain ⟨hd, M, mu, hs⟩ := h; exact ⟨hd, M, mu, hs.keepOut hint⟩
  · obtain ⟨rfl, hd, M, mu, hs⟩ := h; exact ⟨rfl, hd, M, mu, hs.keepOut hint⟩
  · obtain ⟨hd, M, mu, hs⟩ := h; exact ⟨hd, M, mu, hs.keepOut hint⟩
end
end Go.PR

end
