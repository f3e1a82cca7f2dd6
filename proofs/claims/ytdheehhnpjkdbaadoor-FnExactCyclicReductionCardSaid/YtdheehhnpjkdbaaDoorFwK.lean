/- What a function's contract says (Sound), and what a caller has of it. -/
import Derived.Test.YtdheehhnpjkdbaaDoorFwJ2
set_option linter.unusedVariables false
set_option linter.unusedSimpArgs false
namespace Go.PR
open Go

theorem add_sub_back {a b : Nat} (h : a ≤ b) : a + (b - a) = b := by omega

def rowsBack (r : Ret) : Nat → Option Row := fun i => if XB ≤ i then r.out[i - XB]? else if PB ≤ i then (r.passed[i - PB]?).getD none else none

def Fset (w : World) (mu : Nat → Option Loc) (n : Nat) : Nat → Prop := fun b => w.heap.size ≤ b ∨ ∃ j, j < n ∧ blockOf (mu (PB + j)) = some b

def Sound (P : Program) (X : Ctx) (f : FuncId) (args : List D) (prows : List Row) (r : Ret) : Prop :=
  ∀ (w : World) (M : Nat → Prop) (mu : Nat → Option Loc) (vs : List Value), SR X.glob (Fset w mu prows.length) w ⟨M, mu⟩ w M mu vs.toArray ⟨args, rowsIn prows⟩ →
    Calls P f vs.toArray w fun e w' => ∃ v M' mu', e = .returned v ∧ SR X.glob (Fset w mu prows.length) w ⟨M, mu⟩ w' M' mu' #[v] ⟨[r.res], rowsBack r⟩

section
variable {P : Program} {X : Ctx} {G : Nat → Option D} {F : Nat → Prop} {w0 w w' : World} {M0 : Entry} {M M' Mc : Nat → Prop} {mu mu' muc : Nat → Option Loc} {tmps : Array Value} {a : Act} {st : St}

/-- Another account of where rows lie, for rows that are not known any more. -/
theorem SR.dropTo (h : SR G F w0 M0 w M mu tmps st) (id : Nat) (hpin : ¬ Pinned id) {mu2 : Nat → Option Loc} (hmu : ∀ r, r ≠ id → mu2 r = mu r) : SR G F w0 M0 w M mu2 tmps (st.drop id) := by
  have hren : ∀ r i, killF id r = some i → mu2 i = mu r := fun r i e => by
    simp only [killF] at e
    split at e
    · cases e
    · rename_i hne; cases e; exact hmu _ hne
  have rowOf : ∀ i ri, (st.drop id).rows i = some ri → ∃ r0, st.rows i = some r0 ∧ ri = r0.ren (killF id) ∧ i ≠ id := by
    intro i ri hi
    simp only [St.drop] at hi
    split at hi
    · cases hi
    · rename_i hne
      obtain ⟨r0, e0, rfl⟩ := Option.map_eq_some_iff.1 hi
      exact ⟨r0, e0, rfl, hne⟩
  exact
  { h with
    env := RepL.ren hren _ h.env
    rows := fun i ri hi => by
      obtain ⟨r0, e0, rfl, hne⟩ := rowOf i ri hi
      exact (h.rows i r0 e0).ren hren (hmu i hne)
    apart := fun i j ri rj b hij hi hj mi mj bi bj => by
      obtain ⟨r0, e0, rfl, hne⟩ := rowOf i ri hi
      obtain ⟨r1, e1, rfl, hne1⟩ := rowOf j rj hj
      exact h.apart i j r0 r1 b hij e0 e1 mi mj (by rw [← hmu i hne]; exact bi) (by rw [← hmu j hne1]; exact bj)
    pin := fun i hi => (hmu i fun e => hpin (e ▸ hi)).trans (h.pin i hi) }

theorem SR.dropAllTo : ∀ (is : List Nat), (∀ i ∈ is, ¬ Pinned i) → ∀ {mu : Nat → Option Loc} {st : St}, SR G F w0 M0 w M mu tmps st → ∀ {mu2 : Nat → Option Loc}, (∀ r, r ∉ is → mu2 r = mu r) → SR G F w0 M0 w M mu2 tmps (dropAll is st)
  | [], _, mu, st, h, mu2, hmu => by
    have : mu2 = mu := by funext r; exact hmu r (by simp)
    rw [this]; exact h
  | i :: is, hp, mu, st, h, mu2, hmu => by
    have h1 := h.dropTo i (hp i (by simp)) (mu2 := fun r => if r = i then mu2 i else mu r) (fun r hr => by simp [hr])
    exact SR.dropAllTo is (fun j hj => hp j (by simp [hj])) h1 (fun r hr => by
      by_cases e : r = i
      · simp [e]
      · simp only [e, if_false]; exact hmu r (by simp [e, hr]))

theorem SR.dropAny (h : SR G F w0 M0 w M mu tmps st) : ∀ (is : List Nat), SR G F w0 M0 w M mu tmps (dropAll is st) := by
  intro is
  induction is generalizing st with
  | nil => exact h
  | cons i is ih => exact ih (h.drop i)

theorem dropAll_append (a b : List Nat) (st : St) : dropAll (a ++ b) st = dropAll b (dropAll a st) := by
  induction a generalizing st with
  | nil => rfl
  | cons i is ih => exact ih _

theorem dropAll_rows (is : List Nat) (st : St) (i : Nat) : (i ∈ is → (dropAll is st).rows i = none) ∧ ∀ r, (dropAll is st).rows i = some r → ∃ r0, st.rows i = some r0 ∧ r.wr = r0.wr := by
  induction is generalizing st with
  | nil => exact ⟨by simp, fun r h => ⟨r, h, rfl⟩⟩
  | cons j is ih =>
    obtain ⟨h1, h2⟩ := ih (st.drop j)
    have back : ∀ r, (dropAll is (st.drop j)).rows i = some r → i ≠ j ∧ ∃ r0, st.rows i = some r0 ∧ r.wr = r0.wr := by
      intro r hr
      obtain ⟨r1, e1, w1⟩ := h2 r hr
      simp only [St.drop] at e1
      split at e1
      · cases e1
      · rename_i hne
        obtain ⟨r0, e0, rfl⟩ := Option.map_eq_some_iff.1 e1
        exact ⟨hne, r0, e0, w1⟩
    refine ⟨fun hi => ?_, fun r hr => (back r hr).2⟩
    rcases List.mem_cons.1 hi with rfl | hi
    · cases e : (dropAll is (st.drop i)).rows i with
      | none => exact e
      | some r => exact absurd rfl (back r e).1
    · exact h1 hi

mutual
theorem Rep.noImm {d : D} {v : Value} (hn : d.noImm = true) (h : Rep w M mu d v) : Rep w M' mu d v := by
  cases d <;> simp only [D.noImm] at hn <;> simp only [Rep] at h ⊢ <;> first
    | exact h
    | (cases hn; done)
    | (obtain ⟨cv, e, h⟩ := h; exact ⟨cv, e, RepL.noImm hn h⟩)
    | skip
theorem RepL.noImm : ∀ {ds : List D} {vs : List Value}, D.noImmL ds = true → RepL w M mu ds vs → RepL w M' mu ds vs
  | [], [], _, _ => by simp only [RepL]
  | [], _ :: _, _, h => by simp only [RepL] at h
  | _ :: _, [], _, h => by simp only [RepL] at h
  | d :: ds, v :: vs, hn, h => by
    simp only [D.noImmL, Bool.and_eq_true] at hn
    simp only [RepL] at h ⊢
    exact ⟨Rep.noImm hn.1 h.1, RepL.noImm hn.2 h.2⟩
end

theorem ContRep.noImm {c : Cont} {cv : List Value} (hn : c.noImm = true) (h : ContRep w M mu c cv) : ContRep w M' mu c cv := by
  cases c <;> simp [Cont.noImm] at hn <;> first | exact h | exact ⟨RepL.noImm hn h.1, h.2⟩

theorem RowOK.widen {F' : Nat → Prop} {id : Nat} {row : Row} (h : RowOK F w M mu id row) (hF : ∀ b, blockOf (mu id) = some b → row.wr = true → F' b) : RowOK F' w M mu id row := by
  obtain ⟨l, e, h⟩ := h
  refine ⟨l, e, ?_⟩
  cases l with
  | nowhere => exact h
  | at_ b base size =>
    obtain ⟨cs, T, cv, h1, h2, h3, h4, h5, h6, h7⟩ := h
    exact ⟨cs, T, cv, h1, h2, h3, h4, h5, fun hw => ⟨(h6 hw).1, hF b (by rw [e]; rfl) hw⟩, h7⟩

theorem SR.own (h : SR G F w0 M0 w M mu tmps st) {i : Nat} {r : Row} (hr : st.rows i = some r) {b : Nat} (hb : blockOf (mu i) = some b) : b < w.heap.size ∧ (r.wr = true → M b ∧ F b) ∧ (r.wr = false → ¬ M b) := by
  obtain ⟨l', e', hh⟩ := h.rows i r hr
  obtain ⟨base, size, e2⟩ := blockOf_at hb
  rw [e2] at e'
  cases e'
  obtain ⟨cs, T, cv, h1, _, _, _, _, h6, h7⟩ := hh
  exact ⟨(Array.getElem?_eq_some_iff.1 h1).1, h6, h7⟩

theorem xid_inj {t i j : Nat} (hi : i < 40) (hj : j < 40) (h : xid t i = xid t j) : i = j := by
  unfold xid at h
  rw [Nat.mod_eq_of_lt hi, Nat.mod_eq_of_lt hj] at h
  omega

theorem find_xid {t n i q : Nat} (hn : n ≤ 40) (h : (List.range n).find? (fun j => xid t j == i) = some q) : q < n ∧ xid t q = i := by
  have h1 := List.find?_some h
  have h2 := List.mem_of_find?_eq_some h
  exact ⟨List.mem_range.1 h2, by simpa using h1⟩

theorem find_xid_of {t n q : Nat} (hn : n ≤ 40) (hq : q < n) : (List.range n).find? (fun j => xid t j == xid t q) = some q := by
  cases e : (List.range n).find? (fun j => xid t j == xid t q) with
  | none =>
    have := List.find?_eq_none.1 e q (List.mem_range.2 hq)
    simp at this
  | some q' =>
    obtain ⟨h1, h2⟩ := find_xid hn e
    rw [xid_inj (by omega) (by omega) h2]

theorem find_xid_none {t n i : Nat} (h : (List.range n).find? (fun j => xid t j == i) = none) : i ∉ outIds t n := by
  intro hm
  obtain ⟨q, hq, rfl⟩ := List.mem_map.1 hm
  have := List.find?_eq_none.1 h q hq
  simp at this

theorem idx_spec {ids : List Nat} {i j : Nat} (h : idx ids i = some j) : ids[j]? = some i := by
  unfold idx at h
  obtain ⟨hlt, hp, _⟩ := List.findIdx?_eq_some_iff_getElem.1 h
  rw [List.getElem?_eq_getElem hlt]
  simpa using hp

theorem nodup_idx {ids : List Nat} (h : nodupB ids = true) {i j : Nat} (hj : ids[j]? = some i) : idx ids i = some j := by
  unfold nodupB at h
  rw [List.all_eq_true] at h
  have := h (i, j) (by rw [List.mem_iff_getElem?]; exact ⟨j, by simp [List.getElem?_zipIdx, hj]⟩)
  simpa using this

/-- What a caller has behind a call. -/
theorem SR.back (h : SR G F w0 M0 w M mu tmps st) (ids : List Nat) (dst : Nat) (r : Ret) (hnd : nodupB ids = true) (hrows : ∀ (j i : Nat), ids[j]? = some i → ∃ row, st.rows i = some row ∧ row.wr = true) (hlen : ids.length ≤ 1000)
    (hMc : ∀ b, Mc b → M b) (hmuc : ∀ (j i : Nat), ids[j]? = some i → muc (PB + j) = mu i) {v : Value}
    (hc : SR G (Fset w muc ids.length) w ⟨Mc, muc⟩ w' M' mu' #[v] ⟨[r.res], rowsBack r⟩) (hpl : r.passed.length = ids.length) (ho : r.out.length ≤ 40) (hdis : ∀ i ∈ outIds dst r.out.length, i ∉ ids)
    (hup : (∀ b, M b → Mc b) ∨ (ids = [] ∧ r.res.noImm = true ∧ ∀ x ∈ r.out, x.wr = true ∧ x.c.noImm = true)) (gl : List Nat) (hgone : ∀ (j i : Nat), ids[j]? = some i → (r.passed[j]?).getD none = none → i ∈ gl) :
    ∃ M'' mu'', SR G F w0 M0 w' M'' mu'' tmps { (dropAll (gl ++ outIds dst r.out.length) st) with rows := rowsBehind ids dst r (dropAll (gl ++ outIds dst r.out.length) st).rows } ∧ Rep w' M'' mu'' (r.res.ren (outF ids dst r.out.length)) v ∧ ∀ i, i ∉ outIds dst r.out.length → mu'' i = mu i := by
  -- the blocks of what was handed over
  let Pass : Nat → Prop := fun b => ∃ j, j < ids.length ∧ blockOf (muc (PB + j)) = some b
  have hPass : ∀ b, Pass b → b < w.heap.size ∧ M b ∧ F b := by
    rintro b ⟨j, hj, hb⟩
    have hi := List.getElem?_eq_getElem hj
    obtain ⟨row, hr, hw⟩ := hrows j _ hi
    rw [hmuc j _ hi] at hb
    obtain ⟨o1, o2, _⟩ := h.own hr hb
    exact ⟨o1, (o2 hw).1, (o2 hw).2⟩
  have hkM : Keeps M w w' := hc.keeps.mono fun b hb hf => by
    rcases hf with h1 | h1
    · omega
    · exact (hPass b h1).2.1
  have hkF : Keeps F w w' := hc.keeps.mono fun b hb hf => by
    rcases hf with h1 | h1
    · omega
    · exact (hPass b h1).2.2
  let M2 : Nat → Prop := fun b => M' b ∨ (M b ∧ ¬ Pass b)
  have hM2 : ∀ b, b < w.heap.size → M2 b → M b := fun b hb hm => by
    rcases hm with h1 | h1
    · exact hMc b (hc.m1 b hb h1)
    · exact h1.1
  have hM2eq : (∀ b, M b → Mc b) → M2 = M' := fun hs => by
    funext b
    simp only [M2, eq_iff_iff]
    refine ⟨fun h => ?_, .inl⟩
    rcases h with h | ⟨h1, h2⟩
    · exact h
    · refine hc.m2 b (hs b h1) ?_
      rintro (h3 | h3)
      · have := h.mlt b h1; omega
      · exact h2 h3
  let mu2 : Nat → Option Loc := fun i => match (List.range r.out.length).find? (fun j => xid dst j == i) with
    | some q => mu' (XB + q)
    | none => mu i
  have hmu2 : ∀ i, i ∉ outIds dst r.out.length → mu2 i = mu i := fun i hi => by
    simp only [mu2]
    cases e : (List.range r.out.length).find? (fun j => xid dst j == i) with
    | none => rfl
    | some q =>
      obtain ⟨h1, h2⟩ := find_xid ho e
      exact absurd (List.mem_map.2 ⟨q, List.mem_range.2 h1, h2⟩) hi
  have hmu2x : ∀ q, q < r.out.length → mu2 (xid dst q) = mu' (XB + q) := fun q hq => by simp only [mu2, find_xid_of ho hq]
  clear_value mu2
  have pinned : ∀ j, j < ids.length → Pinned (PB + j) := fun j hj => ⟨Nat.le_add_right _ _, Nat.lt_of_le_of_lt (Nat.add_le_add_left (Nat.le_trans (Nat.le_of_lt hj) hlen) PB) (by decide)⟩
  have hlt : ∀ j i, ids[j]? = some i → j < ids.length := fun j i hi => by
    rcases Nat.lt_or_ge j ids.length with h | h
    · exact h
    · rw [List.getElem?_eq_none h] at hi; cases hi
  have hmu2p : ∀ j i, ids[j]? = some i → mu2 i = mu' (PB + j) := fun j i hi => by
    rw [hmu2 i (fun hm => hdis i hm (List.mem_of_getElem? hi)), ← hmuc j i hi]
    exact (hc.pin (PB + j) (pinned j (hlt j i hi))).symm
  have hout : ∀ q i, outF ids dst r.out.length q = some i → mu2 i = mu' q := fun q i e => by
    unfold outF at e
    split at e
    · rename_i hq
      split at e
      · rename_i hq2
        have e' := Option.some.inj e
        rw [← e']
        exact (hmu2x _ hq2).trans (congrArg mu' (add_sub_back hq))
      · cases e
    · split at e
      · rename_i hq hq2
        exact (hmu2p _ _ e).trans (congrArg mu' (add_sub_back hq2))
      · cases e
  -- the old state under the new account, in the old world
  have hpin : ∀ i ∈ outIds dst r.out.length, ¬ Pinned i := fun i hi => by
    obtain ⟨q, _, rfl⟩ := List.mem_map.1 hi
    exact xid_pin _ _
  have hs : SR G F w0 M0 w M mu2 tmps (dropAll (gl ++ outIds dst r.out.length) st) := by
    rw [dropAll_append]
    exact SR.dropAllTo _ hpin (h.dropAny gl) hmu2
  have hsrows := dropAll_rows (gl ++ outIds dst r.out.length) st
  generalize dropAll (gl ++ outIds dst r.out.length) st = s at hs hsrows ⊢
  -- which row is which
  have kind : ∀ i row, rowsBehind ids dst r s.rows i = some row →
      (∃ (q : Nat) (x : Row), q < r.out.length ∧ i = xid dst q ∧ r.out[q]? = some x ∧ row = x.ren (outF ids dst r.out.length)) ∨
      (∃ (j : Nat) (x : Row), ids[j]? = some i ∧ r.passed[j]? = some (some x) ∧ row = x.ren (outF ids dst r.out.length)) ∨
      (i ∉ ids ∧ i ∉ outIds dst r.out.length ∧ s.rows i = some row) := by
    intro i row hr
    unfold rowsBehind at hr
    split at hr
    · rename_i q hq
      obtain ⟨h1, h2⟩ := find_xid ho hq
      obtain ⟨x, hx, rfl⟩ := Option.map_eq_some_iff.1 hr
      exact .inl ⟨q, x, h1, h2.symm, hx, rfl⟩
    · rename_i hq
      split at hr
      · rename_i j hj
        obtain ⟨x, hx, rfl⟩ := Option.map_eq_some_iff.1 hr
        refine .inr (.inl ⟨j, x, idx_spec hj, ?_, rfl⟩)
        cases e : r.passed[j]? with
        | none => rw [e] at hx; simp at hx
        | some y => rw [e] at hx; simp at hx; rw [hx]
      · rename_i hj
        refine .inr (.inr ⟨fun hm => ?_, find_xid_none hq, hr⟩)
        obtain ⟨j, hj2⟩ := List.mem_iff_getElem?.1 hm
        rw [nodup_idx hnd hj2] at hj
        cases hj
  have backRow : ∀ q x, (rowsBack r) q = some x → RowOK (Fset w muc ids.length) w' M' mu' q x := fun q x hx => hc.rows q x hx
  have bX : ∀ (q : Nat) (x : Row), r.out[q]? = some x → rowsBack r (XB + q) = some x := fun q x hx => by
    unfold rowsBack
    rw [if_pos (Nat.le_add_right _ _), Nat.add_sub_cancel_left]
    exact hx
  have bP : ∀ (j : Nat) (x : Row), j < ids.length → r.passed[j]? = some (some x) → rowsBack r (PB + j) = some x := fun j x hj hx => by
    unfold rowsBack
    rw [if_neg (Nat.not_le.2 (pinned j hj).2), if_pos (Nat.le_add_right _ _), Nat.add_sub_cancel_left, hx]
    rfl
  -- facts carried up to M2
  have up0 : ∀ (q : Nat) (x : Row), rowsBack r q = some x → (PB ≤ q ∧ q < XB → ids ≠ []) → (XB ≤ q → x ∈ r.out) → (XB ≤ q ∨ (PB ≤ q ∧ q < XB)) → RowOK (Fset w muc ids.length) w' M2 mu' q x := by
    intro q x hx hP hX hor
    rcases hup with hs | ⟨hnil, hres, hall⟩
    · rw [hM2eq hs]; exact backRow q x hx
    · have hXq : XB ≤ q := by
        rcases hor with h | h
        · exact h
        · exact absurd hnil (hP h)
      obtain ⟨hw, hn⟩ := hall x (hX hXq)
      obtain ⟨l, e, hh⟩ := backRow q x hx
      refine ⟨l, e, ?_⟩
      cases l with
      | nowhere => exact ContRep.noImm hn hh
      | at_ b base size =>
        obtain ⟨cs, T, cv, h1, h2, h3, h4, h5, h6, h7⟩ := hh
        exact ⟨cs, T, cv, h1, h2, h3.noImm hn, h4, h5, fun hw => ⟨.inl (h6 hw).1, (h6 hw).2⟩, fun hf => by rw [hw] at hf; cases hf⟩
  have upRow : ∀ (q i : Nat) (x : Row), rowsBack r q = some x → mu2 i = mu' q → (PB ≤ q ∧ q < XB → ids ≠ []) → (XB ≤ q → x ∈ r.out) → (XB ≤ q ∨ (PB ≤ q ∧ q < XB)) → RowOK F w' M2 mu2 i (x.ren (outF ids dst r.out.length)) := by
    intro q i x hx hi hP hX hor
    refine ((up0 q x hx hP hX hor).ren (id' := i) hout hi).widen fun b hb hw => ?_
    rw [hi] at hb
    obtain ⟨o1, o2, _⟩ := hc.own hx hb
    rcases (o2 hw).2 with h2 | h2
    · exact h.fr b (Nat.le_trans h.keeps.size h2)
    · exact (hPass b h2).2.2
  have resUp : Rep w' M2 mu' r.res v := by
    have h0 := hc.env
    simp only [RepL] at h0
    rcases hup with hs | ⟨hnil, hres, hall⟩
    · rw [hM2eq hs]; exact h0.1
    · exact Rep.noImm hres h0.1
  have mem_of : ∀ {q : Nat} {x : Row}, r.out[q]? = some x → x ∈ r.out := fun h => List.mem_of_getElem? h
  -- an old row that was not handed over: its block is left alone
  have oldBlock : ∀ i row b, i ∉ ids → s.rows i = some row → row.wr = true → blockOf (mu2 i) = some b → b < w.heap.size ∧ M b ∧ ¬ Fset w muc ids.length b := by
    intro i row b hi hr hw hb
    obtain ⟨o1, o2, _⟩ := hs.own hr hb
    refine ⟨o1, (o2 hw).1, ?_⟩
    rintro (h1 | ⟨j, hj, hbj⟩)
    · omega
    · have hij := List.getElem?_eq_getElem hj
      obtain ⟨row', hr', hw'⟩ := hrows j _ hij
      rw [hmuc j _ hij] at hbj
      -- the row handed over may have been given up in s; compare in st
      obtain ⟨r0, e0, w0'⟩ := (hsrows i).2 row hr
      have hio : i ∉ outIds dst r.out.length := fun hm => by
        have := (hsrows i).1 (List.mem_append.2 (.inr hm))
        rw [hr] at this; cases this
      rw [hmu2 i hio] at hb
      exact h.apart i ids[j] r0 row' b (fun e => hi (e ▸ List.mem_of_getElem? hij)) e0 hr' (w0' ▸ hw) hw' hb hbj
  refine ⟨M2, mu2, { env := RepL.keeps hkM hM2 (fun _ _ e => e) _ hs.env, rows := ?_, apart := ?_, keeps := h.keeps.trans hkF, m1 := fun b hb hm => h.m1 b hb (hM2 b (Nat.lt_of_lt_of_le hb h.keeps.size) hm), m2 := ?_, mlt := ?_, fr := h.fr, glob := fun g d hg => Rep.keeps hkM hM2 (fun _ _ h => h) d (h.glob g d hg), pin := hs.pin }, Rep.ren hout _ resUp, hmu2⟩
  · intro i row hr
    rcases kind i row hr with ⟨q, x, hq, rfl, hx, rfl⟩ | ⟨j, x, hj, hx, rfl⟩ | ⟨h1, h2, h3⟩
    · exact upRow (XB + q) _ x (bX q x hx) (hmu2x q hq) (fun hh => absurd hh.2 (Nat.not_lt.2 (Nat.le_add_right _ _))) (fun _ => mem_of hx) (.inl (Nat.le_add_right _ _))
    · have hjl := hlt j i hj
      exact upRow (PB + j) _ x (bP j x hjl hx) (hmu2p j i hj) (fun _ e => by rw [e] at hj; simp at hj) (fun hh => absurd hh (Nat.not_le.2 (pinned j hjl).2)) (.inr (pinned j hjl))
    · refine (hs.rows i row h3).keeps hkM hM2 (fun _ _ e => e) fun b hb hw => ?_
      obtain ⟨o1, o2, o3⟩ := oldBlock i row b h1 h3 hw hb
      exact ⟨hc.keeps.block b o1 o3, .inr ⟨o2, fun hp => o3 (.inr hp)⟩⟩
  · -- apart
    have newBlock : ∀ i row b, (∃ q x, rowsBack r q = some x ∧ mu2 i = mu' q ∧ row = x.ren (outF ids dst r.out.length)) → row.wr = true → blockOf (mu2 i) = some b → Fset w muc ids.length b := by
      rintro i row b ⟨q, x, hx, hm, rfl⟩ hw hb
      rw [hm] at hb
      exact ((hc.own hx hb).2.1 hw).2
    have toBack : ∀ i row, rowsBehind ids dst r s.rows i = some row → (∃ q x, rowsBack r q = some x ∧ mu2 i = mu' q ∧ row = x.ren (outF ids dst r.out.length) ∧ outF ids dst r.out.length q = some i) ∨ (i ∉ ids ∧ i ∉ outIds dst r.out.length ∧ s.rows i = some row) := by
      intro i row hr
      rcases kind i row hr with ⟨q, x, hq, rfl, hx, rfl⟩ | ⟨j, x, hj, hx, rfl⟩ | h3
      · refine .inl ⟨XB + q, x, bX q x hx, hmu2x q hq, rfl, ?_⟩
        unfold outF
        rw [if_pos (Nat.le_add_right _ _), Nat.add_sub_cancel_left, if_pos hq]
      · have hjl := hlt j i hj
        refine .inl ⟨PB + j, x, bP j x hjl hx, hmu2p j i hj, rfl, ?_⟩
        unfold outF
        rw [if_neg (Nat.not_le.2 (pinned j hjl).2), if_pos (Nat.le_add_right _ _), Nat.add_sub_cancel_left]
        exact hj
      · exact .inr h3
    intro i j ri rj b hij hi hj mi mj bi bj
    rcases toBack i ri hi with ⟨q, x, hx, hm, rfl, hq⟩ | ⟨i1, i2, i3⟩ <;> rcases toBack j rj hj with ⟨q', x', hx', hm', rfl, hq'⟩ | ⟨j1, j2, j3⟩
    · refine hc.apart q q' x x' b (fun e => ?_) hx hx' mi mj (by rw [← hm]; exact bi) (by rw [← hm']; exact bj)
      rw [e, hq'] at hq
      cases hq
      exact hij rfl
    · exact (oldBlock j rj b j1 j3 mj bj).2.2 (newBlock i _ b ⟨q, x, hx, hm, rfl⟩ mi bi)
    · exact (oldBlock i ri b i1 i3 mi bi).2.2 (newBlock j _ b ⟨q', x', hx', hm', rfl⟩ mj bj)
    · exact hs.apart i j ri rj b hij i3 j3 mi mj bi bj
  · intro b hb hF
    refine .inr ⟨h.m2 b hb hF, fun hp => hF (hPass b hp).2.2⟩
  · intro b hb
    rcases hb with h1 | h1
    · exact hc.mlt b h1
    · exact Nat.lt_of_lt_of_le (h.mlt b h1.1) hc.keeps.size

end
end Go.PR
