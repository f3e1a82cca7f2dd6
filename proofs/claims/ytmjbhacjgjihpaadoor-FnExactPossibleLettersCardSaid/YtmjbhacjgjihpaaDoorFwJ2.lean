/- Settled values; writes of elements: sound. -/
import Derived.Test.YtmjbhacjgjihpaaDoorFwX
import Derived.Deep.AppendSrc
import Derived.Deep.Upon
import Derived.Lib.SliceRun
import Derived.Lib.AppendZeros
set_option linter.unusedVariables false
set_option linter.unusedSimpArgs false
set_option linter.unusedSectionVars false
section
namespace Go.PR
open Go
section
variable {P : Program} {X : Ctx} {G : Nat → Option D} {F : Nat → Prop} {w0 w w' : World} {M0 : Entry} {M : Nat → Prop} {mu : Nat → Option Loc} {tmps : Array Value} {a : Act} {st : St}
def Less (M : Nat → Prop) (mu : Nat → Option Loc) (rows : Nat → Option Row) (Z : List Nat) : Nat → Prop := fun b => M b ∧ ¬ ∃ r row, Z.contains r = true ∧ rows r = some row ∧ InB (mu r) b
theorem z8d {α β : Type} {f : α → Option β} : ∀ {l : List α} {l' : List β}, mapO f l = some l' → l'.length = l.length ∧ ∀ (i : Nat) (y : β), l'[i]? = some y → ∃ x, l[i]? = some x ∧ f x = some y
  | [], l', h => by simp [mapO] at h; subst h; simp
  | x :: l, l', h => by
    simp only [mapO] at h
    split at h
    · rename_i b bs h1 h2
      cases h
      obtain ⟨g1, g2⟩ := z8d h2
      refine ⟨by simp [g1], fun i y hy => ?_⟩
      cases i with
      | zero => simp at hy; subst hy; exact ⟨x, by simp, h1⟩
      | succ i => simpa using g2 i y (by simpa using hy)
    · cases h
theorem z3o {f : D → Option D} {M' : Nat → Prop} {mu' : Nat → Option Loc} (hf : ∀ d d' v, f d = some d' → Rep w M mu d v → Rep w M' mu' d' v) : ∀ {ds ds' : List D} {vs : List Value}, mapO f ds = some ds' → RepL w M mu ds vs → RepL w M' mu' ds' vs
  | [], ds', [], h, _ => by simp [mapO] at h; subst h; simp only [RepL]
  | [], _, _ :: _, _, h => by simp only [RepL] at h
  | _ :: _, _, [], _, h => by simp only [RepL] at h
  | d :: ds, ds', v :: vs, h, hr => by
    simp only [mapO] at h
    split at h
    · rename_i b bs h1 h2
      cases h
      simp only [RepL] at hr ⊢
      exact ⟨hf _ _ _ h1 hr.1, z3o hf h2 hr.2⟩
    · cases h
theorem ContRep.sub {c : Cont} {cv : List Value} {M' : Nat → Prop} {mu' : Nat → Option Loc} (hM : ∀ b, M' b → M b) (h : ContRep w M mu c cv) (hv : c.isVar = false) : ContRep w M' mu' c cv := by
  cases c with
  | mp kk vk es => cases hv
  | nest k xss => cases hv
  | ints k xs => exact h
  | bools xs => exact h
  | ints2 k xss => exact All2.imp (fun _ _ h => h.keeps (Keeps.refl _ _) (fun b _ hb => hM b hb)) h
  | gen els => exact ⟨RepL.keeps (Keeps.refl _ _) (fun b _ hb => hM b hb) (fun _ _ h => h) els h.1, h.2⟩
  | var cells => cases hv
  | recs sh ps => cases hv
theorem zg9 {c : Cont} {off n : Nat} {d : D} (h : c.imm off n = some d) : c.isVar = false := by
  cases c <;> simp_all [Cont.imm, Cont.isVar]
theorem z3t (h : SR G F w0 M0 w M mu tmps st) (Z : List Nat) (mu' : Nat → Option Loc) : ∀ (n : Nat) (d d' : D) (v : Value), reify st.rows Z n d = some d' → Rep w M mu d v → Rep w (Less M mu st.rows Z) mu' d' v
  | 0, d, d', v, h0, _ => by simp [reify] at h0
  | n + 1, d, d', v, h0, hr => by
    have hL : ∀ b, b < w.heap.size → Less M mu st.rows Z b → M b := fun b _ hb => hb.1
    have keep0 : ∀ (d : D) {v : Value}, Rep w M mu0 d v → Rep w (Less M mu st.rows Z) mu' d v := fun d v hr => Rep.keeps (Keeps.refl _ _) hL (fun r l e => by simp [mu0] at e) d hr
    have cellAt : ∀ (r : Nat) (row : Row) (b base size : Nat), Z.contains r = true → st.rows r = some row → mu r = some (.at_ b base size) → ¬ Less M mu st.rows Z b := fun r row b base size hz hrow hl hh => hh.2 ⟨r, row, hz, hrow, by rw [hl]; rfl⟩
    cases d <;> simp only [reify] at h0
    case any => cases h0; simp only [Rep]
    case und => cases h0; simpa only [Rep] using hr
    case nil => cases h0; simpa only [Rep] using hr
    case bool => cases h0; simpa only [Rep] using hr
    case int => cases h0; simpa only [Rep] using hr
    case str => cases h0; simpa only [Rep] using hr
    case immI k xs => cases h0; simp only [Rep] at hr ⊢; exact hr.keeps (Keeps.refl _ _) hL
    case immB xs => cases h0; simp only [Rep] at hr ⊢; exact hr.keeps (Keeps.refl _ _) hL
    case imm2 k xss =>
      cases h0; simp only [Rep] at hr ⊢
      obtain ⟨cv, h1, h2⟩ := hr
      exact ⟨cv, h1.imp (fun _ _ h => h.keeps (Keeps.refl _ _) hL), h2.keeps (Keeps.refl _ _) hL⟩
    case immG els =>
      cases h0; simp only [Rep] at hr ⊢
      obtain ⟨cv, h1, h2, h3⟩ := hr
      exact ⟨cv, RepL.keeps (Keeps.refl _ _) hL (fun _ _ h => h) els h1, h2, h3.keeps (Keeps.refl _ _) hL⟩
    case immR sh ps =>
      cases h0; simp only [Rep] at hr ⊢
      obtain ⟨A, c, cv, e, h1, h2, h3⟩ := hr
      exact ⟨A, c, cv, e, h1, h2.keeps (Keeps.refl _ _) hL, h3.keeps (Keeps.refl _ _) hL⟩
    case pim cells =>
      cases h0; simp only [Rep] at hr ⊢
      obtain ⟨ad, cv, e, h1, h2⟩ := hr
      exact ⟨ad, cv, e, RepL.keeps (Keeps.refl _ _) hL (fun _ _ h => h) cells h1, h2.keeps (Keeps.refl _ _) hL⟩
    case fn f cap =>
      obtain ⟨cap', h1, rfl⟩ := Option.map_eq_some_iff.1 h0
      simp only [Rep] at hr ⊢
      obtain ⟨cv, e, hr⟩ := hr
      exact ⟨cv, e, z3o (z3t h Z mu' n) h1 hr⟩
    case agg cs =>
      obtain ⟨cs', h1, rfl⟩ := Option.map_eq_some_iff.1 h0
      simp only [Rep] at hr ⊢
      obtain ⟨cv, e, hr⟩ := hr
      exact ⟨cv, e, z3o (z3t h Z mu' n) h1 hr⟩
    case tup vs =>
      obtain ⟨cs', h1, rfl⟩ := Option.map_eq_some_iff.1 h0
      simp only [Rep] at hr ⊢
      obtain ⟨cv, e, hr⟩ := hr
      exact ⟨cv, e, z3o (z3t h Z mu' n) h1 hr⟩
    case rsl r off m =>
      split at h0
      case isFalse => cases h0
      rename_i hz
      split at h0
      case h_2 => cases h0
      rename_i row hrow
      split at h0
      case isFalse => cases h0
      rename_i hle
      obtain ⟨l, e, hh⟩ := h.rows r row hrow
      simp only [Rep] at hr
      obtain ⟨l', e', hs⟩ := hr
      rw [e] at e'
      cases e'
      have hnv := zg9 h0
      cases l with
      | nowhere =>
        have hc : ContRep w M mu row.c [] := hh
        simp only [Loc.slice] at hs
        obtain ⟨rfl, A, rfl⟩ := hs
        refine Cont.imm_rep (M := Less M mu st.rows Z) (hc.sub (fun b hb => hb.1) hnv) hle h0 ?_
        exact ⟨A, 0, by simp, by simp, .inl (by simp)⟩
      | mapAt b => exact absurd hs id
      | nest => exact absurd hs id
      | at_ b base size =>
        obtain ⟨cs, T, cv, h1, h2, h3, h4, h5, h6, h7⟩ := hh
        have hlen := h3.len
        refine Cont.imm_rep (M := Less M mu st.rows Z) (h3.sub (fun b hb => hb.1) hnv) hle h0 ?_
        have hl2 : ((cv.drop off).take m).length = m := by simp; omega
        simp only [Loc.slice] at hs
        rcases hs with ⟨rfl, _, A, rfl⟩ | ⟨c, rfl, hmc, hsz⟩
        · exact ⟨A, 0, by simp, by simp, .inl (by simp)⟩
        · refine ⟨_, _, by rw [hl2], by omega, .inr ⟨_, rfl, cellAt r row b base size hz hrow e, fun j hj => ?_⟩⟩
          rw [hl2] at hj
          rw [zb, List.getElem?_take, if_pos hj, List.getElem?_drop]
          have := h5 (off + j) (by omega)
          simp only [World.cell?, h1]
          rw [Nat.add_assoc, this]
          simp
    case mpr r => cases h0
    case npe r j => cases h0
    case nep r j i => cases h0
    case rpe r sz j f => cases h0
    case rcs r sz m =>
      split at h0
      case isFalse => cases h0
      rename_i hz
      split at h0
      case h_2 => cases h0
      rename_i wr sh ps hrow
      split at h0
      case isFalse => cases h0
      rename_i hm
      obtain ⟨rfl, rfl⟩ := hm
      cases h0
      simp only [Rep] at hr ⊢
      obtain ⟨l', e', hs⟩ := hr
      obtain ⟨l, e, hh⟩ := h.rows r _ hrow
      rw [e] at e'
      obtain rfl := Option.some.inj e'
      cases l with
      | nowhere =>
        obtain ⟨h0, A, rfl⟩ := hs
        have hx : ps = [] := List.length_eq_zero_iff.1 h0
        subst hx
        exact ⟨A, 0, [], rfl, Nat.le_refl _, rfl, .inl rfl⟩
      | at_ b base size =>
        obtain ⟨c, rfl, hle, hsz⟩ := hs
        obtain ⟨cs, T, cv, h1, h2, h3, h4, h5, h6, h7⟩ := hh
        have h3 : rcdsRep w M sh ps cv := h3
        refine ⟨_, c, cv, rfl, hle, h3.keeps (Keeps.refl _ _) hL, .inr ⟨_, rfl, cellAt r _ b base size hz hrow e, fun j hj => ?_⟩⟩
        rw [zb]
        simp only [World.cell?, h1]
        rw [h5 j hj]
        simp
      | _ => exact absurd hs id
    case nsl r m =>
      split at h0
      case isFalse => cases h0
      rename_i hz
      split at h0
      case h_2 => cases h0
      rename_i wr k xss hrow
      split at h0
      case isFalse => cases h0
      rename_i hm
      cases h0
      simp only [Rep] at hr ⊢
      obtain ⟨l', e', hs⟩ := hr
      obtain ⟨l, e, hh⟩ := h.rows r _ hrow
      rw [e] at e'
      obtain rfl := Option.some.inj e'
      cases l with
      | nowhere =>
        obtain ⟨h0, A, rfl⟩ := hs
        have hx : xss = [] := List.length_eq_zero_iff.1 (by omega)
        subst hx
        exact ⟨[], trivial, A, 0, rfl, Nat.le_refl _, .inl rfl⟩
      | nest b base size inn =>
        obtain ⟨rfl, hle⟩ := hs
        obtain ⟨cs, T, cv, fl, h1, h2, hfl, h3, h4, h5, h8, h6, h7⟩ := hh
        cases hfl
        have hno : ∀ x ∈ b :: z5 inn, ¬ Less M mu st.rows Z x := fun x hx hh => hh.2 ⟨r, _, hz, hrow, by rw [e]; exact hx⟩
        have hl : cv.length = xss.length := by have := h3.len.2; simpa using this
        refine ⟨cv, h3.sl fun x hx => hno x (List.mem_cons_of_mem _ hx), _, size, by rw [hl, hm], by omega, .inr ⟨_, rfl, hno b List.mem_cons_self, fun j hj => ?_⟩⟩
        rw [zb]
        simp [World.cell?, h1, h5 j hj]
      | _ => exact absurd hs id
    case nel r j m =>
      split at h0
      case isFalse => cases h0
      rename_i hz
      split at h0
      case h_2 => cases h0
      rename_i wr k xss hrow
      split at h0
      case h_2 => cases h0
      rename_i xs hxs
      split at h0
      case isFalse => cases h0
      rename_i hm
      cases h0
      simp only [Rep] at hr ⊢
      obtain ⟨l', e', hs⟩ := hr
      obtain ⟨l, e, hh⟩ := h.rows r _ hrow
      rw [e] at e'
      obtain rfl := Option.some.inj e'
      cases l with
      | nest b base size inn =>
        obtain ⟨cs, T, cv, fl, h1, h2, hfl, h3, h4, h5, h8, h6, h7⟩ := hh
        cases hfl
        have hno : ∀ x ∈ b :: z5 inn, ¬ Less M mu st.rows Z x := fun x hx hh => hh.2 ⟨r, _, hz, hrow, by rw [e]; exact hx⟩
        obtain ⟨i, u, hi, hu, hc⟩ := h3.at j (.row k xs) (by simp [hxs])
        have hmem : ∀ b', i.map (·.1) = some b' → ¬ Less M mu st.rows Z b' := fun b' eb => hno b' (List.mem_cons_of_mem _ (zq.2 ⟨i, List.mem_of_getElem? hi, eb⟩))
        have key := hc.sl (M := Less M mu st.rows Z) hmem
        simp only [Loc.inner, hi] at hs
        cases i with
        | none =>
          obtain ⟨h0, A, rfl⟩ := hs
          have hx : xs = [] := List.length_eq_zero_iff.1 (by omega)
          subst hx
          exact ⟨A, 0, rfl, Nat.le_refl _, .inl rfl⟩
        | some p =>
          obtain ⟨b', base', size'⟩ := p
          obtain ⟨rfl, _⟩ := hs
          obtain ⟨cs', T', g1, g2, g3, rfl, g4⟩ := hc
          rw [hm]; exact key
      | _ => exact absurd hs id
    case ptr r off =>
      split at h0
      case isFalse => cases h0
      rename_i hz
      split at h0
      case h_2 => cases h0
      rename_i wr cells hrow
      obtain ⟨cells', h1, rfl⟩ := Option.map_eq_some_iff.1 h0
      simp only [Rep] at hr ⊢
      obtain ⟨l', e', hs⟩ := hr
      obtain ⟨l, e, hh⟩ := h.rows r _ hrow
      rw [e] at e'
      cases e'
      cases l' with
      | nowhere => simp [Loc.cell] at hs
      | mapAt b => simp [Loc.cell] at hs
      | nest => simp [Loc.cell] at hs
      | at_ b base size =>
        simp only [Loc.cell] at hs
        subst hs
        obtain ⟨cs, T, cv, g1, g2, g3, g4, g5, g6, g7⟩ := hh
        refine ⟨_, cv.drop off, rfl, z3o (z3t h Z mu0 n) h1 (g3.1.drop off), ?_⟩
        refine .inr ⟨_, rfl, cellAt r _ b base size hz hrow e, fun j hj => ?_⟩
        rw [zb, List.getElem?_drop]
        have := g5 (off + j) (by simp at hj; omega)
        simp only [World.cell?, g1]
        rw [Nat.add_assoc, this]
        simp
    case pel r j =>
      split at h0
      case isFalse => cases h0
      rename_i hz
      split at h0
      case h_2 => cases h0
      rename_i row hrow
      split at h0
      case isTrue => cases h0
      rename_i hnv
      obtain ⟨d0, hd0, rfl⟩ := Option.map_eq_some_iff.1 h0
      simp only [Rep] at hr ⊢
      obtain ⟨l', e', hs⟩ := hr
      obtain ⟨l, e, hh⟩ := h.rows r _ hrow
      rw [e] at e'
      cases e'
      cases l' with
      | nowhere => simp [Loc.cell] at hs
      | mapAt b => simp [Loc.cell] at hs
      | nest => simp [Loc.cell] at hs
      | at_ b base size =>
        simp only [Loc.cell] at hs
        subst hs
        obtain ⟨cs, T, cv, g1, g2, g3, g4, g5, g6, g7⟩ := hh
        obtain ⟨u, hu, _, hu0⟩ := g3.get hd0
        have hj : j < cv.length := by
          rcases Nat.lt_or_ge j cv.length with h | h
          · exact h
          · rw [List.getElem?_eq_none h] at hu; cases hu
        refine ⟨_, [u], rfl, by simp only [RepL]; exact ⟨Rep.keeps (Keeps.refl _ _) hL (fun _ _ h => h) d0 (hu0 (by simpa using hnv)), trivial⟩, .inr ⟨_, rfl, cellAt r _ b base size hz hrow e, fun q hq => ?_⟩⟩
        simp at hq
        subst hq
        have := g5 j hj
        simp [Addr.add, World.cell?, g1, this, hu]
theorem SR.freeze (h : SR G F w0 M0 w M mu tmps st) (Z : List Nat) : SR G F w0 M0 w (Less M mu st.rows Z) mu tmps (st.freeze Z) := by
  have hL : ∀ b, b < w.heap.size → Less M mu st.rows Z b → M b := fun b _ hb => hb.1
  have rowOf : ∀ i ri, (st.freeze Z).rows i = some ri → ∃ r0, st.rows i = some r0 ∧ ri.c = r0.c ∧ ((Z.contains i = true ∧ ri.wr = false) ∨ (Z.contains i = false ∧ ri = r0)) := by
    intro i ri hi
    simp only [St.freeze] at hi
    split at hi
    · rename_i r0 e0
      split at hi
      · rename_i hz; cases hi; exact ⟨_, e0, rfl, .inl ⟨hz, rfl⟩⟩
      · rename_i hz; cases hi; exact ⟨_, e0, rfl, .inr ⟨by simpa using hz, rfl⟩⟩
    · cases hi
  refine { env := RepL.keeps (Keeps.refl _ _) hL (fun _ _ h => h) _ h.env, rows := ?_, apart := ?_, keeps := h.keeps, m1 := fun b hb hm => h.m1 b hb hm.1, m2 := ?_, mlt := fun b hb => h.mlt b hb.1, fr := h.fr, glob := fun g d hg => Rep.keeps (Keeps.refl _ _) hL (fun _ _ h => h) d (h.glob g d hg), pin := h.pin }
  · intro i ri hi
    obtain ⟨r0, e0, hc, hor⟩ := rowOf i ri hi
    obtain ⟨l, e, hh⟩ := h.rows i r0 e0
    refine ⟨l, e, ?_⟩
    cases l with
    | nowhere => rw [hc]; exact ContRep.keeps (Keeps.refl _ _) hL (fun _ _ h => h) hh
    | mapAt b =>
      obtain ⟨arr, clock, h1, h2, h3, h6, h7⟩ := hh
      refine ⟨arr, clock, h1, by rw [hc]; exact h2, by rw [hc]; exact h3.keeps (Keeps.refl _ _) hL (fun _ _ h => h), ?_, ?_⟩
      · intro hw
        rcases hor with ⟨_, hf⟩ | ⟨hz, rfl⟩
        · rw [hf] at hw; cases hw
        · refine ⟨⟨(h6 hw).1, ?_⟩, (h6 hw).2⟩
          rintro ⟨r, row, hzr, hrow, hb⟩
          have hne : i ≠ r := fun e => by rw [e, hzr] at hz; cases hz
          cases hwr : row.wr with
          | true => exact h.apart i r ri row b hne e0 hrow hw hwr (by rw [e]; rfl) hb
          | false => exact ((h.rows r row hrow).block hb).2.2 hwr (h6 hw).1
      · intro hw
        rcases hor with ⟨hz, _⟩ | ⟨hz, rfl⟩
        · rintro ⟨_, hno⟩
          exact hno ⟨i, r0, hz, e0, by rw [e]; rfl⟩
        · rintro ⟨hMb, _⟩
          exact h7 hw hMb
    | nest b0 base size inn =>
      obtain ⟨cs, T, cv, fl, h1, h2, hfl, h3, h4, h5, h8, h6, h7⟩ := hh
      refine ⟨cs, T, cv, fl, h1, h2, by rw [hc]; exact hfl, h3, h4, h5, h8, ?_, ?_⟩
      · intro hw b hbm
        rcases hor with ⟨_, hf⟩ | ⟨hz, rfl⟩
        · rw [hf] at hw; cases hw
        · refine ⟨⟨(h6 hw b hbm).1, ?_⟩, (h6 hw b hbm).2⟩
          rintro ⟨r, row, hzr, hrow, hb⟩
          have hne : i ≠ r := fun e => by rw [e, hzr] at hz; cases hz
          cases hwr : row.wr with
          | true => exact h.apart i r ri row b hne e0 hrow hw hwr (by rw [e]; exact hbm) hb
          | false => exact ((h.rows r row hrow).block hb).2.2 hwr (h6 hw b hbm).1
      · intro hw b hbm
        rcases hor with ⟨hz, _⟩ | ⟨hz, rfl⟩
        · exact fun hM => hM.2 ⟨i, r0, hz, e0, by rw [e]; exact hbm⟩
        · exact fun hM => h7 hw b hbm hM.1
    | at_ b base size =>
      obtain ⟨cs, T, cv, h1, h2, h3, h4, h5, h6, h7⟩ := hh
      refine ⟨cs, T, cv, h1, h2, by rw [hc]; exact h3.keeps (Keeps.refl _ _) hL (fun _ _ h => h), h4, h5, ?_, ?_⟩
      · intro hw
        rcases hor with ⟨_, hf⟩ | ⟨hz, rfl⟩
        · rw [hf] at hw; cases hw
        · refine ⟨⟨(h6 hw).1, ?_⟩, (h6 hw).2⟩
          rintro ⟨r, row, hzr, hrow, hb⟩
          have hne : i ≠ r := fun e => by rw [e, hzr] at hz; cases hz
          cases hwr : row.wr with
          | true => exact h.apart i r ri row b hne e0 hrow hw hwr (by rw [e]; rfl) hb
          | false =>
            exact ((h.rows r row hrow).block hb).2.2 hwr (h6 hw).1
      · intro hw
        rcases hor with ⟨hz, _⟩ | ⟨hz, rfl⟩
        · exact fun hM => hM.2 ⟨i, r0, hz, e0, by rw [e]; rfl⟩
        · exact fun hM => h7 hw hM.1
  · intro i j ri rj b hij hi hj mi mj bi bj
    obtain ⟨r0, e0, _, h0⟩ := rowOf i ri hi
    obtain ⟨r1, e1, _, h1⟩ := rowOf j rj hj
    rcases h0 with ⟨_, hf⟩ | ⟨_, rfl⟩
    · rw [hf] at mi; cases mi
    · rcases h1 with ⟨_, hf⟩ | ⟨_, rfl⟩
      · rw [hf] at mj; cases mj
      · exact h.apart i j _ _ b hij e0 e1 mi mj bi bj
  · intro b hb hF
    refine ⟨h.m2 b hb hF, ?_⟩
    rintro ⟨r, row, hzr, hrow, hbl⟩
    obtain ⟨_, h62, h72⟩ := (h.rows r row hrow).block hbl
    cases hwr : row.wr with
    | true => exact hF (h62 hwr).2
    | false => exact h72 hwr (h.m2 b hb hF)
theorem z89 {Z : List Nat} (h : Z = ([] : List Nat)) : Less M mu st.rows Z = M := by
  subst h
  funext b
  simp [Less]
theorem SR.settle (h : SR G F w0 M0 w M mu tmps st) {d d' : D} {s : St} {v : Value} (hs : settle st d = some (d', s)) (hv : Rep w M mu d v) :
    ∃ M', (∀ b, M' b → M b) ∧ SR G F w0 M0 w M' mu tmps s ∧ ∀ mu', Rep w M' mu' d' v := by
  unfold Go.PR.settle at hs
  dsimp only at hs
  generalize reach st.rows [d] = Z at hs
  obtain ⟨d0, h0, h1⟩ := Option.map_eq_some_iff.1 hs
  cases h1
  refine ⟨Less M mu st.rows Z, fun b hb => hb.1, ?_, fun mu' => z3t h Z mu' _ _ _ _ h0 hv⟩
  cases Z with
  | nil => rw [z89 rfl]; exact h
  | cons z zs => exact h.freeze (z :: zs)
theorem zce {d : D} (hp : d.plain = true) {v : Value} (h : Rep w M mu d v) : v.oneCell' = true ∧ ∀ mu', Rep w M mu' d v := by
  cases d <;> simp [D.plain] at hp <;> simp only [Rep] at h ⊢
  case bool => subst h; exact ⟨rfl, fun _ => rfl⟩
  case int => subst h; exact ⟨rfl, fun _ => rfl⟩
  case str => subst h; exact ⟨rfl, fun _ => rfl⟩
  case nil => obtain ⟨A, rfl, hA⟩ := h; exact ⟨rfl, fun _ => ⟨A, rfl, hA⟩⟩
  case immI => exact ⟨by obtain ⟨A, c, e, _⟩ := h; rw [e]; rfl, fun _ => h⟩
  case immB => exact ⟨by obtain ⟨A, c, e, _⟩ := h; rw [e]; rfl, fun _ => h⟩
  case imm2 => exact ⟨by obtain ⟨cv, _, A, c, e, _⟩ := h; rw [e]; rfl, fun _ => h⟩
  case immG => exact ⟨by obtain ⟨cv, _, _, A, c, e, _⟩ := h; rw [e]; rfl, fun _ => h⟩
  case pim => exact ⟨by obtain ⟨ad, cv, e, _⟩ := h; rw [e]; rfl, fun _ => h⟩
theorem All2.set {α β : Type} {R : α → β → Prop} {x : α} {y : β} (hxy : R x y) : ∀ (n : Nat) {as : List α} {bs : List β}, All2 R as bs → All2 R (as.set n x) (bs.set n y)
  | _, [], [], _ => by simp [All2]
  | 0, _ :: _, _ :: _, h => ⟨hxy, h.2⟩
  | n + 1, _ :: _, _ :: _, h => ⟨h.1, All2.set hxy n h.2⟩
theorem ContRep.setEl {c c' : Cont} {cv : List Value} (h : ContRep w M mu c cv) {j : Nat} {d : D} {v : Value} (hv : Rep w M mu d v) (hs : c.set j d = some c') : ContRep w M mu c' (cv.set j v) ∧ j < cv.length ∧ v.oneCell' = true := by
  have hlen := h.len
  cases c with
  | mp kk vk es => cases d <;> simp [Cont.set] at hs
  | nest k xss => cases d <;> simp [Cont.set] at hs
  | recs sh ps => cases d <;> simp [Cont.set] at hs
  | ints k xs =>
    simp only [ContRep] at h; subst h
    cases d <;> simp only [Cont.set] at hs <;> try cases hs
    split at hs <;> cases hs
    rename_i k' n hh
    obtain ⟨rfl, hj⟩ := hh
    simp only [Rep] at hv; subst hv
    exact ⟨by simp [ContRep, intsV, List.map_set], by simpa [intsV] using hj, rfl⟩
  | bools xs =>
    simp only [ContRep] at h; subst h
    cases d <;> simp only [Cont.set] at hs <;> try cases hs
    split at hs <;> cases hs
    rename_i n hj
    simp only [Rep] at hv; subst hv
    exact ⟨by simp [ContRep, boolsV, List.map_set], by simpa [boolsV] using hj, rfl⟩
  | ints2 k xss =>
    simp only [ContRep] at h
    cases d <;> simp only [Cont.set] at hs <;> try cases hs
    · split at hs <;> cases hs
      rename_i kk hj
      simp only [Rep] at hv
      obtain ⟨A, rfl, hA⟩ := hv
      exact ⟨All2.set (R := fun xs u => SlV w M (intsV k xs) u) (x := []) ⟨A, 0, by simp [intsV], by simp [intsV], .inl (by simp [intsV])⟩ j h, by rw [hlen]; exact hj, rfl⟩
    · split at hs <;> cases hs
      rename_i k' ys hh
      obtain ⟨rfl, hj⟩ := hh
      simp only [Rep] at hv
      exact ⟨All2.set (R := fun xs u => SlV w M (intsV k xs) u) hv j h, by rw [hlen]; exact hj, by obtain ⟨A, c, e, _⟩ := hv; rw [e]; rfl⟩
  | gen els =>
    simp only [Cont.set] at hs
    split at hs <;> cases hs
    rename_i hh
    obtain ⟨g1, g2⟩ := zce hh.1 hv
    refine ⟨⟨RepL.set (g2 mu0) j h.1, fun u hu => ?_⟩, by rw [hlen]; exact hh.2, g1⟩
    rcases List.mem_or_eq_of_mem_set hu with h1 | h1
    · exact h.2 u h1
    · rw [h1]; exact g1
  | var cells => simp [Cont.set] at hs
theorem SR.storeEl (hX : XOK P X) (h : SR G F w0 M0 w M mu tmps st) {t : TypeId} {i : TI} (ht : X.tt t = some i) (hsz : i.size = 1) {r j : Nat} {d : D} {u v : Value} (hu : Rep w M mu (.pel r j) u) (hv : Rep w M mu d v)
    {c c' : Cont} (hr : st.rows r = some ⟨true, c⟩) (hc : c.set j d = some c') : ∃ w', (Instr.storeAt t u v).run P w = .ok () w' ∧ SR G F w0 M0 w' M mu tmps (st.setRow r ⟨true, c'⟩) := by
  simp only [Rep] at hu
  obtain ⟨l, hl, hcell⟩ := hu
  cases l with
  | nowhere => simp [Loc.cell] at hcell
  | mapAt b => simp [Loc.cell] at hcell
  | nest => simp [Loc.cell] at hcell
  | at_ b base size =>
    simp only [Loc.cell] at hcell
    subst hcell
    obtain ⟨cs, T, cv, k1, k2, k3, k4, k5⟩ := h.rowAt hr rfl hl
    obtain ⟨e1, e2, e3⟩ := k3.setEl hv hc
    have hone : v.cells = #[v] := by cases v <;> simp_all [Value.oneCell', Value.cells]
    refine ⟨w.setCell ⟨b, base + j, none⟩ v, ?_, h.write hr rfl hl (z8z w ⟨b, base + j, none⟩ v) e1 (z8y k1 (base + j) v) (by simpa using k2) (by simpa using k4) ?_⟩
    · have hst := run_storeCells_cells (P := P) b (base + j) [v] 0 w (fun q hq => z1v k1 (by simp at hq; omega)) (fun q hq => z1x k1 _ _) (by simpa using e3)
      simp only [Nat.add_zero, World.setCells] at hst
      simp [Instr.storeAt, Instr.sureAddr, Go.storeVar, za hX ht, hsz, hone, hst]
    · intro q hq
      simp only [List.length_set] at hq
      rw [Array.getElem?_setIfInBounds]
      by_cases hqj : j = q
      · subst hqj
        rw [if_pos rfl, if_pos (by omega), List.getElem?_set_self (by omega)]
      · rw [if_neg (by omega), List.getElem?_set_ne hqj]
        exact k5 q hq
end
end Go.PR

end

section
namespace Go.PR
open Go
section
variable {P : Program} {X : Ctx} {G : Nat → Option D} {F : Nat → Prop} {w0 w w' : World} {M0 : Entry} {M : Nat → Prop} {mu : Nat → Option Loc} {tmps : Array Value} {a : Act} {st : St}
theorem All2.append {α β : Type} {R : α → β → Prop} : ∀ {as as' : List α} {bs bs' : List β}, All2 R as bs → All2 R as' bs' → All2 R (as ++ as') (bs ++ bs')
  | [], _, [], _, _, h => by simpa using h
  | _ :: _, _, _ :: _, _, h, h' => ⟨h.1, All2.append h.2 h'⟩
theorem ContRep.app {c1 c2 c : Cont} {cv1 cv2 : List Value} (h1 : ContRep w M mu c1 cv1) (h2 : ContRep w M mu c2 cv2) (h : c1.app c2 = some c) : ContRep w M mu c (cv1 ++ cv2) := by
  cases c1 <;> cases c2 <;> simp only [Cont.app] at h <;> try cases h
  · split at h <;> cases h
    rename_i e; subst e
    simp only [ContRep] at h1 h2 ⊢
    subst h1 h2
    simp [intsV]
  · simp only [ContRep] at h1 h2 ⊢
    subst h1 h2
    simp [boolsV]
  · split at h <;> cases h
    rename_i e; subst e
    exact All2.append h1 h2
  · refine ⟨RepL.append h1.1 h2.1, fun u hu => ?_⟩
    rcases List.mem_append.1 hu with h | h
    · exact h1.2 u h
    · exact h2.2 u h
theorem ContRep.subC {c c' : Cont} {cv : List Value} (h : ContRep w M mu c cv) {off n : Nat} (hle : off + n ≤ c.len) (hs : c.sub off n = some c') : ContRep w M mu c' ((cv.drop off).take n) ∧ c'.isVar = false ∧ c'.len = n := by
  cases c <;> simp only [Cont.sub] at hs <;> cases hs
  · simp only [ContRep] at h ⊢; subst h
    simp only [Cont.len] at hle
    simp only [subL_eq _ _ _ hle, zbe]
    exact ⟨trivial, rfl, by simp [Cont.len]; omega⟩
  · simp only [ContRep] at h ⊢; subst h
    simp only [Cont.len] at hle
    simp only [subL_eq _ _ _ hle, z9z]
    exact ⟨trivial, rfl, by simp [Cont.len]; omega⟩
  · simp only [Cont.len] at hle
    simp only [subL_eq _ _ _ hle]
    exact ⟨(All2.drop off h).take n, rfl, by simp [Cont.len]; omega⟩
  · simp only [Cont.len] at hle
    simp only [subL_eq _ _ _ hle]
    exact ⟨⟨(h.1.drop off).take n, fun u hu => h.2 u (List.mem_of_mem_drop (List.mem_of_mem_take hu))⟩, rfl, by simp [Cont.len]; omega⟩
theorem ContRep.over {c1 c2 c : Cont} {cv1 cv2 : List Value} (h1 : ContRep w M mu c1 cv1) (h2 : ContRep w M mu c2 cv2) {off : Nat} (h : c1.over off c2 = some c) : ContRep w M mu c (cv1.take off ++ cv2 ++ cv1.drop (off + cv2.length)) := by
  cases c1 <;> cases c2 <;> simp only [Cont.over] at h <;> try cases h
  · split at h <;> cases h
    rename_i e; subst e
    simp only [ContRep] at h1 h2 ⊢
    subst h1 h2
    simp [intsV, List.map_take, List.map_drop]
  · simp only [ContRep] at h1 h2 ⊢
    subst h1 h2
    simp [boolsV, List.map_take, List.map_drop]
  · split at h <;> cases h
    rename_i e; subst e
    have hl := All2.length h2
    simp only [ContRep, hl]
    exact All2.append (All2.append (All2.take off h1) h2) (All2.drop _ h1)
  · have hl := h2.1.length
    rw [hl]
    refine ⟨RepL.append (RepL.append (h1.1.take off) h2.1) (h1.1.drop _), fun u hu => ?_⟩
    rcases List.mem_append.1 hu with h | h
    · rcases List.mem_append.1 h with h | h
      · exact h1.2 u (List.mem_of_mem_take h)
      · exact h2.2 u h
    · exact h1.2 u (List.mem_of_mem_drop h)
theorem ContRep.anyMu {c : Cont} {cv : List Value} {mu' : Nat → Option Loc} (h : ContRep w M mu c cv) (hv : c.isVar = false) : ContRep w M mu' c cv := h.sub (fun _ h => h) hv
theorem SR.buildC {nk : NK} : ∀ (ds : List D) {c c' : Cont} {M : Nat → Prop} {st s : St} {vs cv : List Value}, SR G F w0 M0 w M mu tmps st → buildC X nk ds c st = some (c', s) → RepL w M mu ds vs → ContRep w M mu c cv → c.isVar = false →
    ∃ M', (∀ b, M' b → M b) ∧ SR G F w0 M0 w M' mu tmps s ∧ ContRep w M' mu c' (cv ++ vs) ∧ c'.isVar = false ∧ ∀ v ∈ vs, v.oneCell' = true
  | [], c, c', M, st, s, vs, cv, h, hb, hr, hc, hv => by
    simp only [Go.PR.buildC] at hb
    cases hb
    cases vs with
    | nil => exact ⟨M, fun _ h => h, h, by simpa using hc, hv, by simp⟩
    | cons => simp only [RepL] at hr
  | d :: ds, c, c', M, st, s, [], cv, h, hb, hr, hc, hv => by simp only [RepL] at hr
  | d :: ds, c, c', M, st, s, v :: vs, cv, h, hb, hr, hc, hv => by
    simp only [RepL] at hr
    simp only [Go.PR.buildC] at hb
    split at hb
    case h_2 => cases hb
    rename_i d' s1 hs
    obtain ⟨M1, m1, g1, g2⟩ := h.settle hs hr.1
    have hds := RepL.keeps (mu' := mu) (Keeps.refl _ w) (fun b _ hb => m1 b hb) (fun _ _ h => h) ds hr.2
    have hc1 : ContRep w M1 mu c cv := hc.sub m1 hv
    have go : ∀ {c1 : Cont}, ContRep w M1 mu c1 (cv ++ [v]) → c1.isVar = false → v.oneCell' = true → Go.PR.buildC X nk ds c1 s1 = some (c', s) →
        ∃ M', (∀ b, M' b → M b) ∧ SR G F w0 M0 w M' mu tmps s ∧ ContRep w M' mu c' (cv ++ v :: vs) ∧ c'.isVar = false ∧ ∀ u ∈ v :: vs, u.oneCell' = true := by
      intro c1 k1 k2 k3 k4
      obtain ⟨M2, m2, e1, e2, e3, e4⟩ := SR.buildC ds g1 k4 hds k1 k2
      refine ⟨M2, fun b hb => m1 b (m2 b hb), e1, by simpa using e2, e3, fun u hu => ?_⟩
      rcases List.mem_cons.1 hu with rfl | hu
      · exact k3
      · exact e4 u hu
    have hv' := g2 mu
    split at hb
    · rename_i k xs k' n
      split at hb
      case isFalse => cases hb
      rename_i e; subst e
      simp only [Rep] at hv'
      subst hv'
      exact go (by simp only [ContRep] at hc1 ⊢; subst hc1; simp [intsV]) rfl rfl hb
    · rename_i xs b'
      simp only [Rep] at hv'
      subst hv'
      exact go (by simp only [ContRep] at hc1 ⊢; subst hc1; simp [boolsV]) rfl rfl hb
    · rename_i k xss k' ys
      split at hb
      case isFalse => cases hb
      rename_i e; subst e
      simp only [Rep] at hv'
      exact go (c1 := .ints2 k (xss ++ [ys])) (All2.append (R := fun xs u => SlV w M1 (intsV k xs) u) hc1 (show All2 (fun xs u => SlV w M1 (intsV k xs) u) [ys] [v] from ⟨hv', trivial⟩)) rfl (by obtain ⟨A, c, e, _⟩ := hv'; rw [e]; rfl) hb
    · rename_i k xss k'
      simp only [Rep] at hv'
      obtain ⟨A, rfl, hA⟩ := hv'
      exact go (c1 := .ints2 k (xss ++ [[]])) (All2.append (R := fun xs u => SlV w M1 (intsV k xs) u) hc1 (show All2 (fun xs u => SlV w M1 (intsV k xs) u) [[]] [Value.slice A 0 0] from ⟨⟨A, 0, by simp [intsV], by simp [intsV], .inl (by simp [intsV])⟩, trivial⟩)) rfl rfl hb
    · rename_i els
      split at hb
      case isFalse => cases hb
      rename_i hp
      obtain ⟨p1, p2⟩ := zce hp hv'
      refine go (c1 := .gen (els ++ [d'])) ⟨RepL.append hc1.1 (by simp only [RepL]; exact ⟨p2 mu0, trivial⟩), fun u hu => ?_⟩ rfl p1 hb
      rcases List.mem_append.1 hu with h | h
      · exact hc1.2 u h
      · simp at h; subst h; exact p1
    · cases hb
theorem zao (place : Nat → Option (Nat × Nat)) (hp : ∀ i, place i = some (i, 1)) : ∀ (vs : List Value) (k : Nat) (cells : Array Value), (∀ v ∈ vs, v.oneCell' = true) → k + vs.length ≤ cells.size →
    ∃ cells', Instr.fill place cells ((vs.zipIdx k).map fun p => (p.2, p.1)) = some cells' ∧ cells'.size = cells.size ∧ (∀ j, j < vs.length → cells'[k + j]? = vs[j]?) ∧ ∀ j, j < k → cells'[j]? = cells[j]?
  | [], k, cells, _, _ => ⟨cells, by simp [Instr.fill], rfl, by simp, fun _ _ => rfl⟩
  | v :: vs, k, cells, h1, hl => by
    simp only [List.length_cons] at hl
    have hone : v.cells = #[v] := by
      have := h1 v (by simp)
      cases v <;> simp_all [Value.oneCell', Value.cells]
    obtain ⟨cells', e1, e2, e3, e4⟩ := zao place hp vs (k + 1) (cells.setIfInBounds k v) (fun u hu => h1 u (by simp [hu])) (by simp; omega)
    refine ⟨cells', ?_, by simpa using e2, fun j hj => ?_, fun j hj => ?_⟩
    · rw [← e1]
      simp only [List.zipIdx_cons, List.map_cons, Instr.fill, hp, hone]
      rw [if_neg (by simp; omega)]
      simp
    · cases j with
      | zero => rw [Nat.add_zero, e4 k (by omega), Array.getElem?_setIfInBounds, if_pos rfl, if_pos (by omega)]; rfl
      | succ j => have := e3 j (by simpa using hj); rw [show k + 1 + j = k + (j + 1) by omega] at this; rw [this]; simp
    · rw [e4 j (by omega), Array.getElem?_setIfInBounds, if_neg (by omega)]
theorem z3s : ∀ (ps : List (Nat × Operand)) (k : Nat) (ds : List D), parts01 k (ps.map fun p => (p.1, ev X st p.2)) = some ds → ds = ps.map (fun p => ev X st p.2) ∧ ps.map (fun p => p.1) = (List.range' k ps.length)
  | [], k, ds, h => by simp [parts01] at h; subst h; simp
  | p :: ps, k, ds, h => by
    simp only [List.map_cons, parts01] at h
    split at h
    case isFalse => cases h
    rename_i e
    obtain ⟨ds', h1, rfl⟩ := Option.map_eq_some_iff.1 h
    obtain ⟨rfl, g⟩ := z3s ps (k + 1) ds' h1
    refine ⟨by simp, ?_⟩
    simp only [List.map_cons, List.length_cons, List.range'_succ, g, e]
theorem z40 (ev' : Operand → Value) : ∀ (ps : List (Nat × Operand)) (k : Nat), ps.map (fun p => p.1) = List.range' k ps.length → ps.map (fun p => (p.1, ev' p.2)) = ((ps.map fun p => ev' p.2).zipIdx k).map fun p => (p.2, p.1)
  | [], k, _ => by simp
  | p :: ps, k, h => by
    simp only [List.map_cons, List.length_cons, List.range'_succ, List.cons.injEq] at h
    simp only [List.map_cons, List.zipIdx_cons, h.1, z40 ev' ps (k + 1) h.2]
theorem z17 (hX : XOK P X) {t e : TypeId} {ei : TI} (h : elemOf X t = some (e, ei)) : P.underlying t = some (.slice e) ∧ X.tt e = some ei := by
  unfold elemOf at h
  split at h
  · rename_i e' _ _ _ ht
    obtain ⟨i, h1, h2⟩ := Option.map_eq_some_iff.1 h
    cases h2
    exact ⟨(hX.tt t _ ht).kind, h1⟩
  · cases h
theorem z5f (hX : XOK P X) {t e : TypeId} {ei : TI} (hu : P.underlying t = some (.slice e)) (he : X.tt e = some ei) (hsz : ei.size = 1) {vs : List Value} (h1 : ∀ v ∈ vs, v.oneCell' = true) (hn : vs.length ≤ 1000000) (parts : Array (Nat × Value)) (hp : parts.toList = (vs.zipIdx 0).map fun p => (p.2, p.1)) :
    (Instr.buildSlice t vs.length parts).run P w = .ok (.slice (some ⟨w.heap.size, 0, none⟩) vs.length vs.length) (w.alloc (.cells vs.toArray e)) := by
  obtain ⟨ti, z, i1, i2, i3, i4, i5, _⟩ := (hX.tt e ei he).info
  have hn' : ¬ 16777216 < vs.length := by omega
  have key : ∀ (cells : Array Value), cells.size = vs.length → Instr.fill (fun i => some (i * 1, 1)) cells parts.toList = some vs.toArray := by
    intro cells hc
    obtain ⟨cells', e1, e2, e3, _⟩ := zao (fun i => some (i * 1, 1)) (fun i => by simp) vs 0 cells h1 (by omega)
    rw [hp, e1]
    congr 1
    apply Array.ext_getElem?
    intro j
    by_cases hj : j < vs.length
    · have := e3 j hj; rw [Nat.zero_add] at this; rw [this]; simp
    · rw [Array.getElem?_eq_none (by omega), Array.getElem?_eq_none (by simp; omega)]
  by_cases h0 : vs.length = 0
  · have hvs : vs = [] := List.eq_nil_of_length_eq_zero h0
    subst hvs
    have hpl : parts.toList = [] := by simpa using hp
    simp [Instr.buildSlice, run_underlying hu, za hX he, hsz, hpl, Instr.fill, newRow, Array.range_zero']
  · simp only [Instr.buildSlice, Sem.run_bind, run_underlying hu, Result.andThen_ok, za hX he, hsz, Nat.mul_one]
    simp [hn', h0, zeroValue, typeInfo, i1, i4, newRow]
    have := key ((Array.range vs.length).map (z.cells[· % z.cells.size]!)) (by simp)
    simp only [Nat.mul_one] at this
    simp [this]
theorem z6y {nk : NK} {zero : List D} {z : Value} (hz : zerosOK zero z.cells.toList = true) {n : Nat} {c : Cont} (h : zeroC nk zero n = some c) : ∃ z0, z.cells = #[z0] ∧ ContRep w M mu c (List.replicate n z0) ∧ c.isVar = false ∧ c.len = n ∧ z0.oneCell' = true := by
  unfold zeroC at h
  split at h
  · split at h <;> cases h
    rename_i k k' n hk; subst hk
    generalize hcs : z.cells.toList = cs at hz
    cases cs with
    | nil => simp [zerosOK] at hz
    | cons z0 cs =>
      simp only [zerosOK, Bool.and_eq_true] at hz
      cases cs with
      | cons => simp [zerosOK] at hz
      | nil =>
        have hr := z6z (w := w) (M := M) (mu := mu) hz.1
        simp only [Rep] at hr
        subst hr
        exact ⟨_, by apply Array.ext'; simpa using hcs, by simp [ContRep, intsV], rfl, by simp [Cont.len], rfl⟩
  · cases h
    rename_i n
    generalize hcs : z.cells.toList = cs at hz
    cases cs with
    | nil => simp [zerosOK] at hz
    | cons z0 cs =>
      simp only [zerosOK, Bool.and_eq_true] at hz
      cases cs with
      | cons => simp [zerosOK] at hz
      | nil =>
        have hr := z6z (w := w) (M := M) (mu := mu) hz.1
        simp only [Rep] at hr
        subst hr
        exact ⟨_, by apply Array.ext'; simpa using hcs, by simp [ContRep, boolsV], rfl, by simp [Cont.len], rfl⟩
  · cases h
    rename_i k k'
    generalize hcs : z.cells.toList = cs at hz
    cases cs with
    | nil => simp [zerosOK] at hz
    | cons z0 cs =>
      simp only [zerosOK, Bool.and_eq_true] at hz
      cases cs with
      | cons => simp [zerosOK] at hz
      | nil =>
        have hr := z6z (w := w) (M := M) (mu := mu) hz.1
        simp only [Rep] at hr
        obtain ⟨A, rfl, hA⟩ := hr
        refine ⟨_, by apply Array.ext'; simpa using hcs, ?_, rfl, by simp [Cont.len], rfl⟩
        simp only [ContRep]
        have : SlV w M (intsV k []) (.slice A 0 0) := ⟨A, 0, by simp [intsV], by simp [intsV], .inl (by simp [intsV])⟩
        induction n with
        | zero => simp [All2]
        | succ n ih => simp only [List.replicate_succ]; exact ⟨this, ih⟩
  · cases h
theorem zc0 {z0 : Value} {n j : Nat} (h : j < n) : (madeCells #[z0] n)[j]? = some z0 := by
  simp [madeCells, h, Nat.mod_one]
theorem zds (h : SR G F w0 M0 w M mu tmps st) {y : D} {v : Value} (hs : srcC st.rows y = some none) (hv : Rep w M mu y v) : ∃ A, v = .slice A 0 0 := by
  unfold srcC at hs
  split at hs
  · simp only [Rep] at hv; obtain ⟨A, rfl, _⟩ := hv; exact ⟨A, rfl⟩
  · split at hs
    · split at hs
      · cases hs
      · obtain ⟨c, _, e⟩ := Option.map_eq_some_iff.1 hs; cases e
    · cases hs
  · split at hs <;> cases hs
theorem z4t (w : World) {ty e' : TypeId} (hk : P.underlying ty = some (.slice e')) (A : Option Addr) (c : Nat) : Src P 1 ty (.slice A 0 c) 0 [] w := by
  cases A with
  | none => exact Src.ofNil w hk c
  | some ad => exact Src.ofSlice w hk ad 0 c [] (by simp) (by simp) (by simp)
theorem zdt (hX : XOK P X) (h : SR G F w0 M0 w M mu tmps st) {y : D} {v : Value} {cy : Cont} (hs : srcC st.rows y = some (some cy)) (hv : Rep w M mu y v) {ty e' : TypeId} (hk : P.underlying ty = some (.slice e')) :
    ∃ cv, ContRep w M mu cy cv ∧ cy.isVar = false ∧ cv.length = cy.len ∧ Src P 1 ty v cy.len cv w ∧ ∃ A c, v = .slice A cy.len c ∧ (cv = [] ∨ ∃ ad, A = some ad ∧ ∀ j, j < cv.length → w.cell? (ad.add j) = cv[j]?) := by
  have fromHeld : ∀ {cv : List Value} {A : Option Addr} {c : Nat}, ContRep w M mu cy cv → cy.isVar = false → (cv = [] ∨ ∃ ad, A = some ad ∧ ∀ j, j < cv.length → w.cell? (ad.add j) = cv[j]?) → v = .slice A cy.len c →
      ∃ cv, ContRep w M mu cy cv ∧ cy.isVar = false ∧ cv.length = cy.len ∧ Src P 1 ty v cy.len cv w ∧ ∃ A c, v = .slice A cy.len c ∧ (cv = [] ∨ ∃ ad, A = some ad ∧ ∀ j, j < cv.length → w.cell? (ad.add j) = cv[j]?) := by
    intro cv A c h1 h2 h3 h4
    have hl := h1.len
    refine ⟨cv, h1, h2, hl, ?_, A, c, h4, h3⟩
    rw [h4]
    rcases h3 with rfl | ⟨ad, rfl, hc⟩
    · rw [← hl]; exact z4t w hk A c
    · exact Src.ofSlice w hk ad _ c cv (by omega) (fun j u hu => by
        have hj : j < cv.length := by
          rcases Nat.lt_or_ge j cv.length with h | h
          · exact h
          · rw [List.getElem?_eq_none h] at hu; cases hu
        exact (hc j hj).trans hu) h1.one
  unfold srcC at hs
  split at hs
  · cases hs
  · rename_i r off n
    split at hs
    case h_2 => cases hs
    rename_i row hrow
    split at hs
    case isTrue => cases hs
    rename_i hcond
    obtain ⟨c0, hc0, e⟩ := Option.map_eq_some_iff.1 hs
    cases e
    have hle : off + n ≤ row.c.len := by
      rcases Nat.lt_or_ge row.c.len (off + n) with h | h
      · exact absurd (.inr (by omega)) hcond
      · exact h
    simp only [Rep] at hv
    obtain ⟨l', e', hsl⟩ := hv
    obtain ⟨l, e, hh⟩ := h.rows r row hrow
    rw [e] at e'
    cases e'
    cases l' with
    | mapAt b => exact hsl.elim
    | nest => exact hsl.elim
    | nowhere =>
      have hc : ContRep w M mu row.c [] := hh
      obtain ⟨rfl, A, rfl⟩ := hsl
      obtain ⟨g1, g2, g3⟩ := hc.subC hle hc0
      exact fromHeld (cv := []) (by simpa using g1) g2 (.inl rfl) (by rw [g3])
    | at_ b base size =>
      obtain ⟨cs, T, cv, h1, h2, h3, h4, h5, h6, h7⟩ := hh
      have hlen := h3.len
      obtain ⟨g1, g2, g3⟩ := h3.subC hle hc0
      have hl2 : ((cv.drop off).take n).length = n := by simp; omega
      rcases hsl with ⟨rfl, _, A, rfl⟩ | ⟨c, rfl, hmc, hsz⟩
      · exact fromHeld g1 g2 (.inl (by simp)) (by rw [g3])
      · refine fromHeld g1 g2 (.inr ⟨_, rfl, fun j hj => ?_⟩) (by rw [g3])
        rw [hl2] at hj
        rw [zb, List.getElem?_take, if_pos hj, List.getElem?_drop]
        have := h5 (off + j) (by omega)
        simp only [World.cell?, h1]
        rw [Nat.add_assoc, this]
        simp
  · rename_i hno1 hno2
    split at hs
    case h_2 => cases hs
    rename_i c hc
    cases hs
    obtain ⟨cv, hcr, ⟨A, cap, e, hle, hh⟩, hnv⟩ := SlV.cont hX hv hc
    refine fromHeld (hcr.anyMu hnv) hnv ?_ (by rw [e, hcr.len])
    rcases hh with rfl | ⟨ad, rfl, _, hcell⟩
    · exact .inl rfl
    · exact .inr ⟨ad, rfl, hcell⟩
theorem z5e (w : World) (o : Obj) : Keeps (fun _ => False) w (w.drew.alloc o) :=
  ⟨rfl, rfl, rfl, by simp, fun b hb _ => Go.RowKit.Below.heap_alloc w.drew o b (by simpa using hb)⟩
theorem SR.grown (h : SR G F w0 M0 w M mu tmps st) (id : Nat) (hpin : ¬ Pinned id) {c : Cont} {cv : List Value} {cs : Array Value} {e : TypeId} (hc : ContRep w M mu c cv) (hv : c.isVar = false) (hl : cv.length ≤ cs.size) (hcs : ∀ j, j < cv.length → cs[j]? = cv[j]?) :
    ∃ M' mu', mu' id = some (.at_ w.heap.size 0 cs.size) ∧ SR G F w0 M0 (w.drew.alloc (.cells cs e)) M' mu' tmps (st.newRow id ⟨true, c⟩) ∧ ∀ r, r ≠ id → mu' r = mu r := by
  have hb : (w.drew.alloc (.cells cs e)).heap[w.heap.size]? = some (.cells cs e (0, 0)) := by
    have := zy w.drew (.cells cs e)
    simpa using this
  obtain ⟨M', mu', e1, h2⟩ := h.alloc id hpin c cs e cv (z5e w _) hb (fun mu' _ => hc.anyMu hv) hl hcs
  exact ⟨M', mu', e1, h2⟩
theorem zbs {n b : Nat} (h : n ≤ lim) (hb : b ≤ 64) : n * b ≤ 140737488355328 := by
  have : n * b ≤ lim * 64 := Nat.mul_le_mul h hb
  simp only [lim] at this
  omega
theorem z9p (hX : XOK P X) (h : SR G F w0 M0 w M mu tmps st) {t e ty e' : TypeId} {ei : TI} (hu : P.underlying t = some (.slice e)) (he : X.tt e = some ei) (hk : P.underlying ty = some (.slice e')) {id : Nat} (hpin : ¬ Pinned id) {nk : NK} {x y d : D} {vx vy : Value} {st' : St} {t' : TypeId}
    (hx : Rep w M mu x vx) (hy : Rep w M mu y vy) (ha : appendD X id ei nk x y st = some (d, st')) :
    ∃ v w' M' mu', (Builtin.append_ #[t, ty] t' #[vx, vy]).run P w = .ok v w' ∧ SR G F w0 M0 w' M' mu' tmps st' ∧ Rep w' M' mu' d v ∧ ∀ r, r ≠ id → mu' r = mu r := by
  obtain ⟨ti, z, i1, i2, i3, i4, i5, i6⟩ := (hX.tt e ei he).info
  unfold appendD at ha
  split at ha
  case isFalse => cases ha
  rename_i hsz
  obtain ⟨hsz, hby⟩ := hsz
  have isz : ti.size = 1 := i2.trans hsz
  have zsz : z.cells.size = 1 := i6.trans hsz
  -- growth into a new block
  have grow : ∀ {A : Option Addr} {n c : Nat} {olds news : List Value} {m : Nat} {cN : Cont} {st1 : St}, SR G F w0 M0 w M mu tmps st1 → vx = .slice A n c → (Builtin.firstCells 1 n (.slice A n c)).run P w.drew = .ok olds.toArray w.drew → olds.length = n →
      Src P 1 ty vy m news w → c < n + m → n + m ≤ lim → ContRep w M mu cN (olds ++ news) → cN.isVar = false →
      ∃ v w' M' mu', (Builtin.append_ #[t, ty] t' #[vx, vy]).run P w = .ok v w' ∧ SR G F w0 M0 w' M' mu' tmps (st1.newRow id ⟨true, cN⟩) ∧ Rep w' M' mu' (.rsl id 0 (n + m)) v ∧ ∀ r, r ≠ id → mu' r = mu r := by
    intro A n c olds news m cN st1 hst e1 e2 e3 hs hlt hl hc hv
    have hg := run_append_grow_src (P := P) w t ty t' e ti z hu i1 i4 A n c olds (by rw [isz]; exact e2) vy m news (by rw [isz]; exact hs) hlt (by simp only [lim] at hl; omega) (growslice_fits hlt (by rw [i3]; exact zbs hl hby))
    have hnl : news.length = m := by have := hs.newsLen; omega
    have hcap := grownCap_ge w (n + m) c e
    have hsize : ((olds ++ news).toArray ++ Builtin.zeroCells z.cells (grownCap w (n + m) c e - (n + m))).size = grownCap w (n + m) c e := by
      simp [size_zeroCells, zsz, e3, hnl]; omega
    obtain ⟨M', mu', k1, k2, k9⟩ := hst.grown id hpin (cs := (olds ++ news).toArray ++ Builtin.zeroCells z.cells (grownCap w (n + m) c e - (n + m))) (e := e) hc hv (by rw [hsize]; simp [e3, hnl]; exact hcap) (fun j hj => by
      rw [Array.getElem?_append_left (by simpa using hj)]; simp)
    refine ⟨_, _, M', mu', by rw [e1]; exact hg, k2, ?_, k9⟩
    simp only [Rep]
    exact ⟨_, k1, .inr ⟨_, rfl, hcap, by rw [hsize]; omega⟩⟩
  split at ha
  · cases ha
  · rename_i hs
    obtain ⟨Ay, rfl⟩ := zds h hs hy
    have hsrc := z4t (P := P) w hk Ay 0
    split at ha
    · cases ha
      simp only [Rep] at hx
      obtain ⟨A, rfl, hA⟩ := hx
      refine ⟨.slice A 0 0, w, M, mu, ?_, h, by simp only [Rep]; exact ⟨A, rfl, fun hh => by first | exact hA hh | (split at hh <;> first | exact hA (by assumption) | exact hA hh)⟩, fun _ _ => rfl⟩
      exact run_append_nothing w t ty t' e ti hu i1 A 0 0 (Nat.le_refl _) _ (by rw [isz]; exact hsrc)
    · rename_i r off n
      cases ha
      have hx' := hx
      simp only [Rep] at hx
      obtain ⟨l, hl, hsl⟩ := hx
      obtain ⟨A, c, rfl, hnc⟩ : ∃ A c, vx = .slice A n c ∧ n ≤ c := by
        cases l with
        | mapAt b => exact hsl.elim
        | nest => exact hsl.elim
        | nowhere => obtain ⟨rfl, A, rfl⟩ := hsl; exact ⟨A, 0, rfl, Nat.le_refl _⟩
        | at_ b base size =>
          rcases hsl with ⟨rfl, _, A, rfl⟩ | ⟨c, rfl, hnc, _⟩
          · exact ⟨A, 0, rfl, Nat.le_refl _⟩
          · exact ⟨_, c, rfl, hnc⟩
      exact ⟨_, w, M, mu, run_append_nothing w t ty t' e ti hu i1 A n c hnc _ (by rw [isz]; exact hsrc), h, hx', fun _ _ => rfl⟩
    · cases ha
  · rename_i cy hs
    obtain ⟨cvy, hcy, hvy, hly, hsrc, _⟩ := zdt hX h hs hy hk
    split at ha
    · -- onto nothing
      rename_i k
      split at ha
      case isFalse => cases ha
      rename_i hlim
      cases ha
      simp only [Rep] at hx
      obtain ⟨A, rfl, hA⟩ := hx
      by_cases hm : cy.len = 0
      · have hnil : cvy = [] := List.eq_nil_of_length_eq_zero (by omega)
        subst hnil
        rw [hm] at hsrc ⊢
        obtain ⟨M', mu', k1, k9, k3, _, k2⟩ := h.place (w' := w) id hpin ⟨true, cy⟩ .nowhere (Keeps.refl _ _) (fun b hb => by simp [InB] at hb) (fun M' mu' hM _ hid => ⟨_, hid, by
          have hMM : M' = M := by funext b; simp [hM, InB]
          rw [hMM]; exact hcy.anyMu hvy⟩)
        refine ⟨.slice A 0 0, w, M', mu', run_append_nothing w t ty t' e ti hu i1 A 0 0 (Nat.le_refl _) _ (by rw [isz]; exact hsrc), k2, ?_, k9⟩
        simp only [Rep]
        exact ⟨_, k1, rfl, A, rfl⟩
      · have := grow (A := A) (n := 0) (c := 0) (olds := []) (m := cy.len) (cN := cy) h rfl (z4t (P := P) w hk A 0).cellsD rfl hsrc (by omega) (by omega) (by simpa using hcy) hvy
        simpa using this
    · rename_i r off n
      split at ha
      case h_2 => cases ha
      rename_i cx hrow
      split at ha
      case isTrue => cases ha
      rename_i hnv
      have hnv' : cx.isVar = false := by simpa using hnv
      obtain ⟨l, hl, hh⟩ := h.rows r _ hrow
      simp only [Rep] at hx
      obtain ⟨l', hl', hsl⟩ := hx
      rw [hl] at hl'
      cases hl'
      split at ha
      · -- at the end
        rename_i hend
        split at ha
        case isFalse => cases ha
        rename_i hlim
        split at ha
        case h_2 => cases ha
        rename_i c0 hc0
        obtain ⟨cN, happ, e0⟩ := Option.map_eq_some_iff.1 ha
        cases e0
        have hdrop := h.forget r
        cases l with
        | mapAt b => exact hsl.elim
        | nest => exact hsl.elim
        | nowhere =>
          have hc : ContRep w M mu cx [] := hh
          have hlen : ([] : List Value).length = cx.len := hc.len
          obtain ⟨rfl, A, rfl⟩ := hsl
          obtain ⟨g1, g2, g3⟩ := hc.subC (by omega) hc0
          have g1' : ContRep w M mu c0 [] := by simpa using g1
          have hcN := g1'.app hcy happ
          have hcNv : cN.isVar = false := by cases c0 <;> cases cy <;> simp [Cont.app] at happ <;> first | (obtain ⟨_, rfl⟩ := happ; rfl) | (subst happ; rfl)
          by_cases hm : cy.len = 0
          · have hnil : cvy = [] := List.eq_nil_of_length_eq_zero (by omega)
            subst hnil
            rw [hm] at hsrc ⊢
            obtain ⟨M', mu', k1, k9, k3, _, k2⟩ := hdrop.place (w' := w) id hpin ⟨true, cN⟩ .nowhere (Keeps.refl _ _) (fun b hb => by simp [InB] at hb) (fun M' mu' hM _ hid => ⟨_, hid, by
              have hMM : M' = M := by funext b; simp [hM, InB]
              rw [hMM]; exact hcN.anyMu hcNv⟩)
            refine ⟨.slice A 0 0, w, M', mu', run_append_nothing w t ty t' e ti hu i1 A 0 0 (Nat.le_refl _) _ (by rw [isz]; exact hsrc), k2, ?_, k9⟩
            simp only [Rep]
            exact ⟨_, k1, rfl, A, rfl⟩
          · exact grow (A := A) (n := 0) (c := 0) (olds := []) (m := cy.len) (cN := cN) hdrop rfl (z4t (P := P) w hk A 0).cellsD rfl hsrc (by omega) (by omega) hcN hcNv
        | at_ b base size =>
          obtain ⟨cs, T, cv, f1, f2, f3, f4, f5, f6, f7⟩ := hh
          have hlen : cv.length = cx.len := f3.len
          obtain ⟨g1, g2, g3⟩ := ContRep.subC (c := cx) f3 (by omega) hc0
          have hcN := g1.app hcy happ
          have hcNv : cN.isVar = false := by cases c0 <;> cases cy <;> simp [Cont.app] at happ <;> first | (obtain ⟨_, rfl⟩ := happ; rfl) | (subst happ; rfl) | (cases g2)
          have holen : ((cv.drop off).take n).length = n := by simp; omega
          rcases hsl with ⟨rfl, hoff, A, rfl⟩ | ⟨c, rfl, hnc, hsize⟩
          · -- nothing there, no room
            by_cases hm : cy.len = 0
            · have hnil : cvy = [] := List.eq_nil_of_length_eq_zero (by omega)
              subst hnil
              rw [hm] at hsrc ⊢
              have hcN' : ContRep w M mu cN [] := by simpa using hcN
              obtain ⟨M', mu', k1, k9, k3, _, k2⟩ := hdrop.place (w' := w) id hpin ⟨true, cN⟩ .nowhere (Keeps.refl _ _) (fun b hb => by simp [InB] at hb) (fun M' mu' hM _ hid => ⟨_, hid, by
                have hMM : M' = M := by funext b; simp [hM, InB]
                rw [hMM]; exact hcN'.anyMu hcNv⟩)
              refine ⟨.slice A 0 0, w, M', mu', run_append_nothing w t ty t' e ti hu i1 A 0 0 (Nat.le_refl _) _ (by rw [isz]; exact hsrc), k2, ?_, k9⟩
              simp only [Rep]
              exact ⟨_, k1, rfl, A, rfl⟩
            · exact grow (A := A) (n := 0) (c := 0) (olds := (cv.drop off).take 0) (m := cy.len) (cN := cN) hdrop rfl (by simpa using (z4t (P := P) w hk A 0).cellsD) (by simp) hsrc (by omega) (by omega) hcN hcNv
          · have hcell : ∀ j, j < n → w.cell? ⟨b, base + off + j, none⟩ = (cv.drop off)[j]? := fun j hj => by
              rw [List.getElem?_drop]
              have := f5 (off + j) (by omega)
              simp only [World.cell?, f1]
              rw [Nat.add_assoc, this]
              simp
            by_cases hroom : n + cy.len ≤ c
            · -- in place
              have hr := run_append_room_src (P := P) w t ty t' e ti hu i1 b (base + off) n c vy cy.len cvy (by rw [isz]; exact hsrc) hroom (fun j hj => z1v f1 (by rw [isz]; omega)) (fun j hj => z1x f1 _ _)
              rw [isz, Nat.mul_one] at hr
              obtain ⟨cs', q1, q2, q3, q4⟩ := z2a b cvy (base + off + n) w cs f1 (by omega)
              obtain ⟨hMb, hFb⟩ := f6 rfl
              obtain ⟨M', mu', k1, k9, k3, _, k2⟩ := hdrop.place (w' := w.setCells b (base + off + n) cvy) id hpin ⟨true, cN⟩ (.at_ b (base + off) (size - off)) ((z1p b cvy (base + off + n) w).mono fun x _ e => by simp [InB, e])
                (fun x hx => .inr (by
                  simp [InB] at hx
                  subst hx
                  refine ⟨hMb, hFb, fun j rj _ hj hw hbj => ?_⟩
                  simp only [St.forget] at hj
                  split at hj
                  · cases hj
                  · rename_i hjr
                    exact h.apart j r rj _ b hjr hj hrow hw rfl hbj (by rw [hl]; rfl)))
                (fun M' mu' hM _ hid => by
                  have hMM : M' = M := by
                    funext x
                    simp only [hM, InB, eq_iff_iff]
                    exact ⟨fun h => by rcases h with h | ⟨_, h⟩; exact h; exact h ▸ hMb, .inl⟩
                  rw [hMM]
                  refine ⟨_, hid, cs', T, (cv.drop off).take n ++ cvy, q1, by omega, ?_, ?_, fun j hj => ?_, fun _ => ⟨hMb, hFb⟩, fun hf => Bool.noConfusion hf⟩
                  · exact ContRep.keeps ((z1p b cvy (base + off + n) w).mono fun x _ e => e ▸ hMb) (fun _ _ h => h) (fun _ _ h => h) (hcN.anyMu hcNv)
                  · simp only [List.length_append, holen, hly]; omega
                  · simp only [List.length_append, holen, hly] at hj
                    by_cases hjn : j < n
                    · rw [q4 _ (by omega), List.getElem?_append_left (by rw [holen]; exact hjn), List.getElem?_take, if_pos hjn, List.getElem?_drop, Nat.add_assoc]
                      exact f5 (off + j) (by omega)
                    · rw [List.getElem?_append_right (by rw [holen]; omega), holen]
                      have := q3 (j - n) (by omega)
                      rwa [show base + off + n + (j - n) = base + off + j by omega] at this)
              refine ⟨_, _, M', mu', hr, k2, ?_, k9⟩
              simp only [Rep]
              exact ⟨_, k1, .inr ⟨c, rfl, hroom, by omega⟩⟩
            · refine grow (A := some ⟨b, base + off, none⟩) (n := n) (c := c) (olds := (cv.drop off).take n) (m := cy.len) (cN := cN) hdrop rfl ?_ holen hsrc (by omega) (by omega) hcN hcNv
              have := run_firstCells_some (P := P) w.drew 1 n ⟨b, base + off, none⟩ n c ((cv.drop off).take n) (by rw [holen]; omega) (fun j u hju => by
                have hj : j < n := by
                  rcases Nat.lt_or_ge j n with h | h
                  · exact h
                  · rw [List.getElem?_eq_none (by rw [holen]; exact h)] at hju; cases hju
                rw [zb]
                have h2 := hcell j hj
                rw [List.getElem?_take, if_pos hj] at hju
                rw [hju] at h2
                simpa using h2)
              exact this
      · -- in the midst
        rename_i hend
        split at ha
        case isFalse => cases ha
        rename_i hfit
        obtain ⟨cN, hover, e0⟩ := Option.map_eq_some_iff.1 ha
        cases e0
        cases l with
        | mapAt b => exact hsl.elim
        | nest => exact hsl.elim
        | nowhere =>
          have hc : ContRep w M mu cx [] := hh
          have hlen : ([] : List Value).length = cx.len := hc.len
          obtain ⟨rfl, A, rfl⟩ := hsl
          simp at hlen
          omega
        | at_ b base size =>
          obtain ⟨cs, T, cv, f1, f2, f3, f4, f5, f6, f7⟩ := hh
          have hlen : cv.length = cx.len := f3.len
          rcases hsl with ⟨rfl, hoff, A, rfl⟩ | ⟨c, rfl, hnc, hsize⟩
          · omega
          · have hroom : n + cy.len ≤ c := by omega
            have hr := run_append_room_src (P := P) w t ty t' e ti hu i1 b (base + off) n c vy cy.len cvy (by rw [isz]; exact hsrc) hroom (fun j hj => z1v f1 (by rw [isz]; omega)) (fun j hj => z1x f1 _ _)
            rw [isz, Nat.mul_one] at hr
            obtain ⟨cs', q1, q2, q3, q4⟩ := z2a b cvy (base + off + n) w cs f1 (by omega)
            have hov := f3.over hcy hover
            have hw := h.write hrow rfl hl (z1p b cvy (base + off + n) w) hov q1 (by omega) (by simp [hly]; omega) (fun j hj => by
              simp only [List.length_append, List.length_take, List.length_drop] at hj
              by_cases h1 : j < off + n
              · rw [q4 _ (by omega), List.append_assoc, List.getElem?_append_left (by simp; omega), List.getElem?_take, if_pos h1]
                exact f5 j (by omega)
              · by_cases h2 : j < off + n + cvy.length
                · rw [List.append_assoc, List.getElem?_append_right (by simp; omega), List.getElem?_append_left (by simp; omega)]
                  have := q3 (j - (off + n)) (by omega)
                  rw [show base + off + n + (j - (off + n)) = base + j by omega] at this
                  rw [this]
                  congr 1
                  simp; omega
                · rw [q4 _ (by omega), List.getElem?_append_right (by simp; omega), List.getElem?_drop, f5 j (by omega)]
                  congr 1
                  simp; omega)
            refine ⟨_, _, M, mu, hr, hw, ?_, fun _ _ => rfl⟩
            simp only [Rep]
            exact ⟨_, hl, .inr ⟨c, rfl, hroom, hsize⟩⟩
    · cases ha
end
end Go.PR

end

section
namespace Go.PR
open Go
section
variable {P : Program} {X : Ctx} {G : Nat → Option D} {F : Nat → Prop} {w0 w w' : World} {M0 : Entry} {M : Nat → Prop} {mu : Nat → Option Loc} {tmps : Array Value} {st : St}
mutual
theorem Rep.cutIn {r : Nat} : ∀ (d : D) {v : Value}, Rep w M mu d v → Rep w M mu (d.cutIn r) v
  | .nel q j n, v, h => by
    simp only [D.cutIn]
    split
    · simp only [Rep]
    · exact h
  | .nep q j i, v, h => by
    simp only [D.cutIn]
    split
    · simp only [Rep]
    · exact h
  | .fn f cap, v, h => by
    simp only [D.cutIn, Rep] at h ⊢
    obtain ⟨cv, e, h⟩ := h
    exact ⟨cv, e, RepL.cutIn cap h⟩
  | .agg cs, v, h => by
    simp only [D.cutIn, Rep] at h ⊢
    obtain ⟨cv, e, h⟩ := h
    exact ⟨cv, e, RepL.cutIn cs h⟩
  | .tup cs, v, h => by
    simp only [D.cutIn, Rep] at h ⊢
    obtain ⟨cv, e, h⟩ := h
    exact ⟨cv, e, RepL.cutIn cs h⟩
  | .any, v, h => by simpa only [D.cutIn] using h
  | .und, v, h => by simpa only [D.cutIn] using h
  | .nil _, v, h => by simpa only [D.cutIn] using h
  | .bool _, v, h => by simpa only [D.cutIn] using h
  | .int _ _, v, h => by simpa only [D.cutIn] using h
  | .str _, v, h => by simpa only [D.cutIn] using h
  | .immI _ _, v, h => by simpa only [D.cutIn] using h
  | .immB _, v, h => by simpa only [D.cutIn] using h
  | .imm2 _ _, v, h => by simpa only [D.cutIn] using h
  | .immG _, v, h => by simpa only [D.cutIn] using h
  | .immR _ _, v, h => by simpa only [D.cutIn] using h
  | .pim _, v, h => by simpa only [D.cutIn] using h
  | .ptr _ _, v, h => by simpa only [D.cutIn] using h
  | .pel _ _, v, h => by simpa only [D.cutIn] using h
  | .rsl _ _ _, v, h => by simpa only [D.cutIn] using h
  | .mpr _, v, h => by simpa only [D.cutIn] using h
  | .nsl _ _, v, h => by simpa only [D.cutIn] using h
  | .npe _ _, v, h => by simpa only [D.cutIn] using h
  | .rcs _ _ _, v, h => by simpa only [D.cutIn] using h
  | .rpe _ _ _ _, v, h => by simpa only [D.cutIn] using h
theorem RepL.cutIn {r : Nat} : ∀ (ds : List D) {vs : List Value}, RepL w M mu ds vs → RepL w M mu (D.cutInL r ds) vs
  | [], [], _ => by simp only [D.cutInL, RepL]
  | [], _ :: _, h => by simp only [RepL] at h
  | _ :: _, [], h => by simp only [RepL] at h
  | d :: ds, v :: vs, h => by
    simp only [D.cutInL, RepL] at h ⊢
    exact ⟨Rep.cutIn d h.1, RepL.cutIn ds h.2⟩
end
mutual
theorem D.noIn_cut (r : Nat) : ∀ (d : D), (d.cutIn r).noIn r = true
  | .nel q j n => by
    simp only [D.cutIn]
    split
    · rfl
    · rename_i h; simp [D.noIn, h]
  | .nep q j i => by
    simp only [D.cutIn]
    split
    · rfl
    · rename_i h; simp [D.noIn, h]
  | .fn f cap => by simp only [D.cutIn, D.noIn]; exact D.noInL_cut r cap
  | .agg cs => by simp only [D.cutIn, D.noIn]; exact D.noInL_cut r cs
  | .tup cs => by simp only [D.cutIn, D.noIn]; exact D.noInL_cut r cs
  | .any => rfl
  | .und => rfl
  | .nil _ => rfl
  | .bool _ => rfl
  | .int _ _ => rfl
  | .str _ => rfl
  | .immI _ _ => rfl
  | .immB _ => rfl
  | .imm2 _ _ => rfl
  | .immG _ => rfl
  | .immR _ _ => rfl
  | .pim _ => rfl
  | .ptr _ _ => rfl
  | .pel _ _ => rfl
  | .rsl _ _ _ => rfl
  | .mpr _ => rfl
  | .nsl _ _ => rfl
  | .npe _ _ => rfl
  | .rcs _ _ _ => rfl
  | .rpe _ _ _ _ => rfl
theorem D.noInL_cut (r : Nat) : ∀ (ds : List D), D.noInL r (D.cutInL r ds) = true
  | [] => rfl
  | d :: ds => by simp only [D.cutInL, D.noInL, D.noIn_cut r d, D.noInL_cut r ds, Bool.and_self]
end
theorem ContRep.cutIn {r : Nat} {c : Cont} {cv : List Value} (h : ContRep w M mu c cv) : ContRep w M mu (c.cutIn r) cv := by
  cases c with
  | var cells => exact ⟨RepL.cutIn cells h.1, h.2⟩
  | _ => exact h
theorem RowOK.cutIn {r id : Nat} {row : Row} (h : RowOK F w M mu id row) : RowOK F w M mu id (row.cutIn r) := by
  obtain ⟨l, e, hh⟩ := h
  refine ⟨l, e, ?_⟩
  cases l with
  | nowhere => exact ContRep.cutIn hh
  | at_ b base size =>
    obtain ⟨cs, T, cv, h1, h2, h3, h4⟩ := hh
    exact ⟨cs, T, cv, h1, h2, h3.cutIn, h4⟩
  | mapAt b =>
    obtain ⟨arr, clock, h1, h2, h3, h4⟩ := hh
    refine ⟨arr, clock, h1, ?_, h3.cutIn, h4⟩
    unfold Row.cutIn
    obtain ⟨wr, c⟩ := row
    cases c <;> first | exact h2 | exact h2.elim
  | nest b base size inn =>
    obtain ⟨cs, T, cv, fl, h1, h2, h3, h4⟩ := hh
    refine ⟨cs, T, cv, fl, h1, h2, ?_, h4⟩
    unfold Row.cutIn
    obtain ⟨wr, c⟩ := row
    cases c <;> first | exact h3 | cases h3
theorem SR.cutIn (h : SR G F w0 M0 w M mu tmps st) (r : Nat) : SR G F w0 M0 w M mu tmps (st.cutIn r) where
  env := RepL.cutIn _ h.env
  rows := fun id row hr => by
    simp only [St.cutIn] at hr
    obtain ⟨r0, e, rfl⟩ := Option.map_eq_some_iff.1 hr
    exact (h.rows id r0 e).cutIn
  apart := fun i j ri rj b hij hi hj wi wj => by
    simp only [St.cutIn] at hi hj
    obtain ⟨r0, e, rfl⟩ := Option.map_eq_some_iff.1 hi
    obtain ⟨r1, e1, rfl⟩ := Option.map_eq_some_iff.1 hj
    exact h.apart i j r0 r1 b hij e e1 wi wj
  keeps := h.keeps
  m1 := h.m1
  m2 := h.m2
  mlt := h.mlt
  fr := h.fr
  glob := h.glob
  pin := h.pin
theorem zph {o : Oper} {t : TypeId} {i : TI} {vs : List Value} (h : RepL w M mu i.zero vs) : RepL w M mu (zeroAt X o t i) vs := by
  unfold zeroAt
  split
  · split
    · exact z68 _ h
    · exact z68 _ h
  · exact h
theorem zk9 (h : SR G F w0 M0 w M mu tmps st) {nk : NK} {id : Nat} (hpin : ¬ Pinned id) {ds : List D} {vs : List Value} (hv : RepL w M mu ds vs) {d : D} {st' : St} (hd : nestLit nk id ds st = some (d, st')) (e : TypeId) :
    ∃ M' mu', SR G F w0 M0 (w.alloc (.cells vs.toArray e)) M' mu' tmps st' ∧ Rep (w.alloc (.cells vs.toArray e)) M' mu' d (.slice (some ⟨w.heap.size, 0, none⟩) vs.length vs.length) ∧ ∀ v ∈ vs, v.oneCell' = true := by
  unfold nestLit at hd
  split at hd
  · split at hd
    case h_2 => cases hd
    rename_i k
    cases hd
    cases vs with
    | cons v vs => simp only [RepL] at hv
    | nil =>
      obtain ⟨M', mu', e1, _, h3⟩ := h.nestZeros (w' := w.alloc (.cells ([] : List Value).toArray e)) hpin (k := k) (n := 0) (cs := ([] : List Value).toArray) (Keeps.alloc _ w _) (zy w _) (by simp) (by simp)
      refine ⟨M', mu', h3, ?_, by simp⟩
      simp only [Rep]
      exact ⟨_, e1, by simp [Loc.outer]⟩
  · rename_i s m
    split at hd
    case h_2 => cases hd
    rename_i k xs hrow
    split at hd
    case isFalse => cases hd
    rename_i hm
    subst hm
    cases hd
    match vs, hv with
    | [v], hv =>
      simp only [RepL] at hv
      obtain ⟨M', mu', inn, e1, _, h3⟩ := h.nestOne (w' := w.alloc (.cells [v].toArray e)) hpin hrow hv.1 (cs := [v].toArray) (Keeps.alloc _ w _) (zy w _) (by simp) (by simp)
      refine ⟨M', mu', h3, ?_, ?_⟩
      · simp only [Rep]
        exact ⟨_, e1, by simp [Loc.outer]⟩
      · intro u hu
        rw [List.mem_singleton] at hu
        subst hu
        have := hv.1
        simp only [Rep] at this
        obtain ⟨l, _, hl⟩ := this
        cases l with
        | nowhere => obtain ⟨_, A, rfl⟩ := hl; rfl
        | at_ b base size =>
          rcases hl with ⟨_, _, A, rfl⟩ | ⟨c, rfl, _⟩
          · rfl
          · rfl
        | mapAt b => exact hl.elim
        | nest => exact hl.elim
    | [], hv => simp only [RepL] at hv
    | _ :: _ :: _, hv => simp only [RepL] at hv; exact hv.2.elim
  · cases hd
theorem zkc (h : SR G F w0 M0 w M mu tmps st) {nk : NK} {zero : List D} {z : Value} {id n : Nat} (hpin : ¬ Pinned id) (hz : zerosOK zero z.cells.toList = true) {d : D} {st' : St} (hd : z29 nk zero id n st = some (d, st')) (e : TypeId) (m : Nat) (hnm : n ≤ m) :
    ∃ M' mu', z.cells = #[.slice none 0 0] ∧ SR G F w0 M0 (w.alloc (.cells (madeCells #[.slice none 0 0] m) e)) M' mu' tmps st' ∧ Rep (w.alloc (.cells (madeCells #[.slice none 0 0] m) e)) M' mu' d (.slice (some ⟨w.heap.size, 0, none⟩) n m) := by
  unfold z29 at hd
  split at hd
  case h_2 => cases hd
  rename_i k
  cases hd
  have hr := z4u (w := w) (M := M) (mu := mu) hz
  have hzc : z.cells = #[.slice none 0 0] := by
    obtain ⟨l⟩ : ∃ l, z.cells.toList = l := ⟨_, rfl⟩
    rename_i hl
    rw [hl] at hr
    match l, hr with
    | [v], hr =>
      simp only [RepL, Rep] at hr
      obtain ⟨⟨A, rfl, hA⟩, _⟩ := hr
      have := hA trivial
      subst this
      exact Array.toList_inj.1 (by simpa using hl)
    | [], hr => simp only [RepL] at hr
    | _ :: _ :: _, hr => simp only [RepL] at hr; exact hr.2.elim
  obtain ⟨M', mu', e1, _, h3⟩ := h.nestZeros (w' := w.alloc (.cells (madeCells #[.slice none 0 0] m) e)) hpin (k := k) (n := n) (cs := madeCells #[.slice none 0 0] m) (Keeps.alloc _ w _) (zy w _) (by simp [size_madeCells]; omega) (fun j hj => zc0 (by omega))
  refine ⟨M', mu', hzc, h3, ?_⟩
  simp only [Rep]
  exact ⟨_, e1, by simp [Loc.outer, size_madeCells]; omega⟩
theorem NestV.one {w : World} : ∀ {inn : List In1} {fl : List NC} {cv : List Value}, NestV w inn fl cv → ∀ u ∈ cv, u.oneCell' = true
  | [], [], [], _, u, hu => by simp at hu
  | i :: is, c :: cs, v :: vs, h, u, hu => by
    rcases List.mem_cons.1 hu with rfl | hu
    · have h1 := h.1
      cases i with
      | none =>
        cases c with
        | int k x => simp only [NCRep] at h1; subst h1; rfl
        | bool b => simp only [NCRep] at h1; subst h1; rfl
        | row k xs => simp only [NCRep] at h1; obtain ⟨_, A, rfl⟩ := h1; rfl
      | some p =>
        obtain ⟨b, base, size⟩ := p
        cases c with
        | row k xs => obtain ⟨cs, T, _, _, _, rfl, _⟩ := h1; rfl
        | int k x => exact h1.elim
        | bool b => exact h1.elim
    · exact NestV.one h.2 u hu
  | [], [], _ :: _, h, _, _ => h.elim
  | [], _ :: _, [], h, _, _ => h.elim
  | [], _ :: _, _ :: _, h, _, _ => h.elim
  | _ :: _, [], [], h, _, _ => h.elim
  | _ :: _, [], _ :: _, h, _, _ => h.elim
  | _ :: _, _ :: _, [], h, _, _ => h.elim
theorem zk6 (hX : XOK P X) (h : SR G F w0 M0 w M mu tmps st) {t e ty e' : TypeId} {ei : TI} (hu : P.underlying t = some (.slice e)) (he : X.tt e = some ei) (hk : P.underlying ty = some (.slice e')) {id : Nat} (hpin : ¬ Pinned id) {x y d : D} {vx vy : Value} {st' : St} {t' : TypeId}
    (hx : Rep w M mu x vx) (hy : Rep w M mu y vy) (ha : nestApp ei id x y st = some (d, st')) :
    ∃ v w' M' mu', (Builtin.append_ #[t, ty] t' #[vx, vy]).run P w = .ok v w' ∧ SR G F w0 M0 w' M' mu' tmps st' ∧ Rep w' M' mu' d v ∧ ∀ r, r ≠ id → mu' r = mu r := by
  obtain ⟨ti, z, i1, i2, i3, i4, i5, i6⟩ := (hX.tt e ei he).info
  unfold nestApp at ha
  split at ha
  case isFalse => cases ha
  rename_i hsz
  obtain ⟨hsz, hby⟩ := hsz
  have isz : ti.size = 1 := i2.trans hsz
  have zsz : z.cells.size = 1 := i6.trans hsz
  split at ha
  case h_2 => cases ha
  rename_i s m
  split at ha
  case h_2 => cases ha
  rename_i k yss hs
  simp only [Rep] at hy
  obtain ⟨ly, hly, hyo⟩ := hy
  -- the source
  have src : 0 < m → m = yss.length → ∃ b2 base2 size2 inn2 cv2, ly = .nest b2 base2 size2 inn2 ∧ NestV w inn2 (yss.map (.row k)) cv2 ∧ cv2.length = m ∧ Src P 1 ty vy m cv2 w ∧ (b2 :: z5 inn2).Nodup := by
    intro hm hml
    cases ly with
    | nowhere => have := hyo.1; omega
    | at_ => exact hyo.elim
    | mapAt => exact hyo.elim
    | nest b2 base2 size2 inn2 =>
      obtain ⟨rfl, hle⟩ := hyo
      obtain ⟨cs, T, cv, c1, c2, c3, c4, c5, c6, c7⟩ := h.nestCells hs hly
      refine ⟨b2, base2, size2, inn2, cv, rfl, c3, by omega, ?_, c7⟩
      exact Src.ofSlice w hk ⟨b2, base2, none⟩ m size2 cv (by omega) (fun j u hju => by
        have hj : j < cv.length := by
          rcases Nat.lt_or_ge j cv.length with h | h
          · exact h
          · rw [List.getElem?_eq_none h] at hju; cases hju
        rw [zb]
        simp only [World.cell?, c1]
        rw [c6 j hj, hju]
        simp) c3.one
  -- growth into a new block
  have grow : ∀ {A : Option Addr} {n c : Nat} {olds news : List Value}, vx = .slice A n c → (Builtin.firstCells 1 n (.slice A n c)).run P w.drew = .ok olds.toArray w.drew → olds.length = n →
      Src P 1 ty vy m news w → c < n + m → n + m ≤ lim → ∃ cs : Array Value, n + m ≤ cs.size ∧ (∀ j, j < (olds ++ news).length → cs[j]? = (olds ++ news)[j]?) ∧ news.length = m ∧
        (Builtin.append_ #[t, ty] t' #[vx, vy]).run P w = .ok (.slice (some ⟨w.heap.size, 0, none⟩) (n + m) cs.size) (w.drew.alloc (.cells cs e)) := by
    intro A n c olds news e1 e2 e3 hs hlt hl
    have hg := run_append_grow_src (P := P) w t ty t' e ti z hu i1 i4 A n c olds (by rw [isz]; exact e2) vy m news (by rw [isz]; exact hs) hlt (by simp only [lim] at hl; omega) (growslice_fits hlt (by rw [i3]; exact zbs hl hby))
    have hnl : news.length = m := by have := hs.newsLen; omega
    have hcap := grownCap_ge w (n + m) c e
    have hsize : ((olds ++ news).toArray ++ Builtin.zeroCells z.cells (grownCap w (n + m) c e - (n + m))).size = grownCap w (n + m) c e := by
      simp [size_zeroCells, zsz, e3, hnl]; omega
    refine ⟨(olds ++ news).toArray ++ Builtin.zeroCells z.cells (grownCap w (n + m) c e - (n + m)), by rw [hsize]; exact hcap, fun j hj => ?_, hnl, ?_⟩
    · rw [Array.getElem?_append_left (by simpa using hj)]; simp
    · rw [e1, hg, hsize]
  have hbk : ∀ cs : Array Value, (w.drew.alloc (.cells cs e)).heap[w.heap.size]? = some (.cells cs e (0, 0)) := fun cs => by
    have := zy w.drew (.cells cs e)
    simpa using this
  have hlt : ∀ cs : Array Value, w.heap.size < (w.drew.alloc (.cells cs e)).heap.size := fun cs => (Array.getElem?_eq_some_iff.1 (hbk cs)).1
  -- onto nothing
  have take : ∀ {A : Option Addr} {st2 : St}, vx = .slice A 0 0 → 0 < m → m = yss.length → m ≤ lim → SR G F w0 M0 w M mu tmps st2 → (∀ j rj, st2.rows j = some rj → rj.wr = true → ∃ r0, st.rows j = some r0 ∧ r0.wr = true ∧ j ∉ [s]) →
      ∃ v w' M' mu', (Builtin.append_ #[t, ty] t' #[vx, vy]).run P w = .ok v w' ∧ SR G F w0 M0 w' M' mu' tmps (st2.newRow id ⟨true, .nest k yss⟩) ∧ Rep w' M' mu' (.nsl id m) v ∧ ∀ r, r ≠ id → mu' r = mu r := by
    intro A st2 e1 hm hml hlim h2 hst2
    obtain ⟨b2, base2, size2, inn2, cv2, rfl, n1, n2, n3, n4⟩ := src hm hml
    obtain ⟨cs, g1, g2, g3, g4⟩ := grow (A := A) (n := 0) (c := 0) (olds := []) e1 (z4t (P := P) w hk A 0).cellsD rfl n3 (by omega) (by omega)
    obtain ⟨M', mu', k1, k2, k3⟩ := h.nestGather (w' := w.drew.alloc (.cells cs e)) hpin [s] h2 hst2 n1 (List.nodup_cons.1 n4).2
      (fun x hx => ⟨s, _, by simp, hs, rfl, by rw [hly]; exact List.mem_cons_of_mem _ hx⟩) (b := w.heap.size) (base := 0) (size := cs.size) (.inl ⟨Nat.le_refl _, hlt cs⟩) ((z5e w _).mono fun _ _ h => h.elim) (hbk cs) (by omega) (by omega) (fun j hj => by
        have := g2 j (by simpa using hj)
        simpa using this)
    refine ⟨_, _, M', mu', g4, k3, ?_, k2⟩
    simp only [Rep]
    exact ⟨_, k1, by simp [Loc.outer]; omega⟩
  split at ha
  · -- onto nil
    split at ha
    case isFalse => cases ha
    rename_i hc
    obtain ⟨hml, hm, hlim⟩ := hc
    cases ha
    simp only [Rep] at hx
    obtain ⟨A, rfl, hA⟩ := hx
    exact take rfl hm hml hlim (h.drop s) fun j rj hj hw => by
      obtain ⟨r0, g1, g2, g3⟩ := drop_wr hj hw
      exact ⟨r0, g1, g2, by simpa using g3⟩
  · rename_i r n
    split at ha
    case h_2 => cases ha
    rename_i k' xss hr
    split at ha
    case isFalse => cases ha
    rename_i hc
    obtain ⟨hml, hm, hrs, rfl, hn, hlim⟩ := hc
    cases ha
    simp only [Rep] at hx
    obtain ⟨lx, hlx, hxo⟩ := hx
    have hst2 : ∀ j rj, ((st.drop s).drop r).rows j = some rj → rj.wr = true → ∃ r0, st.rows j = some r0 ∧ r0.wr = true ∧ j ∉ [s] := fun j rj hj hw => by
      obtain ⟨r0, g1, g2, g3⟩ := drop_wr hj hw
      obtain ⟨r1, f1, f2, f3⟩ := drop_wr g1 g2
      exact ⟨r1, f1, f2, by simpa using f3⟩
    cases lx with
    | at_ => exact hxo.elim
    | mapAt => exact hxo.elim
    | nowhere =>
      obtain ⟨hn0, A, rfl⟩ := hxo
      have hx0 : xss = [] := List.eq_nil_of_length_eq_zero (by omega)
      subst hx0
      have := take (A := A) (st2 := (st.drop s).drop r) rfl hm hml (by omega) ((h.drop s).drop r) hst2
      simpa [hn0] using this
    | nest b1 base1 size1 inn1 =>
      obtain ⟨rfl, hle1⟩ := hxo
      obtain ⟨b2, base2, size2, inn2, cv2, rfl, n1, n2, n3, n4⟩ := src hm hml
      obtain ⟨cs, T, cv, c1, c2, c3, c4, c5, c6, c7⟩ := h.nestCells hr hlx
      have hcell : ∀ j, j < n → w.cell? ⟨b1, base1 + j, none⟩ = cv[j]? := fun j hj => by
        simp only [World.cell?, c1]
        rw [c6 j (by omega)]
        simp
      by_cases hroom : n + m ≤ size1
      · -- in place
        have hr' := run_append_room_src (P := P) w t ty t' e ti hu i1 b1 base1 n size1 vy m cv2 (by rw [isz]; exact n3) hroom (fun j hj => z1v c1 (by rw [isz]; omega)) (fun j hj => z1x c1 _ _)
        rw [isz, Nat.mul_one] at hr'
        obtain ⟨cs', q1, q2, q3, q4⟩ := z2a b1 cv2 (base1 + n) w cs c1 (by omega)
        obtain ⟨M', mu', k1, k2, k3⟩ := h.nestJoin (w' := w.setCells b1 (base1 + n) cv2) hpin hrs hr hs hlx hly c3 n1 (b := b1) (base := base1) (size := size1) (.inr rfl) ((z1p b1 cv2 (base1 + n) w).mono fun x _ e => e) q1 (by omega) (by simp; omega) (fun j hj => by
          simp only [List.length_append] at hj
          by_cases hjn : j < n
          · rw [q4 _ (by omega), List.getElem?_append_left (by omega)]
            exact c6 j (by omega)
          · rw [List.getElem?_append_right (by omega)]
            have := q3 (j - n) (by omega)
            rw [show base1 + n + (j - n) = base1 + j by omega] at this
            rw [this]
            congr 1
            omega)
        refine ⟨_, _, M', mu', hr', k3, ?_, k2⟩
        simp only [Rep]
        exact ⟨_, k1, by simp [Loc.outer]; omega⟩
      · have hfc := run_firstCells_some (P := P) w.drew 1 n ⟨b1, base1, none⟩ n size1 cv (by omega) (fun j u hju => by
          have hj : j < n := by
            rcases Nat.lt_or_ge j n with h | h
            · exact h
            · rw [List.getElem?_eq_none (by omega)] at hju; cases hju
          rw [zb]
          have := hcell j hj
          rw [hju] at this
          simpa using this)
        obtain ⟨cs2, g1, g2, g3, g4⟩ := grow (A := some ⟨b1, base1, none⟩) (n := n) (c := size1) (olds := cv) rfl hfc (by omega) n3 (by omega) hlim
        obtain ⟨M', mu', k1, k2, k3⟩ := h.nestJoin (w' := w.drew.alloc (.cells cs2 e)) hpin hrs hr hs hlx hly c3 n1 (b := w.heap.size) (base := 0) (size := cs2.size) (.inl ⟨Nat.le_refl _, hlt cs2⟩) ((z5e w _).mono fun _ _ h => h.elim) (hbk cs2) (by omega) (by simp; omega) (fun j hj => by
          have := g2 j hj
          simpa using this)
        refine ⟨_, _, M', mu', g4, k3, ?_, k2⟩
        simp only [Rep]
        exact ⟨_, k1, by simp [Loc.outer]; omega⟩
  · cases ha
theorem SR.storeNpe (hX : XOK P X) (h : SR G F w0 M0 w M mu tmps st) {t : TypeId} {i : TI} (ht : X.tt t = some i) (hsz : i.size = 1) {r s j : Nat} {u v : Value} {k : IntKind} {xss : List (List Int)} {xs : List Int} (hu : Rep w M mu (.npe r j) u) (hv : Rep w M mu (.rsl s 0 xs.length) v)
    (hrow : st.rows r = some ⟨true, .nest k xss⟩) (hrow2 : st.rows s = some ⟨true, .ints k xs⟩) (hrs : r ≠ s) (hrp : r < 500000) (hj : j < xss.length) :
    ∃ w' mu', (Instr.storeAt t u v).run P w = .ok () w' ∧ SR G F w0 M0 w' M mu' tmps ((((st.cutIn r).forget r).drop s).setRow r ⟨true, .nest k (xss.set j xs)⟩) := by
  simp only [Rep] at hu
  obtain ⟨l, hl, hu⟩ := hu
  cases l with
  | nest b base size inn =>
    have hu : u = .pointer (some ⟨b, base + j, none⟩) := hu
    subst hu
    obtain ⟨cs, T, cv, c1, c2, c3, c4, c5, c6, c7⟩ := h.nestCells hrow hl
    have hvf : ∃ A n c, v = .slice A n c := by
      simp only [Rep] at hv
      obtain ⟨l, _, hh⟩ := hv
      cases l with
      | nowhere => obtain ⟨_, A, rfl⟩ := hh; exact ⟨A, 0, 0, rfl⟩
      | at_ b base size =>
        rcases hh with ⟨_, _, A, rfl⟩ | ⟨c, rfl, _⟩
        · exact ⟨A, 0, 0, rfl⟩
        · exact ⟨_, _, c, rfl⟩
      | mapAt b => exact hh.elim
      | nest => exact hh.elim
    have hp : ¬ Pinned r := fun hh => absurd hrp (Nat.not_lt.2 hh.1)
    obtain ⟨mu', h2⟩ := (h.cutIn r).nestSet (s := s) (k := k) (xss := xss) (xs := xs) hp hrs (by simp only [St.cutIn, hrow]; rfl) (by simp only [St.cutIn, hrow2]; rfl) hl hv hj (D.noInL_cut r st.env) (fun q row cells hq hc => by
      simp only [St.cutIn] at hq
      obtain ⟨r0, e0, rfl⟩ := Option.map_eq_some_iff.1 hq
      simp only [Row.cutIn] at hc
      cases hc0 : r0.c with
      | var cells0 =>
        rw [hc0] at hc
        simp only [Cont.cutIn] at hc
        cases hc
        exact D.noInL_cut r cells0
      | _ => rw [hc0] at hc; simp [Cont.cutIn] at hc)
    refine ⟨_, mu', ?_, h2⟩
    obtain ⟨A, n, c, rfl⟩ := hvf
    have hone : ∀ y ∈ [Value.slice A n c], y.oneCell' = true := by intro y hy; rw [List.mem_singleton] at hy; subst hy; rfl
    have hst := run_storeCells_cells (P := P) b (base + j) [Value.slice A n c] 0 w (fun q hq => z1v c1 (by simp at hq; omega)) (fun q hq => z1x c1 _ _) hone
    simp only [Nat.add_zero] at hst
    have hc1 : (Value.slice A n c).cells = #[.slice A n c] := rfl
    simp [Instr.storeAt, Instr.sureAddr, Go.storeVar, za hX ht, hsz, hc1, hst]
  | nowhere => exact absurd hu id
  | at_ => exact absurd hu id
  | mapAt => exact absurd hu id
end
end Go.PR

end

section
namespace Go.PR
open Go
section
variable {P : Program} {X : Ctx} {G : Nat → Option D} {F : Nat → Prop} {w0 w w' : World} {M0 : Entry} {M : Nat → Prop} {mu : Nat → Option Loc} {tmps : Array Value} {st : St}
theorem z56 {mu' : Nat → Option Loc} : ∀ {sh : List FK} {ds : List D} {p : Rcd} {vs : List Value}, packP sh ds = some p → RepL w M mu' ds vs → rcdRep w M sh p vs
  | [], [], p, vs, h, hr => by
    cases vs with
    | nil => simp [rcdRep]
    | cons => simp only [RepL] at hr
  | [], _ :: _, _, _, h, _ => by simp [packP] at h
  | _ :: _, [], _, _, h, _ => by simp [packP] at h
  | f :: fs, d :: ds, p, [], h, hr => by simp only [RepL] at hr
  | f :: fs, d :: ds, p, v :: vs, h, hr => by
    simp only [RepL] at hr
    simp only [packP] at h
    split at h
    case h_2 => cases h
    rename_i p0 hp0
    have ih := z56 hp0 hr.2
    have h1 := hr.1
    split at h
    · rename_i k k' n
      split at h
      case isFalse => cases h
      rename_i hk; subst hk
      cases h
      simp only [Rep] at h1
      exact ⟨h1, ih⟩
    · rename_i b
      cases h
      simp only [Rep] at h1
      exact ⟨by rw [h1]; cases b <;> rfl, ih⟩
    · rename_i k k' xs
      split at h
      case isFalse => cases h
      rename_i hk; subst hk
      cases h
      simp only [Rep] at h1
      exact ⟨h1, ih⟩
    · cases h
      simp only [Rep] at h1
      obtain ⟨A, rfl, hA⟩ := h1
      exact ⟨⟨A, 0, rfl, Nat.le_refl _, .inl rfl⟩, ih⟩
    · rename_i k k' xss
      split at h
      case isFalse => cases h
      rename_i hk; subst hk
      cases h
      simp only [Rep] at h1
      exact ⟨h1, ih⟩
    · cases h
      simp only [Rep] at h1
      obtain ⟨A, rfl, hA⟩ := h1
      exact ⟨⟨[], by simp [All2], A, 0, rfl, Nat.le_refl _, .inl rfl⟩, ih⟩
    · cases h
theorem rcdsRep.append {sh : List FK} : ∀ {ps qs : List Rcd} {cv1 cv2 : List Value}, rcdsRep w M sh ps cv1 → rcdsRep w M sh qs cv2 → rcdsRep w M sh (ps ++ qs) (cv1 ++ cv2)
  | [], _, _, _, h1, h2 => by simp only [rcdsRep] at h1; subst h1; simpa using h2
  | p :: ps, _, _, _, ⟨v1, v2, rfl, g1, g2⟩, h2 => ⟨v1, _, by rw [List.append_assoc], g1, g2.append h2⟩
theorem rcdsRep.set {sh : List FK} {q : Rcd} {vs : List Value} (hq : rcdRep w M sh q vs) : ∀ {ps : List Rcd} {cv : List Value} {j : Nat}, rcdsRep w M sh ps cv → j < ps.length →
    ∃ cv', rcdsRep w M sh (ps.set j q) cv' ∧ cv'.length = cv.length ∧ (∀ k, k < vs.length → cv'[j * sh.length + k]? = vs[k]?) ∧ (∀ k, k < j * sh.length ∨ j * sh.length + vs.length ≤ k → cv'[k]? = cv[k]?)
  | [], _, j, _, hj => by simp at hj
  | p :: ps, _, 0, ⟨v1, v2, rfl, g1, g2⟩, _ => by
    have l1 := (rcdRep.cells (mu' := mu0) g1).2
    have l2 := (rcdRep.cells (mu' := mu0) hq).2
    refine ⟨vs ++ v2, ⟨vs, v2, rfl, hq, g2⟩, by simp [l1, l2], fun k hk => ?_, fun k hk => ?_⟩
    · rw [Nat.zero_mul, Nat.zero_add, List.getElem?_append_left hk]
    · have hk' : vs.length ≤ k := by omega
      rw [List.getElem?_append_right hk', List.getElem?_append_right (by omega), l1, l2]
  | p :: ps, _, j + 1, ⟨v1, v2, rfl, g1, g2⟩, hj => by
    have l1 := (rcdRep.cells (mu' := mu0) g1).2
    obtain ⟨cv', k1, k2, k3, k4⟩ := rcdsRep.set hq g2 (j := j) (by simpa using hj)
    refine ⟨v1 ++ cv', ⟨v1, cv', rfl, g1, k1⟩, by simp [k2], fun k hk => ?_, fun k hk => ?_⟩
    · rw [List.getElem?_append_right (by rw [l1, Nat.succ_mul]; omega), ← k3 k hk]
      congr 1
      rw [l1, Nat.succ_mul]; omega
    · by_cases h1 : k < v1.length
      · rw [List.getElem?_append_left h1, List.getElem?_append_left h1]
      · rw [List.getElem?_append_right (by omega), List.getElem?_append_right (by omega)]
        refine k4 _ ?_
        rw [Nat.succ_mul] at hk
        omega
theorem rcdsRep.replicate {sh : List FK} {p : Rcd} {vs : List Value} (hp : rcdRep w M sh p vs) : ∀ (n : Nat), rcdsRep w M sh (List.replicate n p) (List.replicate n vs).flatten
  | 0 => rfl
  | n + 1 => ⟨vs, _, by simp [List.replicate_succ], hp, rcdsRep.replicate hp n⟩
theorem recs_at (h : SR G F w0 M0 w M mu tmps st) {r sz n : Nat} {sh : List FK} {xs : List Rcd} {wr : Bool} (hr : st.rows r = some ⟨wr, .recs sh xs⟩) {v : Value} (hv : Rep w M mu (.rcs r sz n) v) :
    (n = 0 ∧ xs = [] ∧ mu r = some .nowhere ∧ ∃ A, v = .slice A 0 0 ∨ False) ∨ (sh.length = 0) ∨ (mu r = some .nowhere ∧ xs = [] ∧ n = 0 ∧ ∃ A, v = .slice A 0 0) ∨
    ∃ b base size c cs T cv, mu r = some (.at_ b base size) ∧ v = .slice (some ⟨b, base, none⟩) n c ∧ n ≤ c ∧ c * sz = size ∧ w.heap[b]? = some (.cells cs T (0, 0)) ∧ base + size = cs.size ∧ rcdsRep w M sh xs cv ∧ cv.length ≤ size ∧ (∀ j, j < cv.length → cs[base + j]? = cv[j]?) ∧ (wr = true → M b ∧ F b) := by
  simp only [Rep] at hv
  obtain ⟨l, hl, hs⟩ := hv
  obtain ⟨l', e', hh⟩ := h.rows r _ hr
  rw [hl] at e'
  obtain rfl := Option.some.inj e'
  cases l with
  | nowhere =>
    obtain ⟨rfl, A, rfl⟩ := hs
    have hc : rcdsRep w M sh xs [] := hh
    have hlen := hc.len
    by_cases h0 : sh.length = 0
    · exact .inr (.inl h0)
    · have : xs = [] := by
        have h1 : xs.length * sh.length = 0 := by simpa using hlen.symm
        rcases Nat.mul_eq_zero.1 h1 with h2 | h2
        · exact List.length_eq_zero_iff.1 h2
        · exact absurd h2 h0
      exact .inr (.inr (.inl ⟨hl, this, rfl, A, rfl⟩))
  | at_ b base size =>
    obtain ⟨c, rfl, hle, hsz⟩ := hs
    obtain ⟨cs, T, cv, h1, h2, h3, h4, h5, h6, h7⟩ := hh
    exact .inr (.inr (.inr ⟨b, base, size, c, cs, T, cv, hl, rfl, hle, hsz, h1, h2, h3, h4, h5, h6⟩))
  | _ => exact absurd hs id
theorem zcj (h : SR G F w0 M0 w M mu tmps st) {y : D} {v : Value} {sh : List FK} {ys : List Rcd} (hs : recSrc st.rows y = some (sh, ys)) (hv : Rep w M mu y v) {ty e' : TypeId} (hk : P.underlying ty = some (.slice e')) (h0 : 0 < sh.length) (h1 : 0 < ys.length) :
    ∃ cv, rcdsRep w M sh ys cv ∧ Src P sh.length ty v ys.length cv w := by
  unfold recSrc at hs
  split at hs
  · rename_i s sz m
    split at hs
    case h_2 => cases hs
    rename_i wr sh' ys' hrow
    split at hs
    case isFalse => cases hs
    rename_i hc
    obtain ⟨rfl, rfl⟩ := hc
    cases hs
    rcases recs_at h hrow hv with ⟨e, _⟩ | e | ⟨_, _, e, _⟩ | ⟨b, base, size, c, cs, T, cv, hl, rfl, hle, hsz, g1, g2, g3, g4, g5, g6⟩
    · omega
    · omega
    · omega
    · refine ⟨cv, g3, Src.ofSlice w hk ⟨b, base, none⟩ _ c cv g3.len (fun j u hju => ?_) g3.one⟩
      have hj : j < cv.length := (List.getElem?_eq_some_iff.1 hju).1
      rw [zb]
      simp only [World.cell?, g1]
      rw [g5 j hj, hju]
      simp
  · cases hs
    simp only [Rep] at hv
    obtain ⟨A, c, cv, rfl, hle, hr, hh⟩ := hv
    have hlen := hr.len
    have hp : 0 < ys.length * sh.length := Nat.mul_pos h1 h0
    rcases hh with rfl | ⟨ad, rfl, hn, hc⟩
    · simp at hlen; omega
    · refine ⟨cv, hr, Src.ofSlice w hk ad _ c cv hlen (fun j u hju => ?_) hr.one⟩
      have hj : j < cv.length := (List.getElem?_eq_some_iff.1 hju).1
      exact (hc j hj).trans hju
  · cases hs
theorem zjr {n b : Nat} (h : n ≤ lim) (hb : b ≤ 128) : n * b ≤ 140737488355328 := by
  have : n * b ≤ lim * 128 := Nat.mul_le_mul h hb
  simp only [lim] at this
  omega
theorem zl1 (hX : XOK P X) (h : SR G F w0 M0 w M mu tmps st) {t e ty e' : TypeId} {ei : TI} (hu : P.underlying t = some (.slice e)) (he : X.tt e = some ei) (hk : P.underlying ty = some (.slice e')) {id : Nat} (hpin : ¬ Pinned id) {x y d : D} {vx vy : Value} {st' : St} {t' : TypeId}
    (hx : Rep w M mu x vx) (hy : Rep w M mu y vy) (ha : recApp ei id x y st = some (d, st')) :
    ∃ v w' M' mu', (Builtin.append_ #[t, ty] t' #[vx, vy]).run P w = .ok v w' ∧ SR G F w0 M0 w' M' mu' tmps st' ∧ Rep w' M' mu' d v ∧ ∀ r, r ≠ id → mu' r = mu r := by
  obtain ⟨ti, z, i1, i2, i3, i4, i5, i6⟩ := (hX.tt e ei he).info
  unfold recApp at ha
  split at ha
  case h_2 => cases ha
  rename_i sh ys hsrc
  split at ha
  case isFalse => cases ha
  rename_i hc
  obtain ⟨hsz, hs0, hby⟩ := hc
  have isz : ti.size = sh.length := i2.trans hsz
  have zsz : z.cells.size = sh.length := i6.trans hsz
  -- growth into a new block
  have grow : ∀ {A : Option Addr} {n c : Nat} {olds news : List Value} {zs : List Rcd} {st1 : St}, SR G F w0 M0 w M mu tmps st1 → vx = .slice A n c → (Builtin.firstCells sh.length n (.slice A n c)).run P w.drew = .ok olds.toArray w.drew → olds.length = n * sh.length →
      Src P sh.length ty vy ys.length news w → c < n + ys.length → n + ys.length ≤ lim → rcdsRep w M sh zs (olds ++ news) →
      ∃ v w' M' mu', (Builtin.append_ #[t, ty] t' #[vx, vy]).run P w = .ok v w' ∧ SR G F w0 M0 w' M' mu' tmps (st1.newRow id ⟨true, .recs sh zs⟩) ∧ Rep w' M' mu' (.rcs id sh.length (n + ys.length)) v ∧ ∀ r, r ≠ id → mu' r = mu r := by
    intro A n c olds news zs st1 hst e1 e2 e3 hs hlt hl hc
    have hg := run_append_grow_src (P := P) w t ty t' e ti z hu i1 i4 A n c olds (by rw [isz]; exact e2) vy ys.length news (by rw [isz]; exact hs) hlt (by simp only [lim] at hl; omega) (growslice_fits hlt (by rw [i3]; exact zjr hl hby))
    have hnl : news.length = ys.length * sh.length := hs.newsLen
    have hcap := grownCap_ge w (n + ys.length) c e
    have hsize : ((olds ++ news).toArray ++ Builtin.zeroCells z.cells (grownCap w (n + ys.length) c e - (n + ys.length))).size = grownCap w (n + ys.length) c e * sh.length := by
      rw [Array.size_append, List.size_toArray, size_zeroCells, zsz, List.length_append, e3, hnl, ← Nat.add_mul, ← Nat.add_mul]
      congr 1
      omega
    have hb : (w.drew.alloc (.cells ((olds ++ news).toArray ++ Builtin.zeroCells z.cells (grownCap w (n + ys.length) c e - (n + ys.length))) e)).heap[w.heap.size]? = some (.cells ((olds ++ news).toArray ++ Builtin.zeroCells z.cells (grownCap w (n + ys.length) c e - (n + ys.length))) e (0, 0)) := by
      have := zy w.drew (.cells ((olds ++ news).toArray ++ Builtin.zeroCells z.cells (grownCap w (n + ys.length) c e - (n + ys.length))) e)
      simpa using this
    have hln : (olds ++ news).length = (n + ys.length) * sh.length := by rw [List.length_append, e3, hnl, ← Nat.add_mul]
    obtain ⟨M', mu', k1, k2, k9⟩ := hst.alloc id hpin (.recs sh zs) _ e (olds ++ news) (z5e w _) hb (fun mu' _ => hc) (by rw [hsize, hln]; exact Nat.mul_le_mul_right _ hcap) (fun j hj => by
      rw [Array.getElem?_append_left (by simpa using hj)]; simp)
    refine ⟨_, _, M', mu', by rw [e1]; exact hg, k2, ?_, k9⟩
    simp only [Rep]
    exact ⟨_, k1, _, rfl, hcap, by rw [hsize]⟩
  have fc0 : ∀ (A : Option Addr), (Builtin.firstCells sh.length 0 (.slice A 0 0)).run P w.drew = .ok ([] : List Value).toArray w.drew := by
    intro A
    cases A with
    | none => exact run_firstCells_none w.drew sh.length 0 0 0
    | some ad => exact run_firstCells_some (P := P) w.drew sh.length 0 ad 0 0 [] (by simp) (by simp)
  split at ha
  · -- onto nothing
    split at ha
    case isFalse => cases ha
    rename_i hlim
    cases ha
    simp only [Rep] at hx
    obtain ⟨A, rfl, hA⟩ := hx
    obtain ⟨cvy, g1, g2⟩ := zcj h hsrc hy hk hs0 hlim.1
    have := grow (A := A) (n := 0) (c := 0) (olds := []) (zs := ys) h rfl (fc0 A) (by simp) g2 (by omega) (by omega) (by simpa using g1)
    simpa using this
  · rename_i r sz n
    split at ha
    case h_2 => cases ha
    rename_i sh' xs hrow
    split at ha
    case isFalse => cases ha
    rename_i hcc
    obtain ⟨rfl, rfl, rfl, hy0, hlim⟩ := hcc
    rw [List.length_append] at ha
    cases ha
    have hfor := h.forget r
    obtain ⟨cvy, y1, y2⟩ := zcj h hsrc hy hk hs0 hy0
    rcases recs_at h hrow hx with ⟨e1, e2, e3, A, hA⟩ | e | ⟨e1, e2, e3, A, hA⟩ | ⟨b, base, size, c, cs, T, cv, hl, rfl, hle, hcs, f1, f2, f3, f4, f5, f6⟩
    · rcases hA with rfl | hA
      · subst e2
        exact grow (A := A) (n := 0) (c := 0) (olds := []) (zs := [] ++ ys) hfor rfl (fc0 A) (by simp) y2 (by simp; omega) (by simpa using hlim) (by simpa using y1)
      · exact hA.elim
    · omega
    · subst e2
      subst hA
      exact grow (A := A) (n := 0) (c := 0) (olds := []) (zs := [] ++ ys) hfor rfl (fc0 A) (by simp) y2 (by simp; omega) (by simpa using hlim) (by simpa using y1)
    · have hlen := f3.len
      have hly := y1.len
      have happ := f3.append y1
      by_cases hroom : xs.length + ys.length ≤ c
      · -- in place
        have hfit : (xs.length + ys.length) * sh'.length ≤ size := by rw [← hcs]; exact Nat.mul_le_mul_right _ hroom
        rw [Nat.add_mul] at hfit
        have hr := run_append_room_src (P := P) w t ty t' e ti hu i1 b base xs.length c vy ys.length cvy (by rw [isz]; exact y2) hroom (fun j hj => z1v f1 (by rw [isz]; omega)) (fun j hj => z1x f1 _ _)
        rw [isz] at hr
        obtain ⟨cs', q1, q2, q3, q4⟩ := z2a b cvy (base + xs.length * sh'.length) w cs f1 (by omega)
        obtain ⟨hMb, hFb⟩ := f6 rfl
        obtain ⟨M', mu', k1, k9, k3, _, k2⟩ := hfor.place (w' := w.setCells b (base + xs.length * sh'.length) cvy) id hpin ⟨true, .recs sh' (xs ++ ys)⟩ (.at_ b base size) ((z1p b cvy (base + xs.length * sh'.length) w).mono fun x _ e => by simp [InB, e])
          (fun x hx => .inr (by
            simp [InB] at hx
            subst hx
            refine ⟨hMb, hFb, fun j rj _ hj hw hbj => ?_⟩
            simp only [St.forget] at hj
            split at hj
            · cases hj
            · rename_i hjr
              exact h.apart j r rj _ b hjr hj hrow hw rfl hbj (by rw [hl]; rfl)))
          (fun M' mu' hM _ hid => by
            have hMM : M' = M := by
              funext x
              simp only [hM, InB, eq_iff_iff]
              exact ⟨fun h => by rcases h with h | ⟨_, h⟩; exact h; exact h ▸ hMb, .inl⟩
            rw [hMM]
            refine ⟨_, hid, cs', T, cv ++ cvy, q1, by omega, ?_, ?_, fun j hj => ?_, fun _ => ⟨hMb, hFb⟩, fun hf => Bool.noConfusion hf⟩
            · exact happ.keeps ((z1p b cvy (base + xs.length * sh'.length) w).mono fun x _ e => e ▸ hMb) (fun _ _ h => h)
            · simp only [List.length_append]; omega
            · simp only [List.length_append] at hj
              by_cases hjn : j < cv.length
              · rw [q4 _ (by omega), List.getElem?_append_left hjn]
                exact f5 j hjn
              · rw [List.getElem?_append_right (by omega)]
                have := q3 (j - cv.length) (by omega)
                rwa [show base + xs.length * sh'.length + (j - cv.length) = base + j by omega] at this)
        refine ⟨_, _, M', mu', hr, k2, ?_, k9⟩
        simp only [Rep]
        exact ⟨_, k1, c, rfl, hroom, hcs⟩
      · refine grow (A := some ⟨b, base, none⟩) (n := xs.length) (c := c) (olds := cv) (zs := xs ++ ys) hfor rfl ?_ hlen y2 (by omega) hlim happ
        exact run_firstCells_some (P := P) w.drew sh'.length xs.length ⟨b, base, none⟩ xs.length c cv hlen (fun j u hju => by
          have hj : j < cv.length := (List.getElem?_eq_some_iff.1 hju).1
          rw [zb]
          have h2 : w.cell? ⟨b, base + j, none⟩ = some u := by
            simp only [World.cell?, f1]
            rw [f5 j hj, hju]
            simp
          simpa using h2)
  · cases ha
theorem zef (hX : XOK P X) (h : SR G F w0 M0 w M mu tmps st) {t e ty e' : TypeId} {ei : TI} (hu : P.underlying t = some (.slice e)) (he : X.tt e = some ei) (hk : P.underlying ty = some (.slice e')) {id : Nat} (hpin : ¬ Pinned id) {nk : NK} {x y d : D} {vx vy : Value} {st' : St} {t' : TypeId}
    (hx : Rep w M mu x vx) (hy : Rep w M mu y vy) (ha : appendN X id ei nk x y st = some (d, st')) :
    ∃ v w' M' mu', (Builtin.append_ #[t, ty] t' #[vx, vy]).run P w = .ok v w' ∧ SR G F w0 M0 w' M' mu' tmps st' ∧ Rep w' M' mu' d v ∧ ∀ r, r ≠ id → mu' r = mu r := by
  unfold appendN at ha
  split at ha
  · exact zk6 hX h hu he hk hpin hx hy ha
  split at ha
  · exact zl1 hX h hu he hk hpin hx hy ha
  · exact z9p hX h hu he hk hpin hx hy ha
theorem zjz {z : Array Value} {n m sz : Nat} (hz : z.size = sz) (h0 : 0 < sz) (hnm : n ≤ m) : ∀ j, j < ((List.replicate n z.toList).flatten).length → (madeCells z (m * sz))[j]? = ((List.replicate n z.toList).flatten)[j]? := by
  have key : ∀ (n j : Nat), j < n * sz → ((List.replicate n z.toList).flatten)[j]? = some (z[j % sz]!) := by
    intro n
    induction n with
    | zero => intro j hj; omega
    | succ n ih =>
      intro j hj
      rw [List.replicate_succ, List.flatten_cons]
      by_cases h1 : j < sz
      · rw [List.getElem?_append_left (by simpa [hz] using h1), Nat.mod_eq_of_lt h1]
        have : j < z.size := by omega
        simp [this]
      · rw [List.getElem?_append_right (by simp [hz]; omega)]
        rw [Nat.succ_mul] at hj
        have := ih (j - z.toList.length) (by simp [hz]; omega)
        rw [this]
        congr 2
        simp only [Array.length_toList, hz]
        rw [← Nat.mod_eq_sub_mod (by omega)]
  intro j hj
  have hl : ((List.replicate n z.toList).flatten).length = n * sz := by simp [hz]
  rw [hl] at hj
  rw [key n j hj]
  have : j < m * sz := Nat.lt_of_lt_of_le hj (Nat.mul_le_mul_right _ hnm)
  simp [madeCells, this, hz]
theorem zl4 (h : SR G F w0 M0 w M mu tmps st) {sh : List FK} {zero : List D} {z : Value} {id n : Nat} (hpin : ¬ Pinned id) (hz : zerosOK zero z.cells.toList = true) {d : D} {st' : St} (hd : recMake sh zero id n st = some (d, st')) (e : TypeId) (m : Nat) (hnm : n ≤ m) (hsh : sh.length = z.cells.size) (hs0 : 0 < sh.length) :
    ∃ M' mu', SR G F w0 M0 (w.alloc (.cells (madeCells z.cells (m * sh.length)) e)) M' mu' tmps st' ∧ Rep (w.alloc (.cells (madeCells z.cells (m * sh.length)) e)) M' mu' d (.slice (some ⟨w.heap.size, 0, none⟩) n m) := by
  unfold recMake at hd
  obtain ⟨p, hp, e0⟩ := Option.map_eq_some_iff.1 hd
  cases e0
  have hr := z56 hp (z4u (w := w) (M := M) (mu := mu) hz)
  have hrep := rcdsRep.replicate hr n
  have hl : ((List.replicate n z.cells.toList).flatten).length = n * sh.length := by simp [hsh]
  obtain ⟨M', mu', e1, h2, _⟩ := h.alloc (w' := w.alloc (.cells (madeCells z.cells (m * sh.length)) e)) id hpin (.recs sh (List.replicate n p)) (madeCells z.cells (m * sh.length)) e _ (Keeps.alloc _ w _) (zy w _) (fun mu' _ => hrep) (by rw [hl, size_madeCells]; exact Nat.mul_le_mul_right _ hnm)
    (zjz hsh.symm hs0 hnm)
  refine ⟨M', mu', h2, ?_⟩
  simp only [Rep]
  exact ⟨_, e1, m, rfl, hnm, by rw [size_madeCells]⟩
theorem SR.storeRpe (hX : XOK P X) (h : SR G F w0 M0 w M mu tmps st) {t : TypeId} {i : TI} (ht : X.tt t = some i) {r j f : Nat} {sh : List FK} {ps : List Rcd} {d : D} {u v : Value} (hu : Rep w M mu (.rpe r sh.length j f) u) {mu' : Nat → Option Loc} (hv : Rep w M mu' d v) (hkn : d.known = true)
    (hsz : d.cells.length = i.size) (hone : ∀ x ∈ v.cells.toList, x.oneCell' = true) (hr : st.rows r = some ⟨true, .recs sh ps⟩) (hj : j < ps.length) (hf : f + i.size ≤ sh.length) {p : Rcd} (hp : packP sh (setCells (cellsOf sh (rcdAt ps j)) f d.cells) = some p) :
    ∃ w', (Instr.storeAt t u v).run P w = .ok () w' ∧ SR G F w0 M0 w' M mu tmps (st.setRow r ⟨true, .recs sh (ps.set j p)⟩) := by
  simp only [Rep] at hu
  obtain ⟨l, hl, hcell⟩ := hu
  cases l with
  | at_ b base size =>
    simp only [Loc.cell] at hcell
    subst hcell
    obtain ⟨cs, T, cv, k1, k2, k3, k4, k5⟩ := h.rowAt hr rfl hl
    have k3 : rcdsRep w M sh ps cv := k3
    obtain ⟨vs, g1, g2⟩ := k3.at hj
    obtain ⟨c1, c2⟩ := rcdRep.cells (mu' := mu') g1
    have hc := z44 hv hkn
    have hvs : v.cells.toList.length = d.cells.length := hc.length.symm
    obtain ⟨cv', e1, e2, e3⟩ := z91 c1 f hc
    have hpr := z56 hp e1
    obtain ⟨cvN, n1, n2, n3, n4⟩ := rcdsRep.set hpr k3 hj
    have hcl := k3.len
    have hjl : (j + 1) * sh.length ≤ ps.length * sh.length := Nat.mul_le_mul_right _ (by omega)
    rw [Nat.succ_mul] at hjl
    obtain ⟨cs', f1, f2, f3, f4⟩ := z2a b v.cells.toList (base + (j * sh.length + f)) w cs k1 (by omega)
    refine ⟨_, ?_, h.write hr rfl hl (z1p b v.cells.toList (base + (j * sh.length + f)) w) n1 f1 (by omega) (by omega) ?_⟩
    · have hst := run_storeCells_cells (P := P) b (base + (j * sh.length + f)) v.cells.toList 0 w (fun q hq => z1v k1 (by omega)) (fun q hq => z1x k1 _ _) hone
      have hsz' : v.cells.size = i.size := by rw [← hsz, ← hvs]; simp
      simp only [Nat.add_zero] at hst
      simp [Instr.storeAt, Instr.sureAddr, Go.storeVar, za hX ht, hsz', hst]
    · intro q hq
      have hq' : q < cv.length := by omega
      by_cases hin : j * sh.length ≤ q ∧ q < j * sh.length + sh.length
      · have hk := n3 (q - j * sh.length) (by omega)
        rw [show j * sh.length + (q - j * sh.length) = q by omega] at hk
        rw [hk, ← e3, z90 v.cells.toList f (by omega) (q - j * sh.length)]
        by_cases hin2 : f ≤ q - j * sh.length ∧ q - j * sh.length < f + v.cells.toList.length
        · rw [if_pos hin2]
          have := f3 (q - j * sh.length - f) (by omega)
          rw [show base + (j * sh.length + f) + (q - j * sh.length - f) = base + q by omega] at this
          exact this
        · rw [if_neg hin2, f4 (base + q) (by omega), k5 q hq']
          have := g2 (q - j * sh.length) (by omega)
          rw [show j * sh.length + (q - j * sh.length) = q by omega] at this
          exact this
      · rw [n4 q (by omega), f4 (base + q) (by omega)]
        exact k5 q hq'
  | _ => exact absurd hcell id
end
end Go.PR

end

section
namespace Go.PR
open Go
section
variable {P : Program} {X : Ctx} {G : Nat → Option D} {F : Nat → Prop} {w0 w w' : World} {M0 : Entry} {M : Nat → Prop} {mu : Nat → Option Loc} {tmps : Array Value} {st : St}
theorem SR.over (h : SR G F w0 M0 w M mu tmps st) {r : Nat} {cx cy cN : Cont} (hr : st.rows r = some ⟨true, cx⟩) {b base size off : Nat} (hl : mu r = some (.at_ b base size)) {cvy : List Value} (hcy : ContRep w M mu cy cvy) (hfit : off + cvy.length ≤ cx.len) (hov : cx.over off cy = some cN) :
    SR G F w0 M0 (w.setCells b (base + off) cvy) M mu tmps (st.setRow r ⟨true, cN⟩) ∧ (∀ j, j < cvy.length → (w.cell? ⟨b, base + off + j, none⟩).isSome = true) ∧ (∀ j, j < cvy.length → w.frozen? ⟨b, base + off + j, none⟩ = false) ∧ off + cvy.length ≤ size := by
  obtain ⟨l, e, hh⟩ := h.rows r _ hr
  rw [hl] at e
  cases e
  obtain ⟨cs, T, cv, f1, f2, f3, f4, f5, f6, f7⟩ := hh
  have hlen : cv.length = cx.len := f3.len
  obtain ⟨cs', q1, q2, q3, q4⟩ := z2a b cvy (base + off) w cs f1 (by omega)
  have hov' := f3.over hcy hov
  refine ⟨h.write hr rfl hl (z1p b cvy (base + off) w) hov' q1 (by omega) (by simp; omega) (fun j hj => ?_), fun j hj => z1v f1 (by omega), fun j hj => z1x f1 _ _, by omega⟩
  simp only [List.length_append, List.length_take, List.length_drop] at hj
  by_cases h1 : j < off
  · rw [q4 _ (by omega), List.append_assoc, List.getElem?_append_left (by simp; omega), List.getElem?_take, if_pos h1]
    exact f5 j (by omega)
  · by_cases h2 : j < off + cvy.length
    · rw [List.append_assoc, List.getElem?_append_right (by simp; omega), List.getElem?_append_left (by simp; omega)]
      have := q3 (j - off) (by omega)
      rw [show base + off + (j - off) = base + j by omega] at this
      rw [this]
      congr 1
      simp; omega
    · rw [q4 _ (by omega), List.getElem?_append_right (by simp; omega), List.getElem?_drop, f5 j (by omega)]
      congr 1
      simp; omega
theorem rsl_val {r off n : Nat} {v : Value} (hx : Rep w M mu (.rsl r off n) v) : ∃ A c, v = .slice A n c ∧ n ≤ c := by
  simp only [Rep] at hx
  obtain ⟨l, hl, hsl⟩ := hx
  cases l with
  | mapAt b => exact hsl.elim
  | nest => exact hsl.elim
  | nowhere => obtain ⟨rfl, A, rfl⟩ := hsl; exact ⟨A, 0, rfl, Nat.le_refl _⟩
  | at_ b base size =>
    rcases hsl with ⟨rfl, _, A, rfl⟩ | ⟨c, rfl, hnc, _⟩
    · exact ⟨A, 0, rfl, Nat.le_refl _⟩
    · exact ⟨_, c, rfl, hnc⟩
theorem rsl_at (h : SR G F w0 M0 w M mu tmps st) {r off n : Nat} {v : Value} (hx : Rep w M mu (.rsl r off n) v) (hn : n ≠ 0) : ∃ b base size c, mu r = some (.at_ b base size) ∧ v = .slice (some ⟨b, base + off, none⟩) n c ∧ n ≤ c := by
  simp only [Rep] at hx
  obtain ⟨l, hl, hsl⟩ := hx
  cases l with
  | mapAt b => exact hsl.elim
  | nest => exact hsl.elim
  | nowhere => exact absurd hsl.1 hn
  | at_ b base size =>
    rcases hsl with ⟨h0, _⟩ | ⟨c, rfl, hnc, _⟩
    · exact absurd h0 hn
    · exact ⟨b, base, size, c, hl, rfl, hnc⟩
theorem zag (hX : XOK P X) (h : SR G F w0 M0 w M mu tmps st) {t e ty e' : TypeId} {ei : TI} (hu : P.underlying t = some (.slice e)) (he : X.tt e = some ei) (hsz : ei.size = 1) (hk : P.underlying ty = some (.slice e')) {x y d : D} {vx vy : Value} {c : Chg} {t' : TypeId}
    (hx : Rep w M mu x vx) (hy : Rep w M mu y vy) (hc : copyW x y st.rows = some (d, c)) :
    ∃ v w', (Builtin.copy_ #[t, ty] t' #[vx, vy]).run P w = .ok v w' ∧ SR G F w0 M0 w' M mu tmps (c.apply 0 st) ∧ Rep w' M mu d v := by
  obtain ⟨ti, z, i1, i2, i3, i4, i5, i6⟩ := (hX.tt e ei he).info
  have hsi : (P.info? e).map (·.size) = some 1 := by rw [i1]; simp [i2, hsz]
  have nothing : ∀ {A A' : Option Addr} {n m c c' : Nat}, vx = .slice A n c → vy = .slice A' m c' → Nat.min m n = 0 → ∃ v w', (Builtin.copy_ #[t, ty] t' #[vx, vy]).run P w = .ok v w' ∧ SR G F w0 M0 w' M mu tmps ((Chg.keep).apply 0 st) ∧ Rep w' M mu (.int .i64 0) v := by
    rintro A A' n m c c' rfl rfl hm
    exact ⟨_, w, run_copy_none w t ty t' e A A' n c m c' hu hsi hm, h, by simp [Rep, goInt]⟩
  unfold copyW at hc
  split at hc
  · cases hc
  · rename_i hs
    obtain ⟨Ay, rfl⟩ := zds h hs hy
    split at hc
    · cases hc
      simp only [Rep] at hx
      obtain ⟨A, rfl, hA⟩ := hx
      exact nothing rfl rfl rfl
    · cases hc
      obtain ⟨A, c, rfl, _⟩ := rsl_val hx
      exact nothing rfl rfl (Nat.zero_min _)
    · cases hc
  · rename_i cy hs
    obtain ⟨cvy, hcy, hvy, hly, _, A', c', rfl, hcell⟩ := zdt hX h hs hy hk
    split at hc
    · cases hc
      simp only [Rep] at hx
      obtain ⟨A, rfl, hA⟩ := hx
      exact nothing rfl rfl (Nat.min_zero _)
    · rename_i r off n
      split at hc
      · rename_i hm
        cases hc
        obtain ⟨A, c, rfl, _⟩ := rsl_val hx
        exact nothing rfl rfl hm
      rename_i hm
      split at hc
      case h_2 => cases hc
      rename_i cx hrow
      split at hc
      case isTrue => cases hc
      rename_i hcond
      split at hc
      case h_2 => cases hc
      rename_i c0 hc0
      obtain ⟨cN, hov, e0⟩ := Option.map_eq_some_iff.1 hc
      cases e0
      have hcond' : off + n ≤ cx.len := by
        rcases Nat.lt_or_ge cx.len (off + n) with h | h
        · exact absurd (.inr (by omega)) hcond
        · exact h
      obtain ⟨b, base, size, c, hl, rfl, hnc⟩ := rsl_at h hx (by omega)
      obtain ⟨g1, g2, g3⟩ := hcy.subC (by omega) hc0
      simp only [List.drop_zero] at g1
      have hlen : (cvy.take (min cy.len n)).length = min cy.len n := by simp; omega
      obtain ⟨k1, k2, k3, k4⟩ := h.over (off := off) hrow hl g1 (by omega) hov
      rcases hcell with rfl | ⟨ad, rfl, hcell⟩
      · simp at hly; omega
      have hrun := run_copy_cells (P := P) w t ty t' e b (base + off) n c ad cy.len c' (cvy.take (min cy.len n)) hu hsi hlen (fun j u hj => by
          have hj' : j < min cy.len n := by
            rcases Nat.lt_or_ge j (min cy.len n) with h | h
            · exact h
            · rw [List.getElem?_eq_none (by omega)] at hj; cases hj
          rw [List.getElem?_take, if_pos hj'] at hj
          rw [hcell j (by omega)]; exact hj) k2 k3 (fun u hu => g1.one u hu)
      refine ⟨_, _, hrun, k1, ?_⟩
      rw [hlen]
      simp only [Rep, goInt]
    · cases hc
theorem zlf (w : World) (t tn ty e : TypeId) (i : TypeInfo) (z : Value) (k kn : IntKind) (ht : P.underlying t = some (.slice e)) (htn : P.underlying tn = some (.int kn)) (hi : P.info? e = some i) (hz : i.zero = some z)
    (n : Nat) (h0 : 0 < n) (hs : 0 < i.size) (h63 : (n : Int) ≤ 9223372036854775807) (h48 : n * i.bytes ≤ 281474976710656) (A : Option Addr) :
    (Builtin.append_ #[t, tn] ty #[.slice A 0 0, .int k n]).run P w =
      .ok (.slice (some ⟨w.heap.size, 0, none⟩) n (grownCap w n 0 e)) (w.drew.alloc (.cells (Builtin.zeroCells z.cells n ++ Builtin.zeroCells z.cells (grownCap w n 0 e - n)) e)) := by
  cases A with
  | none => exact Go.Lib.run_append_nil_zeros w t tn ty e i z k kn ht htn hi hz n h0 hs h63 h48
  | some ad =>
    have hn : n ≠ 0 := by omega
    have hw : IntKind.i64.wrap (n : Int) = n := by rw [IntKind.wrap_i64]; omega
    have h63' : ¬ (9223372036854775807 < (n : Int)) := by omega
    have h48' : ¬ (281474976710656 < Builtin.nextslicecap n 0 * i.bytes) := by rw [nextslicecap_zero h0]; omega
    have h48i : ¬ (281474976710656 < (n : Int) * (i.bytes : Int)) := by
      rw [← Int.natCast_mul]
      omega
    have hneg : ¬ ((n : Int) < 0) := by omega
    have hns : ¬ (n * i.size = 0) := Nat.mul_ne_zero hn (by omega)
    have hl : ∀ w, (loadCells ad 0).run P w = .ok #[] w := fun w => by simpa using run_loadCells_list (P := P) w ad [] (by simp)
    simp [Builtin.append_, run_underlying ht, run_underlying htn, sizeOf, typeInfo, zeroValue, hi, hz, asInt, asIntOf, hw, hn, hneg, hns, h63', h48', h48i, Question.forced, Builtin.firstCells, hl, newRow, grownCap]
theorem zeh (hX : XOK P X) (h : SR G F w0 M0 w M mu tmps st) {t e ty : TypeId} {kn : IntKind} {ei : TI} (hu : P.underlying t = some (.slice e)) (he : X.tt e = some ei) (hk : P.underlying ty = some (.int kn)) {id : Nat} (hpin : ¬ Pinned id) {nk : NK} {x y d : D} {vx vy : Value} {st' : St} {t' : TypeId}
    (hx : Rep w M mu x vx) (hy : Rep w M mu y vy) (ha : appendZ id ei nk x y st = some (d, st')) :
    ∃ v w' M' mu', (Builtin.append_ #[t, ty] t' #[vx, vy]).run P w = .ok v w' ∧ SR G F w0 M0 w' M' mu' tmps st' ∧ Rep w' M' mu' d v := by
  obtain ⟨ti, z, i1, i2, i3, i4, i5, i6⟩ := (hX.tt e ei he).info
  unfold appendZ at ha
  split at ha
  case isFalse => cases ha
  rename_i hsz
  split at ha
  case h_2 => cases ha
  rename_i k0 k n
  split at ha
  case isFalse => cases ha
  rename_i hn
  obtain ⟨c, hz, e0⟩ := Option.map_eq_some_iff.1 ha
  cases e0
  simp only [Rep] at hx hy
  obtain ⟨A, rfl, hA⟩ := hx
  subst hy
  obtain ⟨z0, zc, zr, zv, zl, z1⟩ := z6y (w := w) (M := M) (mu := mu) i5 hz
  obtain ⟨m, rfl⟩ : ∃ m : Nat, n = m := ⟨n.toNat, by omega⟩
  simp only [Int.toNat_natCast] at *
  have hlim : (m : Int) ≤ 1099511627776 := hn.2
  have hby : ti.bytes ≤ 64 := by rw [i3]; exact hsz.2
  have hmul : m * ti.bytes ≤ 1099511627776 * 64 := Nat.mul_le_mul (by omega) hby
  have hr := zlf (P := P) w t ty t' e ti z k kn hu hk i1 i4 m (by omega) (by rw [i2, hsz.1]; decide) (by omega) (by omega) A
  have hcap := grownCap_ge w m 0 e
  have hsize : (Builtin.zeroCells z.cells m ++ Builtin.zeroCells z.cells (grownCap w m 0 e - m)).size = grownCap w m 0 e := by
    rw [zc]; simp [Builtin.zeroCells]; omega
  obtain ⟨M', mu', k1, k2, k9⟩ := h.grown id hpin (cs := Builtin.zeroCells z.cells m ++ Builtin.zeroCells z.cells (grownCap w m 0 e - m)) (e := e) zr zv (by rw [hsize]; simp; exact hcap) (fun j hj => by
    have hj' : j < m := by simpa using hj
    rw [zc, Array.getElem?_append_left (by simp [Builtin.zeroCells]; exact hj')]
    simp [Builtin.zeroCells, hj', Nat.mod_one])
  refine ⟨_, _, M', mu', hr, k2, ?_⟩
  simp only [Rep]
  exact ⟨_, k1, .inr ⟨_, rfl, hcap, by rw [hsize]; omega⟩⟩
theorem zcq (w : World) (t e ty : TypeId) (z z0 : Value) (ht : P.underlying t = some (.slice e)) (hv : ∀ w, (zeroValue e).run P w = .ok z w) (hz : z.cells = #[z0]) (h1 : z0.oneCell' = true) (b o n c : Nat) (hn : 0 < n)
    (hc : ∀ j, j < n → (w.cell? ⟨b, o + j, none⟩).isSome = true) (hf : ∀ j, j < n → w.frozen? ⟨b, o + j, none⟩ = false) :
    (Builtin.clear_ #[t] ty #[.slice (some ⟨b, o, none⟩) n c]).run P w = .ok (.tuple #[]) (w.setCells b o (List.replicate n z0)) := by
  have hzc : (Builtin.zeroCells z.cells n).toList = List.replicate n z0 := by
    rw [hz]
    simp [Builtin.zeroCells]
    apply List.ext_getElem
    · simp
    · intro i h1 h2
      simp [Nat.mod_one]
  have hst := run_storeCells_cells (P := P) b o (List.replicate n z0) 0 w (by simpa using hc) (by simpa using hf) (by intro v hv'; rw [List.eq_of_mem_replicate hv']; exact h1)
  simp only [Nat.add_zero] at hst
  obtain ⟨m, rfl⟩ : ∃ m, n = m + 1 := ⟨n - 1, by omega⟩
  simp [Builtin.clear_, run_underlying ht, hv, hzc, hst]
theorem zko {w : World} {M : Nat → Prop} {mu : Nat → Option Loc} {cx c0 cN c : Cont} {off : Nat} (h1 : cx.over off c0 = some cN) (h2 : cx.upto off = some c) (hl : off ≤ cx.len) {cv : List Value} (h : ContRep w M mu cN cv) : ContRep w M mu c (cv.take off) := by
  have tk : ∀ {α : Type} (xs ys : List α) (zs : List α), off ≤ xs.length → (xs.take off ++ ys ++ zs).take off = xs.take off := by
    intro α xs ys zs hx
    rw [List.append_assoc, List.take_append_of_le_length (by simp; omega), List.take_take, Nat.min_self]
  cases cx <;> cases c0 <;> simp only [Cont.over] at h1 <;> simp only [Cont.upto] at h2
  case ints.ints k xs k' ys =>
    split at h1 <;> cases h1
    cases h2
    simp only [ContRep, intsV] at h ⊢
    simp only [Cont.len] at hl
    rw [h, ← List.map_take, tk _ _ _ hl]
  case bools.bools xs ys =>
    cases h1; cases h2
    simp only [ContRep, boolsV] at h ⊢
    simp only [Cont.len] at hl
    rw [h, ← List.map_take, tk _ _ _ hl]
  case ints2.ints2 k xs k' ys =>
    split at h1 <;> cases h1
    cases h2
    simp only [ContRep] at h ⊢
    simp only [Cont.len] at hl
    have := All2.take off h
    rwa [tk _ _ _ hl] at this
  case gen.gen xs ys =>
    cases h1; cases h2
    simp only [ContRep] at h ⊢
    simp only [Cont.len] at hl
    refine ⟨?_, fun u hu => h.2 u (List.mem_of_mem_take hu)⟩
    have := RepL.take off h.1
    rwa [tk _ _ _ hl] at this
  all_goals cases h1
theorem SR.shrink (h : SR G F w0 M0 w M mu tmps st) {r k : Nat} {wr : Bool} {c c' : Cont} (hnm : ∀ arr, ¬ MapRep c arr) (hnf : c.flat = none) (hr : st.rows r = some ⟨wr, c⟩) (hc : ∀ cv, ContRep w M mu c cv → ContRep w M mu c' (cv.take k)) : SR G F w0 M0 w M mu tmps (st.setRow r ⟨wr, c'⟩) := by
  have old : ∀ i ri, (st.setRow r ⟨wr, c'⟩).rows i = some ri → ∃ rj, st.rows i = some rj ∧ ri.wr = rj.wr := by
    intro i ri hi
    simp only [St.setRow] at hi
    split at hi
    · rename_i e; subst e; cases hi; exact ⟨_, hr, rfl⟩
    · exact ⟨ri, hi, rfl⟩
  exact { h with
    rows := fun i ri hi => by
      simp only [St.setRow] at hi
      split at hi
      · rename_i e
        subst e
        cases hi
        obtain ⟨l, e, hh⟩ := h.rows i _ hr
        refine ⟨l, e, ?_⟩
        cases l with
        | mapAt b =>
          obtain ⟨arr, clock, f1, f2, f3, f6, f7⟩ := hh
          exact absurd f2 (hnm arr)
        | nest b base size inn =>
          obtain ⟨cs, T, cv, fl, f1, f2, ff, _⟩ := hh
          rw [show c.flat = some fl from ff] at hnf
          cases hnf
        | nowhere => have := hc [] hh; simpa using this
        | at_ b base size =>
          obtain ⟨cs, T, cv, f1, f2, f3, f4, f5, f6, f7⟩ := hh
          refine ⟨cs, T, cv.take k, f1, f2, hc cv f3, by simp; omega, fun j hj => ?_, f6, f7⟩
          simp only [List.length_take] at hj
          rw [f5 j (by omega), List.getElem?_take, if_pos (by omega)]
      · exact h.rows i ri hi
    apart := fun i j ri rj b hij hi hj mi mj => by
      obtain ⟨ri', e1, e2⟩ := old i ri hi
      obtain ⟨rj', e3, e4⟩ := old j rj hj
      exact h.apart i j ri' rj' b hij e1 e3 (e2 ▸ mi) (e4 ▸ mj) }
theorem zm6 (r : Nat) (a b : Row) (st : St) : (st.setRow r a).setRow r b = st.setRow r b := by
  unfold St.setRow
  congr 1
  funext i
  dsimp only
  split <;> rfl
theorem za8 (hX : XOK P X) (h : SR G F w0 M0 w M mu tmps st) {t e : TypeId} {ei : TI} (hu : P.underlying t = some (.slice e)) (he : X.tt e = some ei) (hsz : ei.size = 1) {nk : NK} {x d : D} {vx : Value} {c : Chg} {t' : TypeId}
    (hx : Rep w M mu x vx) (hc : clearW nk ei.zero x st.rows = some (d, c)) :
    ∃ v w', (Builtin.clear_ #[t] t' #[vx]).run P w = .ok v w' ∧ SR G F w0 M0 w' M mu tmps (c.apply 0 st) ∧ Rep w' M mu d v := by
  obtain ⟨ti, z, i1, i2, i3, i4, i5, i6⟩ := (hX.tt e ei he).info
  have nothing : ∀ {A : Option Addr} {c : Nat}, vx = .slice A 0 c → ∃ v w', (Builtin.clear_ #[t] t' #[vx]).run P w = .ok v w' ∧ SR G F w0 M0 w' M mu tmps ((Chg.keep).apply 0 st) ∧ Rep w' M mu (.tup []) v := by
    rintro A c rfl
    refine ⟨.tuple #[], w, ?_, h, by simp only [Rep]; exact ⟨[], rfl, by simp only [RepL]⟩⟩
    cases A <;> simp [Builtin.clear_, run_underlying hu]
  unfold clearW at hc
  split at hc
  · cases hc
    simp only [Rep] at hx
    obtain ⟨A, rfl, hA⟩ := hx
    exact nothing rfl
  · rename_i r off n
    split at hc
    · rename_i hn
      cases hc
      subst hn
      obtain ⟨A, c, rfl, _⟩ := rsl_val hx
      exact nothing rfl
    rename_i hn
    split at hc
    case h_2 => cases hc
    rename_i cx hrow
    split at hc
    case isTrue => cases hc
    rename_i hcond
    split at hc
    case h_2 => cases hc
    rename_i c0 hc0
    have hcond' : off + n ≤ cx.len := by
      rcases Nat.lt_or_ge cx.len (off + n) with h | h
      · exact absurd (.inr (by omega)) hcond
      · exact h
    split at hc
    · split at hc
      case h_2 => cases hc
      rename_i cN c2 hov hup
      cases hc
      obtain ⟨b, base, size, c, hl, rfl, hnc⟩ := rsl_at h hx hn
      obtain ⟨z0, zc, zr, zv, zl, z1⟩ := z6y (w := w) (M := M) (mu := mu) i5 hc0
      obtain ⟨k1, k2, k3, k4⟩ := h.over (off := off) hrow hl zr (by simpa using hcond') hov
      have hrun := zcq (P := P) w t e t' z z0 hu (fun w => by simp [zeroValue, typeInfo, i1, i4]) zc z1 b (base + off) n c (by omega) (by simpa using k2) (by simpa using k3)
      have k5 := SR.shrink k1 (r := r) (k := off) (wr := true) (c := cN) (c' := c2) (fun arr hm => by cases cx <;> cases c0 <;> simp [Cont.over] at hov <;> (try obtain ⟨_, rfl⟩ := hov) <;> (try subst hov) <;> exact hm) (by cases cx <;> cases c0 <;> simp [Cont.over] at hov <;> (try obtain ⟨_, rfl⟩ := hov) <;> (try subst hov) <;> rfl) (by simp [St.setRow]) (fun cv hcv => zko hov hup (by omega) hcv)
      rw [zm6] at k5
      exact ⟨_, _, hrun, k5, by simp only [Rep]; exact ⟨[], rfl, by simp only [RepL]⟩⟩
    obtain ⟨cN, hov, e0⟩ := Option.map_eq_some_iff.1 hc
    cases e0
    obtain ⟨b, base, size, c, hl, rfl, hnc⟩ := rsl_at h hx hn
    obtain ⟨z0, zc, zr, zv, zl, z1⟩ := z6y (w := w) (M := M) (mu := mu) i5 hc0
    obtain ⟨k1, k2, k3, k4⟩ := h.over (off := off) hrow hl zr (by simpa using hcond') hov
    have hrun := zcq (P := P) w t e t' z z0 hu (fun w => by simp [zeroValue, typeInfo, i1, i4]) zc z1 b (base + off) n c (by omega) (by simpa using k2) (by simpa using k3)
    exact ⟨_, _, hrun, k1, by simp only [Rep]; exact ⟨[], rfl, by simp only [RepL]⟩⟩
  · cases hc
end
end Go.PR

end
