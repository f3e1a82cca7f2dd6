/- copy and clear. -/
import Derived.Test.YtdheehhnpjkdbaaDoorFwJ
import Derived.Lib.SliceRun
import Derived.Lib.AppendZeros
set_option linter.unusedVariables false
set_option linter.unusedSimpArgs false
namespace Go.PR
open Go

section
variable {P : Program} {X : Ctx} {G : Nat → Option D} {F : Nat → Prop} {w0 w w' : World} {M0 : Entry} {M : Nat → Prop} {mu : Nat → Option Loc} {tmps : Array Value} {st : St}

/-- Elements of a row written over. -/
theorem SR.over (h : SR G F w0 M0 w M mu tmps st) {r : Nat} {cx cy cN : Cont} (hr : st.rows r = some ⟨true, cx⟩) {b base size off : Nat} (hl : mu r = some (.at_ b base size)) {cvy : List Value} (hcy : ContRep w M mu cy cvy) (hfit : off + cvy.length ≤ cx.len) (hov : cx.over off cy = some cN) :
    SR G F w0 M0 (w.setCells b (base + off) cvy) M mu tmps (st.setRow r ⟨true, cN⟩) ∧ (∀ j, j < cvy.length → (w.cell? ⟨b, base + off + j, none⟩).isSome = true) ∧ (∀ j, j < cvy.length → w.frozen? ⟨b, base + off + j, none⟩ = false) ∧ off + cvy.length ≤ size := by
  obtain ⟨l, e, hh⟩ := h.rows r _ hr
  rw [hl] at e
  cases e
  obtain ⟨cs, T, cv, f1, f2, f3, f4, f5, f6, f7⟩ := hh
  have hlen : cv.length = cx.len := f3.len
  obtain ⟨cs', q1, q2, q3, q4⟩ := setCells_heap b cvy (base + off) w cs f1 (by omega)
  have hov' := f3.over hcy hov
  refine ⟨h.write hr rfl hl (setCells_keeps b cvy (base + off) w) hov' q1 (by omega) (by simp; omega) (fun j hj => ?_), fun j hj => cell_some f1 (by omega), fun j hj => frozen_no f1 _ _, by omega⟩
  simp only [List.length_append, List.length_take, List.length_drop] at hj
  by_cases h1 : j < off
  · rw [q4 _ (by omega), List.append_assoc, List.getElem?_append_left (by simp; omega), List.getElem?_take, if_pos h1]
    exact f5 j (by omega)
  · by_cases h2 : j < off + cvy.length
    · rw [List.append_assoc, List.getElem?_append_right (by simp; omega), List.getElem?_append_left (by simp; omega)]
      have := q3 (j - off) (by omega)
      rw [show base + off + (j - off) = base + j by omega] at this
      rw [this]
      congr 1
      simp; omega
    · rw [q4 _ (by omega), List.getElem?_append_right (by simp; omega), List.getElem?_drop, f5 j (by omega)]
      congr 1
      simp; omega

theorem rsl_val {r off n : Nat} {v : Value} (hx : Rep w M mu (.rsl r off n) v) : ∃ A c, v = .slice A n c ∧ n ≤ c := by
  simp only [Rep] at hx
  obtain ⟨l, hl, hsl⟩ := hx
  cases l with
  | nowhere => obtain ⟨rfl, A, rfl⟩ := hsl; exact ⟨A, 0, rfl, Nat.le_refl _⟩
  | at_ b base size =>
    rcases hsl with ⟨rfl, _, A, rfl⟩ | ⟨c, rfl, hnc, _⟩
    · exact ⟨A, 0, rfl, Nat.le_refl _⟩
    · exact ⟨_, c, rfl, hnc⟩

theorem rsl_at (h : SR G F w0 M0 w M mu tmps st) {r off n : Nat} {v : Value} (hx : Rep w M mu (.rsl r off n) v) (hn : n ≠ 0) : ∃ b base size c, mu r = some (.at_ b base size) ∧ v = .slice (some ⟨b, base + off, none⟩) n c ∧ n ≤ c := by
  simp only [Rep] at hx
  obtain ⟨l, hl, hsl⟩ := hx
  cases l with
  | nowhere => exact absurd hsl.1 hn
  | at_ b base size =>
    rcases hsl with ⟨h0, _⟩ | ⟨c, rfl, hnc, _⟩
    · exact absurd h0 hn
    · exact ⟨b, base, size, c, hl, rfl, hnc⟩

theorem copy_sound (hX : XOK P X) (h : SR G F w0 M0 w M mu tmps st) {t e ty e' : TypeId} {ei : TI} (hu : P.underlying t = some (.slice e)) (he : X.tt e = some ei) (hsz : ei.size = 1) (hk : P.underlying ty = some (.slice e')) {x y d : D} {vx vy : Value} {c : Chg} {t' : TypeId}
    (hx : Rep w M mu x vx) (hy : Rep w M mu y vy) (hc : copyW x y st.rows = some (d, c)) :
    ∃ v w', (Builtin.copy_ #[t, ty] t' #[vx, vy]).run P w = .ok v w' ∧ SR G F w0 M0 w' M mu tmps (c.apply 0 st) ∧ Rep w' M mu d v := by
  obtain ⟨ti, z, i1, i2, i3, i4, i5, i6⟩ := (hX.tt e ei he).info
  have hsi : (P.info? e).map (·.size) = some 1 := by rw [i1]; simp [i2, hsz]
  have nothing : ∀ {A A' : Option Addr} {n m c c' : Nat}, vx = .slice A n c → vy = .slice A' m c' → Nat.min m n = 0 → ∃ v w', (Builtin.copy_ #[t, ty] t' #[vx, vy]).run P w = .ok v w' ∧ SR G F w0 M0 w' M mu tmps ((Chg.keep).apply 0 st) ∧ Rep w' M mu (.int .i64 0) v := by
    rintro A A' n m c c' rfl rfl hm
    exact ⟨_, w, run_copy_none w t ty t' e A A' n c m c' hu hsi hm, h, by simp [Rep, goInt]⟩
  unfold copyW at hc
  split at hc
  · cases hc
  · rename_i hs
    obtain ⟨Ay, rfl⟩ := srcC_none h hs hy
    split at hc
    · cases hc
      simp only [Rep] at hx
      obtain ⟨A, rfl⟩ := hx
      exact nothing rfl rfl rfl
    · cases hc
      obtain ⟨A, c, rfl, _⟩ := rsl_val hx
      exact nothing rfl rfl (Nat.zero_min _)
    · cases hc
  · rename_i cy hs
    obtain ⟨cvy, hcy, hvy, hly, _, A', c', rfl, hcell⟩ := srcC_some hX h hs hy hk
    split at hc
    · cases hc
      simp only [Rep] at hx
      obtain ⟨A, rfl⟩ := hx
      exact nothing rfl rfl (Nat.min_zero _)
    · rename_i r off n
      split at hc
      · rename_i hm
        cases hc
        obtain ⟨A, c, rfl, _⟩ := rsl_val hx
        exact nothing rfl rfl hm
      rename_i hm
      split at hc
      case h_2 => cases hc
      rename_i cx hrow
      split at hc
      case isTrue => cases hc
      rename_i hcond
      split at hc
      case h_2 => cases hc
      rename_i c0 hc0
      obtain ⟨cN, hov, e0⟩ := Option.map_eq_some_iff.1 hc
      cases e0
      have hcond' : off + n ≤ cx.len := by
        rcases Nat.lt_or_ge cx.len (off + n) with h | h
        · exact absurd (.inr (by omega)) hcond
        · exact h
      obtain ⟨b, base, size, c, hl, rfl, hnc⟩ := rsl_at h hx (by omega)
      obtain ⟨g1, g2, g3⟩ := hcy.subC (by omega) hc0
      simp only [List.drop_zero] at g1
      have hlen : (cvy.take (min cy.len n)).length = min cy.len n := by simp; omega
      obtain ⟨k1, k2, k3, k4⟩ := h.over (off := off) hrow hl g1 (by omega) hov
      rcases hcell with rfl | ⟨ad, rfl, hcell⟩
      · simp at hly; omega
      have hrun := run_copy_cells (P := P) w t ty t' e b (base + off) n c ad cy.len c' (cvy.take (min cy.len n)) hu hsi hlen (fun j u hj => by
          have hj' : j < min cy.len n := by
            rcases Nat.lt_or_ge j (min cy.len n) with h | h
            · exact h
            · rw [List.getElem?_eq_none (by omega)] at hj; cases hj
          rw [List.getElem?_take, if_pos hj'] at hj
          rw [hcell j (by omega)]; exact hj) k2 k3 (fun u hu => g1.one u hu)
      refine ⟨_, _, hrun, k1, ?_⟩
      rw [hlen]
      simp only [Rep, goInt]
    · cases hc

theorem run_append_zeros (w : World) (t tn ty e : TypeId) (i : TypeInfo) (z : Value) (k kn : IntKind) (ht : P.underlying t = some (.slice e)) (htn : P.underlying tn = some (.int kn)) (hi : P.info? e = some i) (hz : i.zero = some z)
    (n : Nat) (h0 : 0 < n) (hs : 0 < i.size) (h63 : (n : Int) ≤ 9223372036854775807) (h48 : n * i.bytes ≤ 281474976710656) (A : Option Addr) :
    (Builtin.append_ #[t, tn] ty #[.slice A 0 0, .int k n]).run P w =
      .ok (.slice (some ⟨w.heap.size, 0, none⟩) n (grownCap w n 0 e)) (w.drew.alloc (.cells (Builtin.zeroCells z.cells n ++ Builtin.zeroCells z.cells (grownCap w n 0 e - n)) e)) := by
  cases A with
  | none => exact Go.Lib.run_append_nil_zeros w t tn ty e i z k kn ht htn hi hz n h0 hs h63 h48
  | some ad =>
    have hn : n ≠ 0 := by omega
    have hw : IntKind.i64.wrap (n : Int) = n := by rw [IntKind.wrap_i64]; omega
    have h63' : ¬ (9223372036854775807 < (n : Int)) := by omega
    have h48' : ¬ (281474976710656 < Builtin.nextslicecap n 0 * i.bytes) := by rw [nextslicecap_zero h0]; omega
    have h48i : ¬ (281474976710656 < (n : Int) * (i.bytes : Int)) := by
      rw [← Int.natCast_mul]
      omega
    have hneg : ¬ ((n : Int) < 0) := by omega
    have hns : ¬ (n * i.size = 0) := Nat.mul_ne_zero hn (by omega)
    have hl : ∀ w, (loadCells ad 0).run P w = .ok #[] w := fun w => by simpa using run_loadCells_list (P := P) w ad [] (by simp)
    simp [Builtin.append_, run_underlying ht, run_underlying htn, sizeOf, typeInfo, zeroValue, hi, hz, asInt, asIntOf, hw, hn, hneg, hns, h63', h48', h48i, Question.forced, Builtin.firstCells, hl, newRow, grownCap]

theorem appendZ_sound (hX : XOK P X) (h : SR G F w0 M0 w M mu tmps st) {t e ty : TypeId} {kn : IntKind} {ei : TI} (hu : P.underlying t = some (.slice e)) (he : X.tt e = some ei) (hk : P.underlying ty = some (.int kn)) {id : Nat} (hpin : ¬ Pinned id) {nk : NK} {x y d : D} {vx vy : Value} {st' : St} {t' : TypeId}
    (hx : Rep w M mu x vx) (hy : Rep w M mu y vy) (ha : appendZ id ei nk x y st = some (d, st')) :
    ∃ v w' M' mu', (Builtin.append_ #[t, ty] t' #[vx, vy]).run P w = .ok v w' ∧ SR G F w0 M0 w' M' mu' tmps st' ∧ Rep w' M' mu' d v := by
  obtain ⟨ti, z, i1, i2, i3, i4, i5, i6⟩ := (hX.tt e ei he).info
  unfold appendZ at ha
  split at ha
  case isFalse => cases ha
  rename_i hsz
  split at ha
  case h_2 => cases ha
  rename_i k0 k n
  split at ha
  case isFalse => cases ha
  rename_i hn
  obtain ⟨c, hz, e0⟩ := Option.map_eq_some_iff.1 ha
  cases e0
  simp only [Rep] at hx hy
  obtain ⟨A, rfl⟩ := hx
  subst hy
  obtain ⟨z0, zc, zr, zv, zl, z1⟩ := zeroC_rep (w := w) (M := M) (mu := mu) i5 hz
  obtain ⟨m, rfl⟩ : ∃ m : Nat, n = m := ⟨n.toNat, by omega⟩
  simp only [Int.toNat_natCast] at *
  have hlim : (m : Int) ≤ 1099511627776 := hn.2
  have hby : ti.bytes ≤ 64 := by rw [i3]; exact hsz.2
  have hmul : m * ti.bytes ≤ 1099511627776 * 64 := Nat.mul_le_mul (by omega) hby
  have hr := run_append_zeros (P := P) w t ty t' e ti z k kn hu hk i1 i4 m (by omega) (by rw [i2, hsz.1]; decide) (by omega) (by omega) A
  have hcap := grownCap_ge w m 0 e
  have hsize : (Builtin.zeroCells z.cells m ++ Builtin.zeroCells z.cells (grownCap w m 0 e - m)).size = grownCap w m 0 e := by
    rw [zc]; simp [Builtin.zeroCells]; omega
  obtain ⟨M', mu', k1, k2, k9⟩ := h.grown id hpin (cs := Builtin.zeroCells z.cells m ++ Builtin.zeroCells z.cells (grownCap w m 0 e - m)) (e := e) zr zv (by rw [hsize]; simp; exact hcap) (fun j hj => by
    have hj' : j < m := by simpa using hj
    rw [zc, Array.getElem?_append_left (by simp [Builtin.zeroCells]; exact hj')]
    simp [Builtin.zeroCells, hj', Nat.mod_one])
  refine ⟨_, _, M', mu', hr, k2, ?_⟩
  simp only [Rep]
  exact ⟨_, k1, .inr ⟨_, rfl, hcap, by rw [hsize]; omega⟩⟩

theorem run_clear (w : World) (t e ty : TypeId) (z z0 : Value) (ht : P.underlying t = some (.slice e)) (hv : ∀ w, (zeroValue e).run P w = .ok z w) (hz : z.cells = #[z0]) (h1 : z0.oneCell' = true) (b o n c : Nat) (hn : 0 < n)
    (hc : ∀ j, j < n → (w.cell? ⟨b, o + j, none⟩).isSome = true) (hf : ∀ j, j < n → w.frozen? ⟨b, o + j, none⟩ = false) :
    (Builtin.clear_ #[t] ty #[.slice (some ⟨b, o, none⟩) n c]).run P w = .ok (.tuple #[]) (w.setCells b o (List.replicate n z0)) := by
  have hzc : (Builtin.zeroCells z.cells n).toList = List.replicate n z0 := by
    rw [hz]
    simp [Builtin.zeroCells]
    apply List.ext_getElem
    · simp
    · intro i h1 h2
      simp [Nat.mod_one]
  have hst := run_storeCells_cells (P := P) b o (List.replicate n z0) 0 w (by simpa using hc) (by simpa using hf) (by intro v hv'; rw [List.eq_of_mem_replicate hv']; exact h1)
  simp only [Nat.add_zero] at hst
  obtain ⟨m, rfl⟩ : ∃ m, n = m + 1 := ⟨n - 1, by omega⟩
  simp [Builtin.clear_, run_underlying ht, hv, hzc, hst]

theorem over_upto {w : World} {M : Nat → Prop} {mu : Nat → Option Loc} {cx c0 cN c : Cont} {off : Nat} (h1 : cx.over off c0 = some cN) (h2 : cx.upto off = some c) (hl : off ≤ cx.len) {cv : List Value} (h : ContRep w M mu cN cv) : ContRep w M mu c (cv.take off) := by
  have tk : ∀ {α : Type} (xs ys : List α) (zs : List α), off ≤ xs.length → (xs.take off ++ ys ++ zs).take off = xs.take off := by
    intro α xs ys zs hx
    rw [List.append_assoc, List.take_append_of_le_length (by simp; omega), List.take_take, Nat.min_self]
  cases cx <;> cases c0 <;> simp only [Cont.over] at h1 <;> simp only [Cont.upto] at h2
  case ints.ints k xs k' ys =>
    split at h1 <;> cases h1
    cases h2
    simp only [ContRep, intsV] at h ⊢
    simp only [Cont.len] at hl
    rw [h, ← List.map_take, tk _ _ _ hl]
  case bools.bools xs ys =>
    cases h1; cases h2
    simp only [ContRep, boolsV] at h ⊢
    simp only [Cont.len] at hl
    rw [h, ← List.map_take, tk _ _ _ hl]
  case ints2.ints2 k xs k' ys =>
    split at h1 <;> cases h1
    cases h2
    simp only [ContRep] at h ⊢
    simp only [Cont.len] at hl
    have := All2.take off h
    rwa [tk _ _ _ hl] at this
  case gen.gen xs ys =>
    cases h1; cases h2
    simp only [ContRep] at h ⊢
    simp only [Cont.len] at hl
    refine ⟨?_, fun u hu => h.2 u (List.mem_of_mem_take hu)⟩
    have := RepL.take off h.1
    rwa [tk _ _ _ hl] at this
  all_goals cases h1

/-- Of a row's content its beginning is told. -/
theorem SR.shrink (h : SR G F w0 M0 w M mu tmps st) {r k : Nat} {wr : Bool} {c c' : Cont} (hr : st.rows r = some ⟨wr, c⟩) (hc : ∀ cv, ContRep w M mu c cv → ContRep w M mu c' (cv.take k)) : SR G F w0 M0 w M mu tmps (st.setRow r ⟨wr, c'⟩) := by
  have old : ∀ i ri, (st.setRow r ⟨wr, c'⟩).rows i = some ri → ∃ rj, st.rows i = some rj ∧ ri.wr = rj.wr := by
    intro i ri hi
    simp only [St.setRow] at hi
    split at hi
    · rename_i e; subst e; cases hi; exact ⟨_, hr, rfl⟩
    · exact ⟨ri, hi, rfl⟩
  exact { h with
    rows := fun i ri hi => by
      simp only [St.setRow] at hi
      split at hi
      · rename_i e
        subst e
        cases hi
        obtain ⟨l, e, hh⟩ := h.rows i _ hr
        refine ⟨l, e, ?_⟩
        cases l with
        | nowhere => have := hc [] hh; simpa using this
        | at_ b base size =>
          obtain ⟨cs, T, cv, f1, f2, f3, f4, f5, f6, f7⟩ := hh
          refine ⟨cs, T, cv.take k, f1, f2, hc cv f3, by simp; omega, fun j hj => ?_, f6, f7⟩
          simp only [List.length_take] at hj
          rw [f5 j (by omega), List.getElem?_take, if_pos (by omega)]
      · exact h.rows i ri hi
    apart := fun i j ri rj b hij hi hj mi mj => by
      obtain ⟨ri', e1, e2⟩ := old i ri hi
      obtain ⟨rj', e3, e4⟩ := old j rj hj
      exact h.apart i j ri' rj' b hij e1 e3 (e2 ▸ mi) (e4 ▸ mj) }

theorem setRow_setRow (r : Nat) (a b : Row) (st : St) : (st.setRow r a).setRow r b = st.setRow r b := by
  unfold St.setRow
  congr 1
  funext i
  dsimp only
  split <;> rfl

theorem clear_sound (hX : XOK P X) (h : SR G F w0 M0 w M mu tmps st) {t e : TypeId} {ei : TI} (hu : P.underlying t = some (.slice e)) (he : X.tt e = some ei) (hsz : ei.size = 1) {nk : NK} {x d : D} {vx : Value} {c : Chg} {t' : TypeId}
    (hx : Rep w M mu x vx) (hc : clearW nk ei.zero x st.rows = some (d, c)) :
    ∃ v w', (Builtin.clear_ #[t] t' #[vx]).run P w = .ok v w' ∧ SR G F w0 M0 w' M mu tmps (c.apply 0 st) ∧ Rep w' M mu d v := by
  obtain ⟨ti, z, i1, i2, i3, i4, i5, i6⟩ := (hX.tt e ei he).info
  have nothing : ∀ {A : Option Addr} {c : Nat}, vx = .slice A 0 c → ∃ v w', (Builtin.clear_ #[t] t' #[vx]).run P w = .ok v w' ∧ SR G F w0 M0 w' M mu tmps ((Chg.keep).apply 0 st) ∧ Rep w' M mu (.tup []) v := by
    rintro A c rfl
    refine ⟨.tuple #[], w, ?_, h, by simp only [Rep]; exact ⟨[], rfl, by simp only [RepL]⟩⟩
    cases A <;> simp [Builtin.clear_, run_underlying hu]
  unfold clearW at hc
  split at hc
  · cases hc
    simp only [Rep] at hx
    obtain ⟨A, rfl⟩ := hx
    exact nothing rfl
  · rename_i r off n
    split at hc
    · rename_i hn
      cases hc
      subst hn
      obtain ⟨A, c, rfl, _⟩ := rsl_val hx
      exact nothing rfl
    rename_i hn
    split at hc
    case h_2 => cases hc
    rename_i cx hrow
    split at hc
    case isTrue => cases hc
    rename_i hcond
    split at hc
    case h_2 => cases hc
    rename_i c0 hc0
    have hcond' : off + n ≤ cx.len := by
      rcases Nat.lt_or_ge cx.len (off + n) with h | h
      · exact absurd (.inr (by omega)) hcond
      · exact h
    split at hc
    · split at hc
      case h_2 => cases hc
      rename_i cN c2 hov hup
      cases hc
      obtain ⟨b, base, size, c, hl, rfl, hnc⟩ := rsl_at h hx hn
      obtain ⟨z0, zc, zr, zv, zl, z1⟩ := zeroC_rep (w := w) (M := M) (mu := mu) i5 hc0
      obtain ⟨k1, k2, k3, k4⟩ := h.over (off := off) hrow hl zr (by simpa using hcond') hov
      have hrun := run_clear (P := P) w t e t' z z0 hu (fun w => by simp [zeroValue, typeInfo, i1, i4]) zc z1 b (base + off) n c (by omega) (by simpa using k2) (by simpa using k3)
      have k5 := SR.shrink k1 (r := r) (k := off) (wr := true) (c := cN) (c' := c2) (by simp [St.setRow]) (fun cv hcv => over_upto hov hup (by omega) hcv)
      rw [setRow_setRow] at k5
      exact ⟨_, _, hrun, k5, by simp only [Rep]; exact ⟨[], rfl, by simp only [RepL]⟩⟩
    obtain ⟨cN, hov, e0⟩ := Option.map_eq_some_iff.1 hc
    cases e0
    obtain ⟨b, base, size, c, hl, rfl, hnc⟩ := rsl_at h hx hn
    obtain ⟨z0, zc, zr, zv, zl, z1⟩ := zeroC_rep (w := w) (M := M) (mu := mu) i5 hc0
    obtain ⟨k1, k2, k3, k4⟩ := h.over (off := off) hrow hl zr (by simpa using hcond') hov
    have hrun := run_clear (P := P) w t e t' z z0 hu (fun w => by simp [zeroValue, typeInfo, i1, i4]) zc z1 b (base + off) n c (by omega) (by simpa using k2) (by simpa using k3)
    exact ⟨_, _, hrun, k1, by simp only [Rep]; exact ⟨[], rfl, by simp only [RepL]⟩⟩
  · cases hc

end
end Go.PR
