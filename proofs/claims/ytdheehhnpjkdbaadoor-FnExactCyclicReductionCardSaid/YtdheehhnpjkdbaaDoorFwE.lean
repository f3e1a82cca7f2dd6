/- The evaluator's operations that turn nothing but their own temporary: each is the model's. -/
import Derived.Test.YtdheehhnpjkdbaaDoorFwD
import Derived.Laws.Small
set_option linter.unusedVariables false
set_option linter.unusedSimpArgs false
namespace Go.PR
open Go

section
variable {P : Program} {X : Ctx} {F : Nat → Prop} {w0 w : World} {M0 : Entry} {M : Nat → Prop} {mu : Nat → Option Loc} {a : Act} {st : St}

def D.toV : D → Value
  | .int k n => .int k n
  | .bool b => .bool b
  | _ => undef

theorem binI_run {op : BinOp} {k : IntKind} {x y : Int} {d : D} (h : binI op k x y = some d) (t : TypeId) (h1 : op ≠ .shl) (h2 : op ≠ .shr) : (binOp op t (.int k x) (.int k y)).run P w = .ok d.toV w ∧ Rep w M mu d d.toV := by
  cases op <;> simp only [binI] at h <;> first
    | contradiction
    | (cases h
       exact ⟨by simp [D.toV, binOp, Op.intArith, Op.intBits, Op.intCmp], by simp only [Rep, D.toV]⟩)
    | (split at h
       · cases h
       · rename_i hy
         cases h
         exact ⟨by simp [D.toV, binOp, Op.intDiv, hy], by simp only [Rep, D.toV]⟩)

theorem shiftI_run {op : BinOp} {k yk : IntKind} {x y : Int} {d : D} (h : shiftI op k x y = some d) (t : TypeId) (h1 : op = .shl ∨ op = .shr) : (binOp op t (.int k x) (.int yk y)).run P w = .ok d.toV w ∧ Rep w M mu d d.toV := by
  unfold shiftI at h
  split at h
  · cases h
  · rename_i hy
    rcases h1 with rfl | rfl <;> (simp only [] at h; cases h; exact ⟨by simp [D.toV, binOp, Op.shift, hy], by simp only [Rep, D.toV]⟩)

theorem binD_run (hX : XOK P X) {op : BinOp} {t : TypeId} {x y d : D} {u v : Value} (hx : Rep w M mu x u) (hy : Rep w M mu y v) (h : binD op (X.tt t) x y = some d) :
    ∃ r, (binOp op t u v).run P w = .ok r w ∧ Rep w M mu d r := by
  unfold binD at h
  split at h
  · rename_i k a k' b
    simp only [Rep] at hx hy
    subst hx hy
    split at h
    · exact ⟨_, shiftI_run h t (.inl rfl)⟩
    · exact ⟨_, shiftI_run h t (.inr rfl)⟩
    · rename_i h1 h2
      split at h
      · rename_i hk
        subst hk
        exact ⟨_, binI_run h t (fun e => h1 e) (fun e => h2 e)⟩
      · cases h
  · rename_i a b
    simp only [Rep] at hx hy
    subst hx hy
    split at h
    · rename_i e
      have hk := (hX.tt t _ e).kind
      cases h
      exact ⟨.bool (a == b), run_eql_bool w t a b hk, by simp only [Rep]⟩
    · rename_i e
      have hk := (hX.tt t _ e).kind
      cases h
      exact ⟨.bool (!(a == b)), run_neq_bool w t a b hk, by simp only [Rep]⟩
    · cases h
  · cases h

theorem eqGuard_run {op : BinOp} {t : TypeId} {x y : Operand} {u v : Value} (hu : (match u with | .int _ _ | .bool _ => true | _ => false) = true) : (eqGuard op t x y u v).run P w = .ok () w := by
  unfold eqGuard
  cases u <;> simp at hu <;> (split <;> simp)

theorem unD_run {op : UnOp} {x d : D} {u : Value} (hx : Rep w M mu x u) (h : unD op x = some d) : ∃ r, (Op.unary op u).run P w = .ok r w ∧ Rep w M mu d r := by
  refine ⟨d.toV, ?_⟩
  unfold unD at h
  split at h
  · simp only [Rep] at hx
    subst hx
    split at h <;> cases h
    exact ⟨by simp [D.toV, Op.unary], by simp only [Rep, D.toV]⟩
  · simp only [Rep] at hx
    subst hx
    split at h <;> cases h
    · exact ⟨by simp [D.toV, Op.unary, Op.intArith], by simp only [Rep, D.toV]⟩
    · exact ⟨by simp [D.toV, Op.unary, Op.intBits], by simp only [Rep, D.toV]⟩
  · cases h

theorem fieldAddrD_run (hX : XOK P X) {t : TypeId} {i : TI} (ht : X.tt t = some i) {f : Nat} {x d : D} {u : Value} (hx : Rep w M mu x u) (h : fieldAddrD X i f x = some d) : ∃ r, (Instr.fieldAt t u f).run P w = .ok r w ∧ Rep w M mu d r := by
  have hk := (hX.tt t i ht).kind
  unfold fieldAddrD at h
  split at h
  · rename_i fs hfs
    rw [hfs] at hk
    obtain ⟨fields, hu, hf⟩ := hk
    split at h
    · rename_i off ft hft
      split at h
      · rename_i fi hfi
        split at h
        · cases h
        · rename_i hsz
          rw [← hf] at hft
          rw [List.getElem?_map] at hft
          obtain ⟨fld, hfld, hpair⟩ := Option.map_eq_some_iff.1 hft
          cases hpair
          rw [Array.getElem?_toList] at hfld
          split at h
          · rename_i r o
            cases h
            simp only [Rep] at hx ⊢
            obtain ⟨l, hl, hv⟩ := hx
            cases l with
            | nowhere => simp [Loc.cell] at hv
            | at_ b base size =>
              simp only [Loc.cell] at hv
              subst hv
              refine ⟨_, ?_, _, hl, rfl⟩
              simp [Instr.fieldAt, run_underlying hu, hfld, Instr.sureAddr, fieldPlace, sizeOf_run hX hfi, hsz, addr_add_lit, Nat.add_assoc]
          · rename_i cells
            cases h
            simp only [Rep] at hx ⊢
            obtain ⟨ad, cv, rfl, hr, hh⟩ := hx
            refine ⟨.pointer (some (ad.add fld.offset)), ?_, _, cv.drop fld.offset, rfl, hr.drop _, ?_⟩
            · simp [Instr.fieldAt, run_underlying hu, hfld, Instr.sureAddr, fieldPlace, sizeOf_run hX hfi, hsz]
            · rcases hh with rfl | ⟨ad', e, hn, hc⟩
              · exact .inl (by simp)
              · cases e
                refine .inr ⟨_, rfl, by rwa [block_add], fun j hj => ?_⟩
                have h1 := hc (fld.offset + j) (by simp at hj; omega)
                rw [List.getElem?_drop, ← h1]
                congr 1
                simp only [Addr.add]
                split <;> split <;> simp_all <;> try omega
          · cases h
      · cases h
    · cases h
  · cases h

theorem part_run (hX : XOK P X) {t : TypeId} {i : TI} (ht : X.tt t = some i) {cells : List D} {cv : List Value} {off : Nat} {d : D} {mu' : Nat → Option Loc} (hr : RepL w M mu' cells cv)
    (h : (if i.agg then (if off + i.size ≤ cells.length then some (D.agg ((cells.drop off).take i.size)) else none) else cells[off]?) = some d) : ∃ r, (part t cv.toArray off).run P w = .ok r w ∧ Rep w M mu' d r := by
  split at h
  · rename_i hagg
    split at h
    · cases h
      refine ⟨.agg ((cv.drop off).take i.size).toArray, ?_, ?_⟩
      · simp only [part, Sem.run_bind, isAgg_run hX ht, Result.andThen_ok, hagg, if_true, sizeOf_run hX ht, Sem.run_pure]
        congr 2
        apply Array.ext'
        simp [List.extract_eq_take_drop]
      · simp only [Rep]; exact ⟨_, rfl, (hr.drop off).take _⟩
    · cases h
  · rename_i hagg
    obtain ⟨v, hv, hrv⟩ := hr.get off d h
    exact ⟨v, by simp [part, isAgg_run hX ht, hagg, hv], hrv⟩

theorem fieldD_run (hX : XOK P X) {t : TypeId} {i : TI} (ht : X.tt t = some i) {f : Nat} {x d : D} {u : Value} (hx : Rep w M mu x u) (h : fieldD X i f x = some d) : ∃ r, (Instr.field t u f).run P w = .ok r w ∧ Rep w M mu d r := by
  have hk := (hX.tt t i ht).kind
  unfold fieldD at h
  split at h
  · rename_i fs cells hfs
    rw [hfs] at hk
    obtain ⟨fields, hu, hf⟩ := hk
    simp only [Rep] at hx
    obtain ⟨cv, rfl, hr⟩ := hx
    split at h
    · rename_i off ft hft
      split at h
      · rename_i fi hfi
        rw [← hf] at hft
        rw [List.getElem?_map] at hft
        obtain ⟨fld, hfld, hpair⟩ := Option.map_eq_some_iff.1 hft
        cases hpair
        rw [Array.getElem?_toList] at hfld
        obtain ⟨r, h1, h2⟩ := part_run hX hfi hr h
        exact ⟨r, by simp [Instr.field, run_underlying hu, hfld, asAgg, h1], h2⟩
      · cases h
    · cases h
  · cases h

theorem SlV.cont (hX : XOK P X) {x : D} {c : Cont} {v : Value} (hx : Rep w M mu x v) (hc : x.cont = some c) : ∃ cv, ContRep w M mu0 c cv ∧ SlV w M cv v ∧ c.isVar = false := by
  cases x with
  | immI k xs => simp only [D.cont] at hc; cases hc; simp only [Rep] at hx; exact ⟨_, rfl, hx, rfl⟩
  | immB xs => simp only [D.cont] at hc; cases hc; simp only [Rep] at hx; exact ⟨_, rfl, hx, rfl⟩
  | imm2 k xss => simp only [D.cont] at hc; cases hc; simp only [Rep] at hx; obtain ⟨cv, h1, h2⟩ := hx; exact ⟨cv, h1, h2, rfl⟩
  | immG els => simp only [D.cont] at hc; cases hc; simp only [Rep] at hx; obtain ⟨cv, h1, h2, h3⟩ := hx; exact ⟨cv, ⟨h1, h2⟩, h3, rfl⟩
  | _ => simp [D.cont] at hc

theorem Loc.slice_cell {l : Loc} {off n : Nat} {v : Value} (h : l.slice off n v) {j : Nat} (hj : j < n) : ∃ b base size c, l = .at_ b base size ∧ v = .slice (some ⟨b, base + off, none⟩) n c ∧ n ≤ c ∧ off + c = size := by
  cases l with
  | nowhere => simp only [Loc.slice] at h; omega
  | at_ b base size =>
    simp only [Loc.slice] at h
    rcases h with ⟨h0, _⟩ | ⟨c, e, h1, h2⟩
    · omega
    · exact ⟨b, base, size, c, rfl, e, h1, h2⟩

theorem indexAddrD_run (hX : XOK P X) {t : TypeId} {i : TI} (ht : X.tt t = some i) {x ix d : D} {u v : Value} (hx : Rep w M mu x u) (hix : Rep w M mu ix v) (h : indexAddrD X i x ix = some d) :
    ∃ r, (Instr.indexAt t u v).run P w = .ok r w ∧ Rep w M mu d r := by
  have hk := (hX.tt t i ht).kind
  unfold indexAddrD at h
  split at h
  case h_2 => cases h
  rename_i kk j
  simp only [Rep] at hix
  subst hix
  split at h
  · rename_i e r off n hkind
    rw [hkind] at hk
    split at h
    · rename_i ei hei
      split at h
      · rename_i hb
        cases h
        simp only [Rep] at hx ⊢
        obtain ⟨l, hl, hs⟩ := hx
        obtain ⟨b, base, size, c, rfl, rfl, hn, hsz⟩ := Loc.slice_cell hs (j := j.toNat) (by omega)
        refine ⟨_, ?_, _, hl, rfl⟩
        simp [Instr.indexAt, asIntOf, run_underlying hk, sizeOf_run hX hei, hb.1, hb.2.1, hb.2.2, addr_add_lit, Nat.add_assoc]
      · cases h
    · cases h
  · rename_i e hkind hno
    rw [hkind] at hk
    split at h
    · rename_i ei c hei hc
      split at h
      · rename_i hb
        obtain ⟨d0, hd0, rfl⟩ := Option.map_eq_some_iff.1 h
        obtain ⟨cv, hcr, ⟨A, cap, rfl, hle, hh⟩, hv⟩ := SlV.cont hX hx hc
        obtain ⟨el, hel, _, hel0⟩ := hcr.get hd0
        have hlen := hcr.len
        rcases hh with rfl | ⟨ad, rfl, hn, hcell⟩
        · simp at hlen; omega
        · have hjl : (j : Int) < (cv.length : Int) := by rw [hlen]; exact hb.2.2
          refine ⟨.pointer (some (ad.add j.toNat)), ?_, ?_⟩
          · simp [Instr.indexAt, asIntOf, run_underlying hk, sizeOf_run hX hei, hb.1, hb.2.1, hjl]
          · simp only [Rep, RepL]
            refine ⟨_, [el], rfl, ⟨?_, trivial⟩, .inr ⟨_, rfl, by rwa [block_add], fun k hk => ?_⟩⟩
            · exact Rep.keeps (Keeps.refl _ _) (fun _ _ h => h) (fun r l e => by simp [mu0] at e) d0 (hel0 hv)
            · simp at hk
              subst hk
              have h1 := hcell j.toNat (by omega)
              simpa [Addr.add, hel] using h1.trans hel
      · cases h
    · cases h
  · rename_i n e cells hkind
    rw [hkind] at hk
    split at h
    · rename_i ei hei
      split at h
      · rename_i hb
        cases h
        simp only [Rep] at hx ⊢
        obtain ⟨ad, cv, rfl, hr, hh⟩ := hx
        refine ⟨.pointer (some (ad.add (j.toNat * ei.size))), ?_, _, cv.drop (j.toNat * ei.size), rfl, hr.drop _, ?_⟩
        · simp [Instr.indexAt, asIntOf, run_underlying hk, sizeOf_run hX hei, hb.1, hb.2, Instr.sureAddr]
        · rcases hh with rfl | ⟨ad', e', hn, hc⟩
          · exact .inl (by simp)
          · cases e'
            refine .inr ⟨_, rfl, by rwa [block_add], fun q hq => ?_⟩
            have h1 := hc (j.toNat * ei.size + q) (by simp at hq; omega)
            rw [List.getElem?_drop, ← h1]
            congr 1
            generalize j.toNat * ei.size = m
            simp only [Addr.add]
            split <;> split <;> simp_all <;> try omega
      · cases h
    · cases h
  · rename_i n e r off hkind
    rw [hkind] at hk
    split at h
    · rename_i ei hei
      split at h
      · rename_i hb
        cases h
        simp only [Rep] at hx ⊢
        obtain ⟨l, hl, hv⟩ := hx
        cases l with
        | nowhere => simp [Loc.cell] at hv
        | at_ b base size =>
          simp only [Loc.cell] at hv
          subst hv
          refine ⟨_, ?_, _, hl, rfl⟩
          simp [Instr.indexAt, asIntOf, run_underlying hk, sizeOf_run hX hei, hb.1, hb.2, Instr.sureAddr, addr_add_lit, Nat.add_assoc]
      · cases h
    · cases h
  · cases h

end
end Go.PR
