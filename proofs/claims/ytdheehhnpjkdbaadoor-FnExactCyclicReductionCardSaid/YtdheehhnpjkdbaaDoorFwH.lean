/- Variables in memory, stores, settled values: sound. -/
import Derived.Test.YtdheehhnpjkdbaaDoorFwG
import Derived.Laws.MakeOwn
set_option linter.unusedVariables false
set_option linter.unusedSimpArgs false
namespace Go.PR
open Go

theorem setCell_heap {w : World} {b : Nat} {cs : Array Value} {T : TypeId} {fr : Nat × Nat} (h : w.heap[b]? = some (.cells cs T fr)) (o : Nat) (v : Value) : (w.setCell ⟨b, o, none⟩ v).heap[b]? = some (.cells (cs.setIfInBounds o v) T fr) := by
  have hlt : b < w.heap.size := (Array.getElem?_eq_some_iff.1 h).1
  simp only [World.setCell, Array.getElem?_modify, h]
  simp

theorem setCell_keeps (w : World) (a : Addr) (v : Value) : Keeps (fun x => x = a.block) w (w.setCell a v) :=
  ⟨rfl, rfl, rfl, by simp [World.setCell], fun b _ hn => Go.RowKit.Below.heap_setCell _ _ _ _ hn⟩

theorem setCells_keeps (b : Nat) : ∀ (vs : List Value) (o : Nat) (w : World), Keeps (fun x => x = b) w (w.setCells b o vs)
  | [], _, w => Keeps.refl _ w
  | v :: vs, o, w => (setCell_keeps w ⟨b, o, none⟩ v).trans (setCells_keeps b vs (o + 1) _)

theorem setCells_heap (b : Nat) {T : TypeId} {fr : Nat × Nat} : ∀ (vs : List Value) (o : Nat) (w : World) (cs : Array Value), w.heap[b]? = some (.cells cs T fr) → o + vs.length ≤ cs.size →
    ∃ cs', (w.setCells b o vs).heap[b]? = some (.cells cs' T fr) ∧ cs'.size = cs.size ∧ (∀ j, j < vs.length → cs'[o + j]? = vs[j]?) ∧ (∀ k, k < o ∨ o + vs.length ≤ k → cs'[k]? = cs[k]?)
  | [], o, w, cs, h, _ => ⟨cs, h, rfl, by simp, fun _ _ => rfl⟩
  | v :: vs, o, w, cs, h, hl => by
    simp only [List.length_cons] at hl
    obtain ⟨cs', h1, h2, h3, h4⟩ := setCells_heap b vs (o + 1) _ _ (setCell_heap h o v) (by simp; omega)
    refine ⟨cs', h1, by simpa using h2, fun j hj => ?_, fun k hk => ?_⟩
    · cases j with
      | zero =>
        rw [h4 (o + 0) (by omega), Nat.add_zero, Array.getElem?_setIfInBounds, if_pos rfl, if_pos (by omega)]
        rfl
      | succ j =>
        have := h3 j (by simpa using hj)
        rw [show o + 1 + j = o + (j + 1) by omega] at this
        rw [this]; simp
    · rw [h4 k (by simp at hk; omega)]
      simp only [List.length_cons] at hk
      rw [Array.getElem?_setIfInBounds, if_neg (by omega)]

section
variable {P : Program} {X : Ctx} {G : Nat → Option D} {F : Nat → Prop} {w0 w w' : World} {M0 : Entry} {M : Nat → Prop} {mu : Nat → Option Loc} {tmps : Array Value} {a : Act} {st : St}

theorem SR.box (h : SR G F w0 M0 w M mu tmps st) (id : Nat) (hpin : ¬ Pinned id) {cells : List D} {cv : List Value} (hr : RepL w M mu cells cv) (h1 : ∀ u ∈ cv, u.oneCell' = true) {T : TypeId} (hk : Keeps (fun _ => False) w w') (hb : w'.heap[w.heap.size]? = some (.cells cv.toArray T (0, 0))) :
    ∃ M' mu', mu' id = some (.at_ w.heap.size 0 cv.length) ∧ SR G F w0 M0 w' M' mu' tmps (boxRow id cells st) := by
  obtain ⟨mu1, g1⟩ := SR.bindAll (home id) (home_pin id) cells.length st.env.length 0 (h.push hr)
  have hlen : st.env.length = tmps.size := by have := h.env.length; simpa using this
  obtain ⟨g2, g3⟩ := g1.cut hlen
  have hlt : w.heap.size < w'.heap.size := (Array.getElem?_eq_some_iff.1 hb).1
  unfold boxRow
  generalize Go.PR.bindAll (home id) cells.length st.env.length 0 (st.push cells) = s at *
  obtain ⟨M', mu', e1, e2, e3, _, g4⟩ := g2.place (w' := w') id hpin ⟨true, .var (D.renL (killF id) (s.env.drop st.env.length))⟩ (.at_ w.heap.size 0 cv.length) (hk.mono fun _ _ h => h.elim)
    (fun b hb' => .inl (by simp [blockOf] at hb'; omega))
    (fun M' mu' hM hmu hid => by
      refine ⟨_, hid, cv.toArray, T, cv, hb, by simp, ⟨?_, h1⟩, Nat.le_refl _, fun j hj => by simp, fun _ => ⟨(hM _).2 (.inr ⟨rfl, rfl⟩), h.fr _ h.keeps.size⟩, fun hf => Bool.noConfusion hf⟩
      refine RepL.keeps (hk.mono fun _ _ h => h.elim) (fun b hb' hm => ?_) (fun _ _ e => e) _ (RepL.ren (mu' := mu') ?_ _ g3)
      · rcases (hM b).1 hm with h2 | ⟨_, h2⟩
        · exact h2
        · simp [blockOf] at h2; omega
      · intro r i e
        simp only [killF] at e
        split at e
        · cases e
        · rename_i hne; cases e; exact hmu _ hne)
  exact ⟨M', mu', e1, g4⟩

theorem setCells_list {cs : List Value} : ∀ (us : List Value) (off : Nat), off + us.length ≤ cs.length → ∀ j, ((us.zipIdx.foldl (fun (c : Array Value) (p : Value × Nat) => c.setIfInBounds (off + p.2) p.1) cs.toArray).toList)[j]? = if off ≤ j ∧ j < off + us.length then us[j - off]? else cs[j]? := by
  intro us
  induction us generalizing cs with
  | nil => intro off _ j; simp; intro h1 h2; omega
  | cons u us ih =>
    intro off hl j
    simp only [List.length_cons] at hl
    have sh : ∀ (us : List Value) (k : Nat) (arr : Array Value), (us.zipIdx (k + 1)).foldl (fun (cs : Array Value) (p : Value × Nat) => cs.setIfInBounds (off + p.2) p.1) arr = (us.zipIdx k).foldl (fun (cs : Array Value) (p : Value × Nat) => cs.setIfInBounds (off + 1 + p.2) p.1) arr := by
      intro us
      induction us with
      | nil => intro k arr; rfl
      | cons x xs ihx =>
        intro k arr
        simp only [List.zipIdx_cons, List.foldl_cons]
        rw [ihx (k + 1)]
        congr 2
        omega
    simp only [List.zipIdx_cons, List.foldl_cons, Nat.add_zero, Nat.zero_add]
    rw [sh us 0]
    have := ih (cs := cs.set off u) (off + 1) (by simp; omega) j
    rw [show (cs.toArray.setIfInBounds off u) = (cs.set off u).toArray by simp]
    rw [this]
    by_cases h1 : off + 1 ≤ j ∧ j < off + 1 + us.length
    · rw [if_pos h1, if_pos (by simp; omega)]
      obtain ⟨q, rfl⟩ : ∃ q, j = off + 1 + q := ⟨j - (off + 1), by omega⟩
      rw [show off + 1 + q - off = q + 1 by omega, show off + 1 + q - (off + 1) = q by omega]
      simp
    · rw [if_neg h1]
      by_cases h2 : j = off
      · subst h2
        rw [if_pos (by simp), Nat.sub_self, List.getElem?_set_self (by omega)]
        rfl
      · rw [if_neg (by simp; omega)]
        rw [List.getElem?_set_ne (fun e => h2 e.symm)]

theorem ContRep.setVar {old : List D} {cv : List Value} (h : ContRep w M mu (.var old) cv) {cells : List D} {us : List Value} (hu : RepL w M mu cells us) (h1 : ∀ u ∈ us, u.oneCell' = true) {off : Nat} (hl : off + us.length ≤ cv.length) :
    ∃ cv', ContRep w M mu (.var (setCells old off cells)) cv' ∧ cv'.length = cv.length ∧ ∀ j, cv'[j]? = if off ≤ j ∧ j < off + us.length then us[j - off]? else cv[j]? := by
  obtain ⟨cv', g1, g2, g3⟩ := setCells_rep h.1 off hu
  have hj := setCells_list (cs := cv) us off hl
  rw [g3] at hj
  refine ⟨cv', ⟨g1, fun u hu' => ?_⟩, g2, hj⟩
  obtain ⟨j, hj'⟩ := List.getElem?_of_mem hu'
  rw [hj j] at hj'
  split at hj'
  · exact h1 u (List.mem_of_getElem? hj')
  · exact h.2 u (List.mem_of_getElem? hj')

/-- What a writable row's block looks like. -/
theorem SR.rowAt (h : SR G F w0 M0 w M mu tmps st) {r : Nat} {row : Row} (hr : st.rows r = some row) (hw : row.wr = true) {b base size : Nat} (hl : mu r = some (.at_ b base size)) :
    ∃ cs T cv, w.heap[b]? = some (.cells cs T (0, 0)) ∧ base + size = cs.size ∧ ContRep w M mu row.c cv ∧ cv.length ≤ size ∧ (∀ j, j < cv.length → cs[base + j]? = cv[j]?) := by
  obtain ⟨l, e, hh⟩ := h.rows r row hr
  rw [hl] at e
  cases e
  obtain ⟨cs, T, cv, h1, h2, h3, h4, h5, _⟩ := hh
  exact ⟨cs, T, cv, h1, h2, h3, h4, h5⟩

theorem frozen_no {w : World} {b : Nat} {cs : Array Value} {T : TypeId} (h : w.heap[b]? = some (.cells cs T (0, 0))) (o : Nat) (sp : Option Nat) : w.frozen? ⟨b, o, sp⟩ = false := by
  simp [World.frozen?, h]

theorem cell_some {w : World} {b : Nat} {cs : Array Value} {T : TypeId} {fr : Nat × Nat} (h : w.heap[b]? = some (.cells cs T fr)) {o : Nat} (ho : o < cs.size) : (w.cell? ⟨b, o, none⟩).isSome = true := by
  simp [World.cell?, h, ho]

/-- A store into a variable in memory. -/
theorem SR.storeVar (hX : XOK P X) (h : SR G F w0 M0 w M mu tmps st) {t : TypeId} {i : TI} (ht : X.tt t = some i) {r off : Nat} {d : D} {u v : Value} (hu : Rep w M mu (.ptr r off) u) (hv : Rep w M mu d v) (hkn : d.known = true) (hsz : d.cells.length = i.size) (hone : ∀ x ∈ v.cells.toList, x.oneCell' = true)
    {st' : St} (hs : storeVarRow r off d.cells st = some st') : ∃ w' mu', (Instr.storeAt t u v).run P w = .ok () w' ∧ SR G F w0 M0 w' M mu' tmps st' := by
  have hc := cells_rep hv hkn
  have hlen : st.env.length = tmps.size := by have := h.env.length; simpa using this
  have hvs : v.cells.toList.length = d.cells.length := hc.length.symm
  have hp : RepL w M mu (d.cells ++ [.ptr r off]) (v.cells.toList ++ [u]) := RepL.append hc (by simp only [RepL]; exact ⟨hu, trivial⟩)
  obtain ⟨mu1, g1⟩ := SR.bindAll (fun j => home r (off + j)) (fun j => home_pin _ _) d.cells.length st.env.length 0 (h.push hp)
  obtain ⟨g2, g3⟩ := g1.cut hlen
  unfold storeVarRow at hs
  dsimp only at hs
  generalize Go.PR.bindAll (fun j => home r (off + j)) d.cells.length st.env.length 0 (st.push (d.cells ++ [.ptr r off])) = s at *
  split at hs
  case h_2 => cases hs
  rename_i r' off' he
  split at hs
  case h_2 => cases hs
  rename_i old hrow
  split at hs
  case isFalse => cases hs
  rename_i hle
  cases hs
  have hg3t : RepL w M mu1 ((s.env.drop st.env.length).take d.cells.length) v.cells.toList := by
    have := g3.take d.cells.length
    rwa [show (v.cells.toList ++ [u]).take d.cells.length = v.cells.toList from by rw [← hvs]; simp] at this
  -- the address
  have hat := g1.get (st.env.length + d.cells.length)
  rw [he] at hat
  have hun : (tmps ++ (v.cells.toList ++ [u]).toArray).getD (st.env.length + d.cells.length) undef = u := by
    rw [Array.getD_eq_getD_getElem?, Array.getElem?_append_right (by omega)]
    simp [hlen, ← hvs]
  rw [hun] at hat
  simp only [Rep] at hat
  obtain ⟨l, hl, hcell⟩ := hat
  cases l with
  | nowhere => simp [Loc.cell] at hcell
  | at_ b base size =>
    simp only [Loc.cell] at hcell
    subst hcell
    obtain ⟨cs, T, cv, k1, k2, k3, k4, k5⟩ := g1.rowAt hrow rfl hl
    have hcvl := k3.len
    simp only [Cont.len] at hcvl
    obtain ⟨cv', e1, e2, e3⟩ := k3.setVar hg3t hone (off := off') (by omega)
    obtain ⟨cs', f1, f2, f3, f4⟩ := setCells_heap b v.cells.toList (base + off') w cs k1 (by omega)
    refine ⟨_, mu1, ?_, g2.write (row := ⟨true, .var old⟩) hrow rfl hl (setCells_keeps b v.cells.toList (base + off') w) e1 f1 (by omega) (by omega) ?_⟩
    · have hst := run_storeCells_cells (P := P) b (base + off') v.cells.toList 0 w (fun j hj => cell_some k1 (by omega)) (fun j hj => frozen_no k1 _ _) hone
      have hsz' : v.cells.size = i.size := by rw [← hsz, ← hvs]; simp
      simp only [Nat.add_zero] at hst
      simp [Instr.storeAt, Instr.sureAddr, Go.storeVar, sizeOf_run hX ht, hsz', hst]
    · intro j hj
      rw [e3 j]
      by_cases hin : off' ≤ j ∧ j < off' + v.cells.toList.length
      · rw [if_pos hin]
        have := f3 (j - off') (by omega)
        rw [show base + off' + (j - off') = base + j by omega] at this
        exact this
      · rw [if_neg hin, f4 (base + j) (by omega)]
        exact k5 j (by omega)

end
end Go.PR
