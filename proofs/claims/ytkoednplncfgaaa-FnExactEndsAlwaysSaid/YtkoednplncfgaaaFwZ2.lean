/- Closing a law: from a run of the law that comes to true, to what the given row says behind the call. -/
import Derived.Test.YtkoednplncfgaaaRows
import Derived.ProofKit
import Derived.LaidMore
import Derived.OpenShut
import Derived.Stop.Joined
import Derived.Lib.SmallJoins
import Derived.Test.YtkoednplncfgaaaFwMk
import Derived.Test.YtkoednplncfgaaaFwP4
section
/- Closing a law: from a run of the law that comes to true, to what the given row says behind the call. -/
set_option linter.unusedVariables false
set_option maxRecDepth 100000
namespace Go.PR.S
open Go Go.PR Go.Proofs Go.ChangeShapes Go.WideShapes Go.ChangeAt Go.RowKit Go.WideElems

def NoB : Nat → Prop := fun _ => False

theorem law_calls {f : FuncId} {args : List D} {vs : List Value} {W : World} {b : Bool} (hr : Runs X f args [] (boolR b)) (ha : RepL W NoB mu0 args vs) :
    Calls Try.prog f vs.toArray W fun e W' => e = .returned (.bool b) ∧ Below W.heap.size W W' := by
  have hs : SR X.glob (Fset W mu0 ([] : List Row).length) W ⟨NoB, mu0⟩ W NoB mu0 vs.toArray ⟨args, rowsIn []⟩ :=
    { env := by simpa using ha
      rows := fun id row h => by
        simp only [rowsIn] at h
        split at h <;> simp at h
      apart := fun i j ri rj b hij hi hj => by
        simp only [rowsIn] at hi
        split at hi <;> simp at hi
      keeps := Keeps.refl _ _
      m1 := fun b _ h => h
      m2 := fun b h _ => h
      mlt := fun b h => h.elim
      fr := fun b h => .inl h
      glob := fun g d h => by cases h
      pin := fun i _ => rfl }
  refine (Runs.sound hr W NoB mu0 vs hs).mono fun e W' ⟨v, M', mu', he, hsr⟩ => ?_
  have hv : v = .bool b := hsr.env.1
  subst hv
  refine ⟨he, hsr.keeps.os, hsr.keeps.tape, hsr.keeps.output, hsr.keeps.size, fun k hk => hsr.keeps.block k hk ?_⟩
  rintro (h | ⟨j, hj, _⟩)
  · omega
  · simp at hj

section
variable {H : Type} {enc : TypeId × Value → H} {W W' : World}

theorem laidOut : laidOutB Try.prog = true := by kernel_rfl

theorem trodAll_below (hb : Below W.heap.size W W') (ts : List TypeId) : ∀ {vs : List Value} {ds : List (DataW H)} {ps : List MemPlace},
    (ts.all fun t => Try.prog.readableRec t && decide (t < Try.prog.types.size)) = true → DataW.TrodAll enc Try.prog W 0 (fun _ => true) true ts vs ds ps → (∀ p ∈ ps, p.block < W.heap.size) →
    DataW.TrodAll enc Try.prog W' 0 (fun b => decide (b < W.heap.size)) true ts vs ds ps := by
  induction ts with
  | nil =>
    intro vs ds ps _ h _
    cases vs with
    | nil => cases ds with
      | nil => exact h
      | cons _ _ => exact h.elim
    | cons _ _ => exact h.elim
  | cons t ts ih =>
    intro vs ds ps hr h hl
    obtain ⟨v, vs', d, ds', p, q, rfl, rfl, rfl, h1, h2⟩ := trodAll_cons h
    rw [List.all_cons, Bool.and_eq_true, Bool.and_eq_true, decide_eq_true_eq] at hr
    exact trodAll_cons_mk (Below.trod laidOut hr.1.1 hr.1.2 h1 hb fun x hx => hl x (List.mem_append_left _ hx))
      (ih hr.2 h2 fun x hx => hl x (List.mem_append_right _ hx))

theorem law_post {f : Func} {s : ChangeSpec} {args : Array Value} {ds gs : List (DataW H)} {before : List MemPlace}
    (hp : (f.params.toList.all fun t => Try.prog.readableRec t && decide (t < Try.prog.types.size)) = true) (hrt : f.resultTypes = #[4]) (hsv : s.vars = [])
    (hW : DataW.Whole enc Try.prog f.params.toList s.vars false W args.toList ds gs before)
    (h1 : (s.fn H (ds ++ gs)).results = [.lit (.bool true)]) (h2 : (s.fn H (ds ++ gs)).args = ds) (h3 : (s.fn H (ds ++ gs)).vars = []) (hb : Below W.heap.size W W') :
    s.post enc Try.prog f false true false false W args (.bool true) W' := by
  have hlt := hW.lt
  have hW' := hW
  obtain ⟨p, q, hA, hV, e, _⟩ := hW'
  rw [hsv] at hV
  obtain ⟨rfl, rfl⟩ := trodVars_none hV
  rw [List.append_nil] at e
  subst e
  refine ⟨ds, [], before, [], before, [], hW, ?_, ?_, ?_, Below.frame hb _, fun h => by cases h⟩
  · rw [hrt, h1]
    exact trodAll_mk1 (shut_bool Try.underlying4 _)
  · rw [h2]
    exact trodAll_below hb _ hp hA hlt
  · rw [hsv, h3]
    rfl

theorem open_row {P : Program} {W : World} {base : Nat} {held : Bool} {fuel : Nat} {t e : TypeId} {k : IntKind} {cs : List Value} {x : DataW H × List MemPlace} (ht : P.underlying t = some (.slice e)) (he : P.underlying e = some (.int k)) (hc : P.cellsOf e = 1)
    (h : DataW.trod enc P W base (fun _ => true) held fuel t cs = some x) : ∃ xs v, cs = [v] ∧ xs.length ≤ 9223372036854775807 ∧ Rep W NoB mu0 (.immI k xs) v := by
  rcases open_ints ht he hc h with ⟨rfl, _⟩ | ⟨a, len, cap, zs, rfl, _, hlc, hcm, hz, _, hcell, _⟩
  · exact ⟨[], _, rfl, by simp, none, 0, rfl, Nat.le_refl _, .inl rfl⟩
  · simp only [if_true] at hz
    have hm : maxLen = 9223372036854775807 := by decide
    have hl : (zs.take len).length = len := by rw [List.length_take]; omega
    refine ⟨zs.take len, _, rfl, by omega, some a, cap, by rw [intsV, List.length_map, hl], by rw [intsV, List.length_map, hl]; exact hlc, .inr ⟨a, rfl, fun h => h, fun j hj => ?_⟩⟩
    simp only [intsV, List.length_map, hl] at hj
    rw [hcell j (by omega)]
    simp only [intsV, List.getElem?_map, List.getElem?_take, if_pos hj]
    rw [List.getElem?_eq_getElem (by omega), List.getD_eq_getElem?_getD, List.getElem?_eq_getElem (by omega)]
    rfl

end

end Go.PR.S

end

section
/- Closing a law over an automaton: a slice of slices. -/
set_option linter.unusedVariables false
set_option maxRecDepth 100000
namespace Go.PR.S
open Go Go.PR Go.Proofs Go.ChangeShapes Go.WideShapes Go.ChangeAt Go.RowKit Go.WideElems

section
variable {H : Type} {enc : TypeId × Value → H} {W W' : World}

theorem all2_snoc {α β : Type} {R : α → β → Prop} {a : α} {b : β} : ∀ {us : List α} {bs : List β}, All2 R us bs → R a b → All2 R (us ++ [a]) (bs ++ [b])
  | [], [], _, h => ⟨h, trivial⟩
  | [], _ :: _, h, _ => h.elim
  | _ :: _, [], h, _ => h.elim
  | _ :: us, _ :: bs, h, h1 => ⟨h.1, all2_snoc h.2 h1⟩

theorem rows_of {W : World} {a : Addr} : ∀ (len : Nat), (∀ i, i < len → ∃ (xs : List Int) (v : Value), W.cell? (a.add i) = some v ∧ xs.length ≤ 9223372036854775807 ∧ SlV W NoB (intsV .i64 xs) v) →
    ∃ (xss : List (List Int)) (cv : List Value), xss.length = len ∧ cv.length = len ∧ (∀ xs ∈ xss, xs.length ≤ 9223372036854775807) ∧ All2 (fun xs u => SlV W NoB (intsV .i64 xs) u) xss cv ∧ ∀ j, j < len → W.cell? (a.add j) = cv[j]?
  | 0, _ => ⟨[], [], rfl, rfl, by simp, trivial, fun j hj => by omega⟩
  | len + 1, h => by
    obtain ⟨xss, cv, h1, h2, h3, h4, h5⟩ := rows_of len fun i hi => h i (by omega)
    obtain ⟨xs, v, hv, hl, hs⟩ := h len (by omega)
    refine ⟨xss ++ [xs], cv ++ [v], by simp [h1], by simp [h2], ?_, all2_snoc h4 hs, fun j hj => ?_⟩
    · intro ys hy
      rcases List.mem_append.1 hy with hy | hy
      · exact h3 ys hy
      · rw [List.mem_singleton] at hy; rw [hy]; exact hl
    · by_cases e : j < len
      · rw [List.getElem?_append_left (by omega)]; exact h5 j e
      · obtain rfl : j = len := by omega
        rw [List.getElem?_append_right (by omega), h2, Nat.sub_self]; exact hv

theorem open_rows {P : Program} {W : World} {base : Nat} {held : Bool} {fuel : Nat} {t e e' : TypeId} {cs : List Value} {x : DataW H × List MemPlace} (ht : P.underlying t = some (.slice e)) (hc : P.cellsOf e = 1)
    (hte : P.underlying e = some (.slice e')) (he : P.underlying e' = some (.int .i64)) (hc' : P.cellsOf e' = 1)
    (h : DataW.trod enc P W base (fun _ => true) held fuel t cs = some x) : ∃ xss v, cs = [v] ∧ xss.length ≤ 9223372036854775807 ∧ (∀ xs ∈ xss, xs.length ≤ 9223372036854775807) ∧ Rep W NoB mu0 (.imm2 .i64 xss) v := by
  rcases DataW.trod_slice ht h with ⟨rfl, _⟩ | ⟨a, len, cap, elems, rest, n, _, rfl, _, hb, hl, hm, hlen, hel, _⟩
  · exact ⟨[], _, rfl, by simp, by simp, [], trivial, none, 0, rfl, Nat.le_refl _, .inl rfl⟩
  · have hmx : maxLen = 9223372036854775807 := by decide
    have each : ∀ i, i < len → ∃ (xs : List Int) (v : Value), W.cell? (a.add i) = some v ∧ xs.length ≤ 9223372036854775807 ∧ SlV W NoB (intsV .i64 xs) v := by
      intro i hi
      have h0 := hel i hi
      rw [List.getElem?_eq_getElem (by omega), hc, Nat.mul_one, Option.bind_eq_some_iff] at h0
      obtain ⟨cs', hcs, hy⟩ := h0
      obtain ⟨xs, v, rfl, hxl, hr⟩ := open_row hte he hc' hy
      exact ⟨xs, v, cell_of_cells?_one hcs, hxl, hr⟩
    obtain ⟨xss, cv, h1, h2, h3, h4, h5⟩ := rows_of len each
    refine ⟨xss, _, rfl, by omega, h3, cv, h4, some a, cap, by rw [h2], by omega, .inr ⟨a, rfl, fun h => h, fun j hj => ?_⟩⟩
    exact h5 j (by omega)

theorem open_auD {r : Reach} {b0 : Nat} {v : Value} {d : DataW H} {p : List MemPlace} (hv : Value.okWide Try.prog W r b0 36 v) (h : DataW.Trod enc Try.prog W 0 (fun _ => true) true 36 v d p) :
    ∃ n s f xss, xss.length ≤ 9223372036854775807 ∧ (∀ xs ∈ xss, xs.length ≤ 9223372036854775807) ∧ Rep W NoB mu0 (auD n s f xss) v := by
  obtain ⟨c0, c1, c2, c3, y0, y1, y2, y3, m, rfl, rfl, rfl, hy0, hy1, hy2, hy3⟩ := Joins.open_agg4 Try.underlying36 (by kernel_rfl) (by kernel_rfl) hv h
  obtain ⟨n, e0, _, _⟩ := DataW.trod_int Try.underlying2 hy0
  obtain ⟨s, e1, _, _⟩ := DataW.trod_int Try.underlying2 hy1
  obtain ⟨f, e2, _, _⟩ := DataW.trod_int Try.underlying2 hy2
  obtain ⟨xss, v3, e3, hl, hr, hrep⟩ := open_rows Try.underlying25 (by kernel_rfl) Try.underlying22 Try.underlying2 (by kernel_rfl) hy3
  simp only [List.cons.injEq, and_true] at e0 e1 e2 e3
  subst e0 e1 e2 e3
  exact ⟨n, s, f, xss, hl, hr, [.int .i64 n, .int .i64 s, .int .i64 f, c3], rfl, rfl, rfl, rfl, hrep, trivial⟩
end

end Go.PR.S

end
