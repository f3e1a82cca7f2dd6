/- Closing a law: from a run of the law that comes to true, to what the given row says behind the call. -/
import Derived.Test.YtmjbhacjgjihpaaDoorTie
import Derived.ProofKit
import Derived.LaidMore
import Derived.OpenShut
import Derived.Stop.Joined
import Derived.Lib.SmallJoins
import Derived.Test.YtmjbhacjgjihpaaDoorFwMk
import Derived.Test.YtmjbhacjgjihpaaDoorFwP4
import Derived.Deep.Strs
set_option linter.unusedVariables false
set_option linter.unusedSimpArgs false
set_option linter.unusedSectionVars false
section
set_option maxRecDepth 100000
namespace Go.PR.S
open Go Go.PR Go.Proofs Go.ChangeShapes Go.WideShapes Go.ChangeAt Go.RowKit Go.WideElems
def NoB : Nat → Prop := fun _ => False
def TabOK (W : World) : Prop := Rep W NoB mu0 (.pim (z1a.map (.int .u8))) (.pointer (some ⟨0, 0, none⟩))
theorem law_calls {f : FuncId} {args : List D} {vs : List Value} {W : World} {b : Bool} (hr : Runs X f args [] (boolR b)) (hg : TabOK W) (ha : RepL W NoB mu0 args vs) :
    Calls Tryd.prog f vs.toArray W fun e W' => e = .returned (.bool b) ∧ Below W.heap.size W W' := by
  have hs : SR X.glob (Fset W mu0 ([] : List Row).length) W ⟨NoB, mu0⟩ W NoB mu0 vs.toArray ⟨args, rowsIn []⟩ :=
    { env := by simpa using ha
      rows := fun id row h => by
        simp only [rowsIn] at h
        split at h <;> simp at h
      apart := fun i j ri rj b hij hi hj => by
        simp only [rowsIn] at hi
        split at hi <;> simp at hi
      keeps := Keeps.refl _ _
      m1 := fun b _ h => h
      m2 := fun b h _ => h
      mlt := fun b h => h.elim
      fr := fun b h => .inl h
      glob := fun g d h => by
        have h' : glob g = some d := h
        unfold glob at h'
        split at h'
        · rename_i e
          subst e
          cases h'
          exact hg
        · cases h'
      pin := fun i _ => rfl }
  refine (Runs.sound hr W NoB mu0 vs hs).mono fun e W' ⟨v, M', mu', he, hsr⟩ => ?_
  have hv : v = .bool b := hsr.env.1
  subst hv
  refine ⟨he, hsr.keeps.os, hsr.keeps.tape, hsr.keeps.output, hsr.keeps.size, fun k hk => hsr.keeps.block k hk ?_⟩
  rintro (h | ⟨j, hj, _⟩)
  · omega
  · simp at hj
section
variable {H : Type} {enc : TypeId × Value → H} {W W' : World}
theorem laidOut : laidOutB Tryd.prog = true := by kernel_rfl
theorem zp8 (hb : Below W.heap.size W W') (ts : List TypeId) : ∀ {vs : List Value} {ds : List (DataW H)} {ps : List MemPlace},
    (ts.all fun t => Tryd.prog.readableRec t && decide (t < Tryd.prog.types.size)) = true → DataW.TrodAll enc Tryd.prog W 0 (fun _ => true) true ts vs ds ps → (∀ p ∈ ps, p.block < W.heap.size) →
    DataW.TrodAll enc Tryd.prog W' 0 (fun b => decide (b < W.heap.size)) true ts vs ds ps := by
  induction ts with
  | nil =>
    intro vs ds ps _ h _
    cases vs with
    | nil => cases ds with
      | nil => exact h
      | cons _ _ => exact h.elim
    | cons _ _ => exact h.elim
  | cons t ts ih =>
    intro vs ds ps hr h hl
    obtain ⟨v, vs', d, ds', p, q, rfl, rfl, rfl, h1, h2⟩ := trodAll_cons h
    rw [List.all_cons, Bool.and_eq_true, Bool.and_eq_true, decide_eq_true_eq] at hr
    exact trodAll_cons_mk (Below.trod laidOut hr.1.1 hr.1.2 h1 hb fun x hx => hl x (List.mem_append_left _ hx))
      (ih hr.2 h2 fun x hx => hl x (List.mem_append_right _ hx))
theorem law_post {f : Func} {s : ChangeSpec} {args : Array Value} {ds gs : List (DataW H)} {before : List MemPlace}
    (hp : (f.params.toList.all fun t => Tryd.prog.readableRec t && decide (t < Tryd.prog.types.size)) = true) (hrt : f.resultTypes = #[4]) (hsv : s.vars = [])
    (hW : DataW.Whole enc Tryd.prog f.params.toList s.vars false W args.toList ds gs before)
    (h1 : (s.fn H (ds ++ gs)).results = [.lit (.bool true)]) (h2 : (s.fn H (ds ++ gs)).args = ds) (h3 : (s.fn H (ds ++ gs)).vars = []) (hb : Below W.heap.size W W') :
    s.post enc Tryd.prog f false true false false W args (.bool true) W' := by
  have hlt := hW.lt
  have hW' := hW
  obtain ⟨p, q, hA, hV, e, _⟩ := hW'
  rw [hsv] at hV
  obtain ⟨rfl, rfl⟩ := trodVars_none hV
  rw [List.append_nil] at e
  subst e
  refine ⟨ds, [], before, [], before, [], hW, ?_, ?_, ?_, Below.frame hb _, fun h => by cases h⟩
  · rw [hrt, h1]
    exact trodAll_mk1 (shut_bool Tryd.underlying4 _)
  · rw [h2]
    exact zp8 hb _ hp hA hlt
  · rw [hsv, h3]
    rfl
theorem z3r {P : Program} {W : World} {base : Nat} {held : Bool} {fuel : Nat} {t e : TypeId} {k : IntKind} {cs : List Value} {x : DataW H × List MemPlace} (ht : P.underlying t = some (.slice e)) (he : P.underlying e = some (.int k)) (hc : P.cellsOf e = 1)
    (h : DataW.trod enc P W base (fun _ => true) held fuel t cs = some x) : ∃ xs v, cs = [v] ∧ xs.length ≤ 9223372036854775807 ∧ Rep W NoB mu0 (.immI k xs) v := by
  rcases open_ints ht he hc h with ⟨rfl, _⟩ | ⟨a, len, cap, zs, rfl, _, hlc, hcm, hz, _, hcell, _⟩
  · exact ⟨[], _, rfl, by simp, none, 0, rfl, Nat.le_refl _, .inl rfl⟩
  · simp only [if_true] at hz
    have hm : maxLen = 9223372036854775807 := by decide
    have hl : (zs.take len).length = len := by rw [List.length_take]; omega
    refine ⟨zs.take len, _, rfl, by omega, some a, cap, by rw [intsV, List.length_map, hl], by rw [intsV, List.length_map, hl]; exact hlc, .inr ⟨a, rfl, fun h => h, fun j hj => ?_⟩⟩
    simp only [intsV, List.length_map, hl] at hj
    rw [hcell j (by omega)]
    simp only [intsV, List.getElem?_map, List.getElem?_take, if_pos hj]
    rw [List.getElem?_eq_getElem (by omega), List.getD_eq_getElem?_getD, List.getElem?_eq_getElem (by omega)]
    rfl
theorem open_lD {r : Reach} {b0 : Nat} {v : Value} {d : DataW H} {p : List MemPlace} (hv : Value.okWide Tryd.prog W r b0 22 v) (h : DataW.Trod enc Tryd.prog W 0 (fun _ => true) true 22 v d p) :
    ∃ xs, xs.length ≤ 9223372036854775807 ∧ Rep W NoB mu0 (lD xs) v := by
  obtain ⟨a, l, c, rfl⟩ := okWide_slice Tryd.underlying22 hv
  obtain ⟨fuel, hf⟩ := h
  obtain ⟨xs, v, e, hl, hr⟩ := z3r Tryd.underlying22 Tryd.underlying2 (by kernel_rfl) hf
  simp only [Value.cells] at e
  obtain rfl : (Value.slice a l c) = v := by simpa using e
  exact ⟨xs, hl, hr⟩
end
def laid : List (String × DataW Unit) := [("math/bits.deBruijn64tab", YtmjbhacjgjihpaaDoor.Rows.laid_math_bits_deBruijn64tab)]
theorem gTab : Tryd.prog.globalNamed "math/bits.deBruijn64tab" = some 0 := by kernel_rfl
theorem tTab : (Tryd.prog.globals[0]?).map (·.type) = some 164 := by kernel_rfl
theorem cells5 : Tryd.prog.cellsOf 5 = 1 := by kernel_rfl
theorem zi5 : (YtmjbhacjgjihpaaDoor.Rows.laid_math_bits_deBruijn64tab (H := Unit)) = .agg (z1a.map fun n => .lit (.int .u8 n)) := rfl
theorem tab_of_laid {W : World} (h : laidMetH Tryd.prog laid W) : TabOK W := by
  rw [MakeChecks.laidMetH_plain _ _ _ (by kernel_rfl)] at h
  obtain ⟨ps, ⟨g, t, cs, fuel, p, q, hg, ht, hv, hd, _, _⟩, _, _⟩ := h
  obtain rfl := Option.some.inj (gTab.symm.trans hg)
  obtain rfl := Option.some.inj (tTab.symm.trans ht)
  obtain ⟨xs, m, _, hx, hlen, hn, hel⟩ := DataW.trod_array Tryd.underlying164 hd
  simp only [Prod.mk.injEq] at hx
  rw [zi5] at hx
  have hx1 : z1a.map (fun n => (DataW.lit (.int .u8 n) : DataW Unit)) = xs.map (·.1) := by simpa using hx.1
  have hcell : ∀ i, i < 64 → W.cell? ⟨0, i, none⟩ = some (.int .u8 (z1a.getD i 0)) := by
    intro i hi
    have h0 := hel i hi
    rw [cells5, Nat.mul_one] at h0
    have hxi : xs[i]? = some (xs[i]'(by omega)) := List.getElem?_eq_getElem _
    rw [hxi] at h0
    obtain ⟨k, e1, e2, _⟩ := DataW.trod_int Tryd.underlying5 h0
    have h2 : (z1a.map fun n => (DataW.lit (.int .u8 n) : DataW Unit))[i]? = (xs.map (·.1))[i]? := by rw [hx1]
    rw [List.getElem?_map, List.getElem?_map, hxi, e2] at h2
    have hdl : i < z1a.length := by show i < 64; exact hi
    rw [List.getElem?_eq_getElem hdl] at h2
    have hk : z1a[i] = k := by simpa using h2
    have hvc := World.var?_cell hg hv i
    have hci : cs[i]? = some (.int .u8 k) := by
      rw [← Array.getElem?_toList]
      have := congrArg (fun l => l[0]?) e1
      simpa [List.getElem?_take, List.getElem?_drop] using this
    rw [List.getD_eq_getElem?_getD, List.getElem?_eq_getElem hdl, hk]
    simpa [hci] using hvc
  refine ⟨⟨0, 0, none⟩, z1a.map (Value.int .u8), rfl, ?_, .inr ⟨_, rfl, fun h => h, fun j hj => ?_⟩⟩
  · have : ∀ l : List Int, RepL W NoB mu0 (l.map (D.int .u8)) (l.map (Value.int .u8)) := fun l => by
      induction l with
      | nil => trivial
      | cons a l ih => exact ⟨rfl, ih⟩
    exact this _
  · have hj' : j < 64 := by rw [List.length_map] at hj; exact hj
    have hc := hcell j hj'
    have ha : (⟨0, 0, none⟩ : Addr).add j = ⟨0, j, none⟩ := by
      unfold Addr.add
      split <;> simp_all
    rw [ha, hc, List.getElem?_map, List.getD_eq_getElem?_getD, List.getElem?_eq_getElem (show j < z1a.length from hj')]
    rfl
theorem door_met (os : Os) (args : Array Value) : laidMetH Tryd.prog laid ((World.doorLaid Tryd.prog 400 os).forCall (fun _ _ => 0) ⟨#[], args, []⟩).memory :=
  laidMetH_of_parts3 (fuel := 8) (laidMet_of_run' 8 (by kernel_rfl) (by kernel_rfl)) (by kernel_rfl) (by kernel_rfl)
end Go.PR.S

end

section
set_option maxRecDepth 100000
namespace Go.PR.S
open Go Go.PR Go.Proofs Go.ChangeShapes Go.WideShapes Go.ChangeAt Go.RowKit Go.WideElems
section
variable {H : Type} {enc : TypeId × Value → H} {W W' : World}
theorem z9k {α β : Type} {R : α → β → Prop} {a : α} {b : β} : ∀ {us : List α} {bs : List β}, All2 R us bs → R a b → All2 R (us ++ [a]) (bs ++ [b])
  | [], [], _, h => ⟨h, trivial⟩
  | [], _ :: _, h, _ => h.elim
  | _ :: _, [], h, _ => h.elim
  | _ :: us, _ :: bs, h, h1 => ⟨h.1, z9k h.2 h1⟩
theorem rows_of {W : World} {a : Addr} : ∀ (len : Nat), (∀ i, i < len → ∃ (xs : List Int) (v : Value), W.cell? (a.add i) = some v ∧ xs.length ≤ 9223372036854775807 ∧ SlV W NoB (intsV .i64 xs) v) →
    ∃ (xss : List (List Int)) (cv : List Value), xss.length = len ∧ cv.length = len ∧ (∀ xs ∈ xss, xs.length ≤ 9223372036854775807) ∧ All2 (fun xs u => SlV W NoB (intsV .i64 xs) u) xss cv ∧ ∀ j, j < len → W.cell? (a.add j) = cv[j]?
  | 0, _ => ⟨[], [], rfl, rfl, by simp, trivial, fun j hj => by omega⟩
  | len + 1, h => by
    obtain ⟨xss, cv, h1, h2, h3, h4, h5⟩ := rows_of len fun i hi => h i (by omega)
    obtain ⟨xs, v, hv, hl, hs⟩ := h len (by omega)
    refine ⟨xss ++ [xs], cv ++ [v], by simp [h1], by simp [h2], ?_, z9k h4 hs, fun j hj => ?_⟩
    · intro ys hy
      rcases List.mem_append.1 hy with hy | hy
      · exact h3 ys hy
      · rw [List.mem_singleton] at hy; rw [hy]; exact hl
    · by_cases e : j < len
      · rw [List.getElem?_append_left (by omega)]; exact h5 j e
      · obtain rfl : j = len := by omega
        rw [List.getElem?_append_right (by omega), h2, Nat.sub_self]; exact hv
theorem zkn {P : Program} {W : World} {base : Nat} {held : Bool} {fuel : Nat} {t e e' : TypeId} {cs : List Value} {x : DataW H × List MemPlace} (ht : P.underlying t = some (.slice e)) (hc : P.cellsOf e = 1)
    (hte : P.underlying e = some (.slice e')) (he : P.underlying e' = some (.int .i64)) (hc' : P.cellsOf e' = 1)
    (h : DataW.trod enc P W base (fun _ => true) held fuel t cs = some x) : ∃ xss v, cs = [v] ∧ xss.length ≤ 9223372036854775807 ∧ (∀ xs ∈ xss, xs.length ≤ 9223372036854775807) ∧ Rep W NoB mu0 (.imm2 .i64 xss) v := by
  rcases DataW.trod_slice ht h with ⟨rfl, _⟩ | ⟨a, len, cap, elems, rest, n, _, rfl, _, hb, hl, hm, hlen, hel, _⟩
  · exact ⟨[], _, rfl, by simp, by simp, [], trivial, none, 0, rfl, Nat.le_refl _, .inl rfl⟩
  · have hmx : maxLen = 9223372036854775807 := by decide
    have each : ∀ i, i < len → ∃ (xs : List Int) (v : Value), W.cell? (a.add i) = some v ∧ xs.length ≤ 9223372036854775807 ∧ SlV W NoB (intsV .i64 xs) v := by
      intro i hi
      have h0 := hel i hi
      rw [List.getElem?_eq_getElem (by omega), hc, Nat.mul_one, Option.bind_eq_some_iff] at h0
      obtain ⟨cs', hcs, hy⟩ := h0
      obtain ⟨xs, v, rfl, hxl, hr⟩ := z3r hte he hc' hy
      exact ⟨xs, v, cell_of_cells?_one hcs, hxl, hr⟩
    obtain ⟨xss, cv, h1, h2, h3, h4, h5⟩ := rows_of len each
    refine ⟨xss, _, rfl, by omega, h3, cv, h4, some a, cap, by rw [h2], by omega, .inr ⟨a, rfl, fun h => h, fun j hj => ?_⟩⟩
    exact h5 j (by omega)
end
end Go.PR.S

end

section
set_option maxRecDepth 100000
namespace Go.PR.S
open Go Go.PR Go.Proofs Go.ChangeShapes Go.WideShapes Go.ChangeAt Go.RowKit Go.WideElems
section
variable {H : Type} {enc : TypeId × Value → H} {W W' : World}
theorem zch {sh : List FK} {p : Rcd} {vs : List Value} (hp : rcdRep W NoB sh p vs) : ∀ {ps : List Rcd} {cv : List Value}, rcdsRep W NoB sh ps cv → rcdsRep W NoB sh (ps ++ [p]) (cv ++ vs)
  | [], cv, h => by
    simp only [rcdsRep] at h
    subst h
    exact ⟨vs, [], by simp, hp, rfl⟩
  | q :: ps, cv, h => by
    obtain ⟨v1, v2, rfl, h1, h2⟩ := h
    exact ⟨v1, v2 ++ vs, by simp, h1, zch hp h2⟩
abbrev zK : List FK := [.int .i64, .ints .i64, .ints .i64]
theorem rcds_of {a : Addr} : ∀ (len : Nat), (∀ i, i < len → ∃ (p : Rcd) (vs : List Value), vs.length = 3 ∧ (∀ q, q < 3 → W.cell? (a.add (i * 3 + q)) = vs[q]?) ∧ rcdRep W NoB zK p vs ∧ (p.ls.headD []).length ≤ 9223372036854775807 ∧ (p.ls.tail.headD []).length ≤ 9223372036854775807) →
    ∃ (ps : List Rcd) (cv : List Value), ps.length = len ∧ cv.length = len * 3 ∧ rcdsRep W NoB zK ps cv ∧ (∀ p ∈ ps, (p.ls.headD []).length ≤ 9223372036854775807 ∧ (p.ls.tail.headD []).length ≤ 9223372036854775807) ∧ ∀ j, j < len * 3 → W.cell? (a.add j) = cv[j]?
  | 0, _ => ⟨[], [], rfl, rfl, rfl, by simp, fun j hj => by omega⟩
  | len + 1, h => by
    obtain ⟨ps, cv, h1, h2, h3, h4, h5⟩ := rcds_of len fun i hi => h i (by omega)
    obtain ⟨p, vs, g1, g2, g3, g4, g5⟩ := h len (by omega)
    refine ⟨ps ++ [p], cv ++ vs, by simp [h1], by rw [List.length_append]; omega, zch g3 h3, ?_, fun j hj => ?_⟩
    · intro y hy
      rcases List.mem_append.1 hy with hy | hy
      · exact h4 y hy
      · rw [List.mem_singleton] at hy; rw [hy]; exact ⟨g4, g5⟩
    · by_cases e : j < len * 3
      · rw [List.getElem?_append_left (by omega)]; exact h5 j e
      · rw [List.getElem?_append_right (by omega), h2]
        have := g2 (j - len * 3) (by omega)
        rwa [show len * 3 + (j - len * 3) = j by omega] at this
theorem cutZ {P : Program} {W : World} {fuel : Nat} {t : TypeId} {cs cs' : List Value} {y : DataW H × List MemPlace} (e : cs = cs') (h : DataW.trod enc P W 0 (fun _ => true) true fuel t cs = some y) :
    DataW.trod enc P W 0 (fun _ => true) true fuel t cs' = some y := e ▸ h
theorem kZ26 : Tryd.prog.cellsOf 26 = 5 := by kernel_rfl
theorem kZ93 : Tryd.prog.cellsOf 93 = 3 := by kernel_rfl
theorem kZ22 : Tryd.prog.cellsOf 22 = 1 := by kernel_rfl
theorem kZ23 : Tryd.prog.cellsOf 23 = 1 := by kernel_rfl
theorem kZ24 : Tryd.prog.cellsOf 24 = 1 := by kernel_rfl
theorem kZ2 : Tryd.prog.cellsOf 2 = 1 := by kernel_rfl
theorem zea (a : Addr) (i q : Nat) : (a.add i).add q = a.add (i + q) := by
  unfold Addr.add
  by_cases h1 : i = 0
  · subst h1; simp
  · by_cases h2 : q = 0
    · subst h2; simp [h1]
    · simp [h1, h2, Nat.add_assoc]
theorem zkm {fuel : Nat} {cs : List Value} {x : DataW H × List MemPlace} (h : DataW.trod enc Tryd.prog W 0 (fun _ => true) true fuel 23 cs = some x) :
    ∃ js v, cs = [v] ∧ js.length ≤ 9223372036854775807 ∧ (∀ p ∈ js, (p.ls.headD []).length ≤ 9223372036854775807 ∧ (p.ls.tail.headD []).length ≤ 9223372036854775807) ∧ Rep W NoB mu0 (.immR zK js) v := by
  rcases DataW.trod_slice Tryd.underlying23 h with ⟨rfl, _⟩ | ⟨a, len, cap, elems, rest, n, _, rfl, _, hb, hl, hm, hlen, hel, _⟩
  · exact ⟨[], _, rfl, by simp, by simp, none, 0, [], rfl, Nat.le_refl _, rfl, .inl rfl⟩
  · have hmx : maxLen = 9223372036854775807 := by decide
    have each : ∀ i, i < len → ∃ (p : Rcd) (vs : List Value), vs.length = 3 ∧ (∀ q, q < 3 → W.cell? (a.add (i * 3 + q)) = vs[q]?) ∧ rcdRep W NoB zK p vs ∧ (p.ls.headD []).length ≤ 9223372036854775807 ∧ (p.ls.tail.headD []).length ≤ 9223372036854775807 := by
      intro i hi
      have h0 := hel i hi
      rw [List.getElem?_eq_getElem (by omega), kZ93, Option.bind_eq_some_iff] at h0
      obtain ⟨cs', hcs, hy⟩ := h0
      obtain ⟨_, hn3, hcell⟩ := World.cells?_some hcs
      obtain ⟨y0, y1, y2, m, _, hl3, q0, q1, q2⟩ := Go.Deep.trod_struct3 Tryd.underlying93 hy
      obtain ⟨c0, c1, c2, rfl⟩ : ∃ c0 c1 c2, cs' = [c0, c1, c2] := by
        match cs', hn3 with
        | [c0, c1, c2], _ => exact ⟨c0, c1, c2, rfl⟩
      rw [kZ2] at q0
      rw [kZ22] at q1 q2
      have q0 := cutZ (cs' := [c0]) rfl q0
      have q1 := cutZ (cs' := [c1]) rfl q1
      have q2 := cutZ (cs' := [c2]) rfl q2
      obtain ⟨n0, e0, _, _⟩ := DataW.trod_int Tryd.underlying2 q0
      obtain ⟨u, v1, e1, l1, r1⟩ := z3r Tryd.underlying22 Tryd.underlying2 kZ2 q1
      obtain ⟨w, v2, e2, l2, r2⟩ := z3r Tryd.underlying22 Tryd.underlying2 kZ2 q2
      simp only [List.cons.injEq, and_true] at e0 e1 e2
      subst e0 e1 e2
      refine ⟨⟨[n0], [u, w], []⟩, [_, _, _], rfl, fun q hq => ?_, (by simp only [rcdRep]; exact ⟨rfl, r1, r2, trivial⟩), l1, l2⟩
      have := hcell q (by omega)
      rw [zea] at this
      exact this
    obtain ⟨js, cv, h1, h2, h3, h4, h5⟩ := rcds_of len each
    refine ⟨js, _, rfl, by omega, h4, some a, cap, cv, by rw [h1], by omega, h3, .inr ⟨a, rfl, fun h => h, fun j hj => ?_⟩⟩
    exact h5 j (by omega)
theorem array5 {α : Type} {cs : Array α} (h : cs.size = 5) : ∃ c0 c1 c2 c3 c4, cs = #[c0, c1, c2, c3, c4] := by
  obtain ⟨l⟩ := cs
  match l, h with
  | [c0, c1, c2, c3, c4], _ => exact ⟨c0, c1, c2, c3, c4, rfl⟩
theorem open_asD {r : Reach} {b0 : Nat} {v : Value} {d : DataW H} {p : List MemPlace} (hv : Value.okWide Tryd.prog W r b0 26 v) (h : DataW.Trod enc Tryd.prog W 0 (fun _ => true) true 26 v d p) :
    ∃ ps ss st js fs, ps.length ≤ 9223372036854775807 ∧ ss.length ≤ 9223372036854775807 ∧ st.length ≤ 9223372036854775807 ∧ js.length ≤ 9223372036854775807 ∧ (∀ p ∈ js, (p.ls.headD []).length ≤ 9223372036854775807 ∧ (p.ls.tail.headD []).length ≤ 9223372036854775807) ∧ fs.length ≤ 9223372036854775807 ∧ (∀ xs ∈ fs, xs.length ≤ 9223372036854775807) ∧
      Rep W NoB mu0 (.agg [.immI .i64 ps, .immI .i64 ss, .immI .i64 st, .immR zK js, .imm2 .i64 fs]) v := by
  obtain ⟨cs, rfl, hsz⟩ := okWide_struct Tryd.underlying26 hv
  obtain ⟨c0, c1, c2, c3, c4, rfl⟩ := array5 (hsz.trans kZ26)
  obtain ⟨fuel, hf⟩ := h
  obtain ⟨xs, n, _, _, _, hx5, hg⟩ := DataW.trod_struct Tryd.underlying26 hf
  have hx5 : xs.length = 5 := hx5
  obtain ⟨y0, y1, y2, y3, y4, rfl⟩ : ∃ y0 y1 y2 y3 y4, xs = [y0, y1, y2, y3, y4] := by
    match xs, hx5 with
    | [y0, y1, y2, y3, y4], _ => exact ⟨y0, y1, y2, y3, y4, rfl⟩
  have g0 := hg 0 ⟨"Places", 22, 0, false, "", "", 0⟩ rfl
  have g1 := hg 1 ⟨"Sizes", 22, 1, false, "", "", 24⟩ rfl
  have g2 := hg 2 ⟨"Start", 22, 2, false, "", "", 48⟩ rfl
  have g3 := hg 3 ⟨"Joints", 23, 3, false, "", "", 72⟩ rfl
  have g4 := hg 4 ⟨"Final", 24, 4, false, "", "", 96⟩ rfl
  dsimp only at g0 g1 g2 g3 g4
  rw [kZ22] at g0 g1 g2
  rw [kZ23] at g3
  rw [kZ24] at g4
  have g0 := cutZ (y := y0) (cs' := [c0]) rfl g0
  have g1 := cutZ (y := y1) (cs' := [c1]) rfl g1
  have g2 := cutZ (y := y2) (cs' := [c2]) rfl g2
  have g3 := cutZ (y := y3) (cs' := [c3]) rfl g3
  have g4 := cutZ (y := y4) (cs' := [c4]) rfl g4
  obtain ⟨ps, v0, e0, l0, r0⟩ := z3r Tryd.underlying22 Tryd.underlying2 kZ2 g0
  obtain ⟨ss, v1, e1, l1, r1⟩ := z3r Tryd.underlying22 Tryd.underlying2 kZ2 g1
  obtain ⟨st, v2, e2, l2, r2⟩ := z3r Tryd.underlying22 Tryd.underlying2 kZ2 g2
  obtain ⟨js, v3, e3, l3, m3, r3⟩ := zkm g3
  obtain ⟨fs, v4, e4, l4, m4, r4⟩ := zkn Tryd.underlying24 kZ22 Tryd.underlying22 Tryd.underlying2 kZ2 g4
  simp only [List.cons.injEq, and_true] at e0 e1 e2 e3 e4
  subst e0 e1 e2 e3 e4
  exact ⟨ps, ss, st, js, fs, l0, l1, l2, l3, m3, l4, m4, [_, _, _, _, _], rfl, r0, r1, r2, r3, r4, trivial⟩
end
end Go.PR.S

end
