/- Closing a law: from a run of the law that comes to true,to what the given row says behind the call. -/
import Derived.Test.YtnhklcbddcoadaaGreatDoorTie
import Derived.ProofKit
import Derived.LaidMore
import Derived.OpenShut
import Derived.Stop.Joined
import Derived.Lib.SmallJoins
import Derived.Test.YtnhklcbddcoadaaGreatDoorFwMk
import Derived.Test.YtnhklcbddcoadaaGreatDoorFwP5
set_option linter.unusedVariables false
set_option linter.unusedSimpArgs false
set_option linter.unusedSectionVars false
section
set_option maxRecDepth 100000
namespace Go.PR.S
open Go Go.PR Go.Proofs Go.ChangeShapes Go.WideShapes Go.ChangeAt Go.RowKit Go.WideElems
def NoB : Nat -> Prop := fun _ => False
def TabOK (W : World) : Prop := Rep W NoB mu0 (.pim (z1w.map (.int .u8))) (.pointer (some ⟨0,0,none⟩))
theorem law_calls {f : FuncId} {args : List D} {vs : List Value} {W : World} {b : Bool} (hr : Runs X f args [] (boolR b)) (hg : TabOK W) (ha : RepL W NoB mu0 args vs) :
  Calls Tryz.prog f vs.toArray W fun e W' => e = .returned (.bool b) /\ Below W.heap.size W W' := by
 have hs : SR X.glob (Fset W mu0 ([] : List Row).length) W ⟨NoB,mu0⟩ W NoB mu0 vs.toArray ⟨args,rowsIn []⟩ :=
  { env := by simpa using ha
    rows := fun id row h => by
     simp only [rowsIn] at h
     split at h <;> simp at h
    apart := fun i j ri rj b hij hi hj => by
     simp only [rowsIn] at hi
     split at hi <;> simp at hi
    keeps := Keeps.refl _ _
    m1 := fun b _ h => h
    m2 := fun b h _ => h
    mlt := fun b h => h.elim
    fr := fun b h => .inl h
    glob := fun g d h => by
     have h' : glob g = some d := h
     unfold glob at h'
     split at h'
     · rename_i e
       subst e
       cases h'
       exact hg
     · cases h'
    pin := fun i _ => rfl }
 refine (Runs.sound hr W NoB mu0 vs hs).mono fun e W' ⟨v,M',mu',he,hsr⟩ => ?_
 have hv : v = .bool b := hsr.env.1
 subst hv
 refine ⟨he,hsr.keeps.os,hsr.keeps.tape,hsr.keeps.output,hsr.keeps.size,fun k hk => hsr.keeps.block k hk ?_⟩
 rintro (h | ⟨j,hj,_⟩)
 · omega
 · simp at hj
section
variable {H : Type} {enc : TypeId × Value -> H} {W W' : World}
theorem laidOut : laidOutB Tryz.prog = true := by kernel_rfl
theorem z13j (hb : Below W.heap.size W W') (ts : List TypeId) : ∀ {vs : List Value} {ds : List (DataW H)} {ps : List MemPlace},
  (ts.all fun t => Tryz.prog.readableRec t && decide (t < Tryz.prog.types.size)) = true -> DataW.TrodAll enc Tryz.prog W 0 (fun _ => true) true ts vs ds ps -> (∀ p ∈ ps,p.block < W.heap.size) ->
  DataW.TrodAll enc Tryz.prog W' 0 (fun b => decide (b < W.heap.size)) true ts vs ds ps := by
 induction ts with
 | nil =>
   intro vs ds ps _ h _
   cases vs with
   | nil => cases ds with
     | nil => exact h
     | cons _ _ => exact h.elim
   | cons _ _ => exact h.elim
 | cons t ts ih =>
   intro vs ds ps hr h hl
   obtain ⟨v,vs',d,ds',p,q,rfl,rfl,rfl,h1,h2⟩ := trodAll_cons h
   rw [List.all_cons,Bool.and_eq_true,Bool.and_eq_true,decide_eq_true_eq] at hr
   exact trodAll_cons_mk (Below.trod laidOut hr.1.1 hr.1.2 h1 hb fun x hx => hl x (List.mem_append_left _ hx))
    (ih hr.2 h2 fun x hx => hl x (List.mem_append_right _ hx))
theorem law_post {f : Func} {s : ChangeSpec} {args : Array Value} {ds gs : List (DataW H)} {before : List MemPlace}
  (hp : (f.params.toList.all fun t => Tryz.prog.readableRec t && decide (t < Tryz.prog.types.size)) = true) (hrt : f.resultTypes = #[4]) (hsv : s.vars = [])
  (hW : DataW.Whole enc Tryz.prog f.params.toList s.vars false W args.toList ds gs before)
  (h1 : (s.fn H (ds ++ gs)).results = [.lit (.bool true)]) (h2 : (s.fn H (ds ++ gs)).args = ds) (h3 : (s.fn H (ds ++ gs)).vars = []) (hb : Below W.heap.size W W') :
  s.post enc Tryz.prog f false true false false W args (.bool true) W' := by
 have hlt := hW.lt
 have hW' := hW
 obtain ⟨p,q,hA,hV,e,_⟩ := hW'
 rw [hsv] at hV
 obtain ⟨rfl,rfl⟩ := trodVars_none hV
 rw [List.append_nil] at e
 subst e
 refine ⟨ds,[],before,[],before,[],hW,?_,?_,?_,Below.frame hb _,fun h => by cases h⟩
 · rw [hrt,h1]
   exact trodAll_mk1 (shut_bool Tryz.underlying4 _)
 · rw [h2]
   exact z13j hb _ hp hA hlt
 · rw [hsv,h3]
   rfl
end
def laid : List (String × DataW Unit) := [("math/bits.deBruijn64tab",YtnhklcbddcoadaaGreatDoor.Rows.laid_math_bits_deBruijn64tab)]
theorem gTab : Tryz.prog.globalNamed "math/bits.deBruijn64tab" = some 0 := by kernel_rfl
theorem tTab : (Tryz.prog.globals[0]?).map (·.type) = some 116 := by kernel_rfl
theorem cells5 : Tryz.prog.cellsOf 5 = 1 := by kernel_rfl
theorem zta : (YtnhklcbddcoadaaGreatDoor.Rows.laid_math_bits_deBruijn64tab (H := Unit)) = .agg (z1w.map fun n => .lit (.int .u8 n)) := rfl
theorem tab_of_laid {W : World} (h : laidMetH Tryz.prog laid W) : TabOK W := by
 rw [MakeChecks.laidMetH_plain _ _ _ (by kernel_rfl)] at h
 obtain ⟨ps,⟨g,t,cs,fuel,p,q,hg,ht,hv,hd,_,_⟩,_,_⟩ := h
 obtain rfl := Option.some.inj (gTab.symm.trans hg)
 obtain rfl := Option.some.inj (tTab.symm.trans ht)
 obtain ⟨xs,m,_,hx,hlen,hn,hel⟩ := DataW.trod_array Tryz.underlying116 hd
 simp only [Prod.mk.injEq] at hx
 rw [zta] at hx
 have hx1 : z1w.map (fun n => (DataW.lit (.int .u8 n) : DataW Unit)) = xs.map (·.1) := by simpa using hx.1
 have hcell : ∀ i,i < 64 -> W.cell? ⟨0,i,none⟩ = some (.int .u8 (z1w.getD i 0)) := by
  intro i hi
  have h0 := hel i hi
  rw [cells5,Nat.mul_one] at h0
  have hxi : xs[i]? = some (xs[i]'(by omega)) := List.getElem?_eq_getElem _
  rw [hxi] at h0
  obtain ⟨k,e1,e2,_⟩ := DataW.trod_int Tryz.underlying5 h0
  have h2 : (z1w.map fun n => (DataW.lit (.int .u8 n) : DataW Unit))[i]? = (xs.map (·.1))[i]? := by rw [hx1]
  rw [List.getElem?_map,List.getElem?_map,hxi,e2] at h2
  have hdl : i < z1w.length := by show i < 64; exact hi
  rw [List.getElem?_eq_getElem hdl] at h2
  have hk : z1w[i] = k := by simpa using h2
  have hvc := World.var?_cell hg hv i
  have hci : cs[i]? = some (.int .u8 k) := by
   rw [<- Array.getElem?_toList]
   have := congrArg (fun l => l[0]?) e1
   simpa [List.getElem?_take,List.getElem?_drop] using this
  rw [List.getD_eq_getElem?_getD,List.getElem?_eq_getElem hdl,hk]
  simpa [hci] using hvc
 refine ⟨⟨0,0,none⟩,z1w.map (Value.int .u8),rfl,?_,.inr ⟨_,rfl,fun h => h,fun j hj => ?_⟩⟩
 · have : ∀ l : List Int,RepL W NoB mu0 (l.map (D.int .u8)) (l.map (Value.int .u8)) := fun l => by
    induction l with
    | nil => trivial
    | cons a l ih => exact ⟨rfl,ih⟩
   exact this _
 · have hj' : j < 64 := by rw [List.length_map] at hj; exact hj
   have hc := hcell j hj'
   have ha : (⟨0,0,none⟩ : Addr).add j = ⟨0,j,none⟩ := by
    unfold Addr.add
    split <;> simp_all
   rw [ha,hc,List.getElem?_map,List.getD_eq_getElem?_getD,List.getElem?_eq_getElem (show j < z1w.length from hj')]
   rfl
theorem door_met (os : Os) (args : Array Value) : laidMetH Tryz.prog laid ((World.doorLaid Tryz.prog 400 os).forCall (fun _ _ => 0) ⟨#[],args,[]⟩).memory :=
 laidMetH_of_parts3 (fuel := 8) (laidMet_of_run' 8 (by kernel_rfl) (by kernel_rfl)) (by kernel_rfl) (by kernel_rfl)
end Go.PR.S

end

section
set_option maxRecDepth 100000
namespace Go.PR.S
open Go Go.PR Go.Proofs Go.ChangeShapes Go.WideShapes Go.ChangeAt Go.RowKit Go.WideElems
section
variable {H : Type} {enc : TypeId × Value -> H} {W W' : World}
theorem zux {P : Program} {W : World} {base : Nat} {held : Bool} {fuel : Nat} {t e : TypeId} {cs : List Value} {x : DataW H × List MemPlace} (ht : P.underlying t = some (.slice e)) (he : P.underlying e = some (.int .u8)) (hc : P.cellsOf e = 1)
  (h : DataW.trod enc P W base (fun _ => true) held fuel t cs = some x) : ∃ xs v,cs = [v] /\ (∀ n ∈ xs,0 <= n /\ n <= 255) /\ Rep W NoB mu0 (.immI .u8 xs) v := by
 rcases open_ints ht he hc h with ⟨rfl,_⟩ | ⟨a,len,cap,zs,rfl,_,hlc,hcm,hz,_,hcell,hwf⟩
 · exact ⟨[],_,rfl,(fun n hn => by cases hn),none,0,rfl,Nat.le_refl _,.inl rfl⟩
 · simp only [if_true] at hz
   have hl : (zs.take len).length = len := by rw [List.length_take]; omega
   refine ⟨zs.take len,_,rfl,fun n hn => ?_,some a,cap,by rw [intsV,List.length_map,hl],by rw [intsV,List.length_map,hl]; exact hlc,.inr ⟨a,rfl,fun h => h,fun j hj => ?_⟩⟩
   · have := hwf n (List.mem_of_mem_take hn)
     unfold Lit.wf at this
     simp only [Bool.and_eq_true,decide_eq_true_eq] at this
     exact this
   · simp only [intsV,List.length_map,hl] at hj
     rw [hcell j (by omega)]
     simp only [intsV,List.getElem?_map,List.getElem?_take,if_pos hj]
     rw [List.getElem?_eq_getElem (by omega),List.getD_eq_getElem?_getD,List.getElem?_eq_getElem (by omega)]
     rfl
theorem open_bD {r : Reach} {b0 : Nat} {v : Value} {d : DataW H} {p : List MemPlace} (hv : Value.okWide Tryz.prog W r b0 22 v) (h : DataW.Trod enc Tryz.prog W 0 (fun _ => true) true 22 v d p) :
  ∃ xs,(∀ n ∈ xs,0 <= n /\ n <= 255) /\ Rep W NoB mu0 (.immI .u8 xs) v := by
 obtain ⟨a,l,c,rfl⟩ := okWide_slice Tryz.underlying22 hv
 obtain ⟨fuel,hf⟩ := h
 obtain ⟨xs,v,e,hl,hr⟩ := zux Tryz.underlying22 Tryz.underlying5 (by kernel_rfl) hf
 simp only [Value.cells] at e
 obtain rfl : (Value.slice a l c) = v := by simpa using e
 exact ⟨xs,hl,hr⟩
end
end Go.PR.S

end
