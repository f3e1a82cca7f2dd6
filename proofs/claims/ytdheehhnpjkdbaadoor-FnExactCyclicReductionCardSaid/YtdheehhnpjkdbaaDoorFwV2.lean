/- The evaluator for unknown values: reading operations. -/
import Derived.Test.YtdheehhnpjkdbaaDoorFwV
set_option linter.unusedVariables false
set_option linter.unusedSimpArgs false
namespace Go.PR
open Go

def inR (x : Int) : Prop := -9223372036854775808 ≤ x ∧ x ≤ 9223372036854775807

def inV (x : Int) : V D := vbind (need (inR x)) fun _ => vpure (.int .i64 x)

def iand (a b : Int) : Int := IntKind.i64.wrap (BitVec.ofInt IntKind.i64.bits a &&& BitVec.ofInt IntKind.i64.bits b).toNat
def ior (a b : Int) : Int := IntKind.i64.wrap (BitVec.ofInt IntKind.i64.bits a ||| BitVec.ofInt IntKind.i64.bits b).toNat
def ixor (a b : Int) : Int := IntKind.i64.wrap (BitVec.ofInt IntKind.i64.bits a ^^^ BitVec.ofInt IntKind.i64.bits b).toNat
def iandnot (a b : Int) : Int := IntKind.i64.wrap (BitVec.ofInt IntKind.i64.bits a &&& ~~~ BitVec.ofInt IntKind.i64.bits b).toNat
def ishl (a b : Int) : Int := a * 2 ^ min b.toNat 64
def ishr (a b : Int) : Int := a.fdiv (2 ^ min b.toNat 64)

def binIV (op : BinOp) (k : IntKind) (a b : Int) : V D :=
  match k, op with
  | .i64, .add => inV (a + b)
  | .i64, .sub => inV (a - b)
  | .i64, .mul => inV (a * b)
  | .i64, .and => vpure (.int .i64 (iand a b))
  | .i64, .or => vpure (.int .i64 (ior a b))
  | .i64, .xor => vpure (.int .i64 (ixor a b))
  | .i64, .andNot => vpure (.int .i64 (iandnot a b))
  | .i64, .quo => vbind (need (b ≠ 0)) fun _ => inV (a.tdiv b)
  | k, .rem => vbind (need (b ≠ 0)) fun _ => vpure (.int k (a.tmod b))
  | k, op => ofO (binI op k a b)

def shiftV (op : BinOp) (k : IntKind) (a b : Int) : V D :=
  vbind (need (0 ≤ b)) fun _ => match k, op with
  | .i64, .shl => inV (ishl a b)
  | .i64, .shr => vpure (.int .i64 (ishr a b))
  | k, .shl => vpure (.int k (k.wrap (a * 2 ^ min b.toNat k.bits)))
  | k, .shr => vpure (.int k (a.fdiv (2 ^ min b.toNat k.bits)))
  | _, _ => vfail

def nilV (op : BinOp) (d : D) : V D :=
  vbind (match d with
    | .rsl _ _ n => need (0 < n)
    | d => match d.cont with
      | some c => need (0 < c.len)
      | none => vfail) fun _ => match op with
  | .eql => vpure (.bool false)
  | .neq => vpure (.bool true)
  | _ => vfail

def binV2 (op : BinOp) (t : Option TI) (x y : D) : V D :=
  match x, y with
  | .int k a, .int k' b => match op with
    | .shl => shiftV .shl k a b
    | .shr => shiftV .shr k a b
    | op => if k = k' then binIV op k a b else vfail
  | dx, dy => ofO (binD op t dx dy)

def binV (X : Ctx) (s : LSt) (op : BinOp) (t : TypeId) (x y : Operand) : V D :=
  match y with
  | .const (.slice none 0 0) => match X.tt t with
    | some ⟨.slice _, _, _, _⟩ => nilV op (ev X s.st x)
    | _ => vfail
  | y => binV2 op (X.tt t) (ev X s.st x) (ev X s.st y)

def unV (op : UnOp) (d : D) : V D :=
  match op, d with
  | .neg, .int .i64 n => inV (-n)
  | op, d => ofO (unD op d)

def convV (X : Ctx) (s d : TypeId) (x : D) : V D :=
  match X.tt s, X.tt d, x with
  | some si, some di, .int k n => match si.kind, di.kind with
    | .int _, .int .i64 => inV n
    | .int _, .int k' => vpure (.int k' (k'.wrap n))
    | _, _ => vfail
  | _, _, _ => vfail

def Cont.getT : Cont → Nat → D
  | .ints k xs, i => .int k (xs.getD i 0)
  | .bools xs, i => .bool (xs.getD i false)
  | .ints2 k xss, i => .immI k (xss.getD i [])
  | .gen els, i => els.getD i .any
  | .var cells, i => cells.getD i .any

def loadV (i : TI) (s : LSt) (ad : D) : V D :=
  match ad with
  | .pel r j => match lget r s.rl with
    | some row => if i.agg || row.c.isVar then vfail else if i.size = 1 then vbind (need (j < row.c.len)) fun _ => vpure (row.c.getT j) else vfail
    | none => vfail
  | d => ofO (loadD i s.st.rows d)

def indexAddrV (X : Ctx) (i : TI) (x ix : D) : V D :=
  match ix with
  | .int k j => match i.kind, x with
    | .slice e, .rsl r off n => match X.tt e with
      | some ei => if ei.size = 1 then vbind (need (0 ≤ j ∧ j < n)) fun _ => vpure (.pel r (off + j.toNat)) else vfail
      | none => vfail
    | .slice e, x => match X.tt e, x.cont with
      | some ei, some c => if ei.size = 1 then vbind (need (0 ≤ j ∧ j < c.len)) fun _ => vpure (.pim [c.getT j.toNat]) else vfail
      | _, _ => vfail
    | _, x => ofO (indexAddrD X i x (.int k j))
  | _ => vfail

def bndV : Option D → Nat → V Nat
  | none, d => vpure d
  | some (.int _ j), _ => vbind (need (0 ≤ j)) fun _ => vpure j.toNat
  | _, _ => vfail

def Cont.whole : Cont → V D
  | .ints k xs => vpure (.immI k xs)
  | .bools xs => vpure (.immB xs)
  | .ints2 k xss => vpure (.imm2 k xss)
  | .gen els => vpure (.immG els)
  | .var _ => vfail

def Cont.part (off n : Nat) : Cont → V D
  | .ints k xs => vpure (.immI k ((xs.drop off).take n))
  | .bools xs => vpure (.immB ((xs.drop off).take n))
  | .ints2 k xss => vpure (.imm2 k ((xss.drop off).take n))
  | .gen els => vpure (.immG ((els.drop off).take n))
  | .var _ => vfail

/-- Told: is it the whole? -/
def immV (c : Cont) (off n : Nat) : V D :=
  vbind (vtell 1 (off = 0 ∧ n = c.len)) fun b => if b then vbind (need (off = 0 ∧ n = c.len)) fun _ => c.whole else vbind (need (off + n ≤ c.len)) fun _ => c.part off n

def sliceV (X : Ctx) (i : TI) (s : LSt) (x : D) (lo hi mx : Option D) : V D :=
  match i.kind with
  | .slice e => match X.tt e with
    | some ei => if ei.size = 1 then match mx with
      | some m => match x, hi, m with
        | .rsl _ _ n, some (.int _ h), .int _ m => vbind (bndV lo 0) fun l => vbind (need ((l : Int) ≤ h ∧ h ≤ m ∧ m ≤ n)) fun _ => vpure .any
        | x, hi, m => ofO (sliceD X i s.st.rows x lo hi (some m))
      | none => match x with
        | .rsl r off n => vbind (bndV lo 0) fun l => vbind (bndV hi n) fun h => vbind (vtell 2 (h ≤ n)) fun b =>
            vbind (if b then need (l ≤ h ∧ h ≤ n) else match lget r s.rl with
              | some row => if row.c.isVar then vfail else need (l ≤ h ∧ off + h ≤ row.c.len)
              | none => vfail) fun _ => vpure (.rsl r (off + l) (h - l))
        | .nil k => vbind (bndV lo 0) fun l => vbind (bndV hi 0) fun h => vbind (need (l = 0 ∧ h = 0)) fun _ => vpure (.nil k)
        | x => match x.cont with
          | some c => vbind (bndV lo 0) fun l => vbind (bndV hi c.len) fun h => vbind (need (l ≤ h ∧ h ≤ c.len)) fun _ => immV c l (h - l)
          | none => vfail
      else vfail
    | none => vfail
  | _ => vfail

def quietV (X : Ctx) (s : LSt) (o : Oper) : V D :=
  match o.op with
  | .load t a => match X.tt t with
    | some i => loadV i s (ev X s.st a)
    | none => vfail
  | .binOp op t x y _ => binV X s op t x y
  | .unOp op _ x => unV op (ev X s.st x)
  | .convert a b x => convV X a b (ev X s.st x)
  | .slice t x lo hi mx => match X.tt t with
    | some i => sliceV X i s (ev X s.st x) (lo.map (ev X s.st)) (hi.map (ev X s.st)) (mx.map (ev X s.st))
    | none => vfail
  | .indexAddr t x ix => match X.tt t with
    | some i => indexAddrV X i (ev X s.st x) (ev X s.st ix)
    | none => vfail
  | .pick c a b => match ev X s.st c with
    | .bool t => vbind (vtell 0 (t = true)) fun g => vbind (need (t = g)) fun _ => vpure (pickD g (ev X s.st a) (ev X s.st b))
    | _ => vfail
  | _ => ofO (quiet X s.st o)

section
variable {X : Ctx} {cl : CL'} {lp : LP'} {s : LSt}

theorem inV_sim {x : Int} {f0 : Option D} (h : inR x → f0 = some (.int .i64 x)) : Sim cl lp (inV x) f0 id := Sim.needs fun hp => Sim.pure (h hp)

theorem wrap_inR {x : Int} (h : inR x) : IntKind.i64.wrap x = x := by
  unfold inR at h
  rw [IntKind.wrap_i64]; omega

theorem binIV_sim (op : BinOp) (k : IntKind) (a b : Int) : Sim cl lp (binIV op k a b) (binI op k a b) id := by
  unfold binIV
  split
  · exact inV_sim fun h => by simp only [binI, wrap_inR h]
  · exact inV_sim fun h => by simp only [binI, wrap_inR h]
  · exact inV_sim fun h => by simp only [binI, wrap_inR h]
  · exact Sim.pure rfl
  · exact Sim.pure rfl
  · exact Sim.pure rfl
  · exact Sim.pure rfl
  · exact Sim.needs fun hb => inV_sim fun h => by simp only [binI, if_neg hb, wrap_inR h]
  · exact Sim.needs fun hb => Sim.pure (by simp only [binI, if_neg hb]; rfl)
  · exact Sim.opt' fun x hx => hx

theorem shiftV_sim (op : BinOp) (k : IntKind) (a b : Int) : Sim cl lp (shiftV op k a b) (shiftI op k a b) id := by
  unfold shiftV
  refine Sim.needs fun hb => ?_
  have hb' : ¬ b < 0 := by omega
  split
  · exact inV_sim fun h => by
      have e : IntKind.i64.wrap (a * 2 ^ min b.toNat 64) = ishl a b := wrap_inR h
      simp only [shiftI, if_neg hb', IntKind.bits, e]
  · exact Sim.pure (by simp only [shiftI, if_neg hb']; rfl)
  · exact Sim.pure (by simp only [shiftI, if_neg hb']; rfl)
  · exact Sim.pure (by simp only [shiftI, if_neg hb']; rfl)
  · exact Sim.fail

theorem nilV_sim (op : BinOp) (d : D) : Sim cl lp (nilV op d) (nilD op d) id := by
  unfold nilV
  have fin : d.some? = true → Sim cl lp (match op with | .eql => vpure (.bool false) | .neq => vpure (.bool true) | _ => vfail) (nilD op d) id := fun h => by
    split
    · exact Sim.pure (by simp only [nilD, h, if_true]; rfl)
    · exact Sim.pure (by simp only [nilD, h, if_true]; rfl)
    · exact Sim.fail
  split
  · exact Sim.needs fun h => fin (by simpa [D.some?] using h)
  · rename_i d hno
    split
    · rename_i c hc
      refine Sim.needs fun h => fin ?_
      unfold D.some?
      split
      · exact (hno _ _ _ rfl).elim
      · rw [hc]; simpa using h
    · intro s' x s'' l h; unfold vbind vfail at h; cases h

theorem binV2_sim (op : BinOp) (t : Option TI) (x y : D) : Sim cl lp (binV2 op t x y) (binD op t x y) id := by
  unfold binV2
  split
  · rename_i k a k' b
    split
    · exact shiftV_sim _ _ _ _
    · exact shiftV_sim _ _ _ _
    · rename_i h1 h2
      split
      · rename_i e
        have : binD op t (.int k a) (.int k' b) = binI op k a b := by
          cases op <;> simp_all [binD]
        rw [this]
        exact binIV_sim _ _ _ _
      · exact Sim.fail
  · exact Sim.opt' fun x hx => hx

theorem binV_sim (op : BinOp) (t : TypeId) (x y : Operand) : Sim cl lp (binV X s op t x y) (binC X s.st op t x y) id := by
  unfold binV binC
  split
  · split
    · rename_i e sz by_ z h; rw [h]; exact nilV_sim _ _
    · exact Sim.fail
  · rename_i h
    split
    · exact (h rfl).elim
    · exact binV2_sim _ _ _ _

theorem unV_sim (op : UnOp) (d : D) : Sim cl lp (unV op d) (unD op d) id := by
  unfold unV
  split
  · exact inV_sim fun h => by simp only [unD, Int.zero_sub, wrap_inR h]
  · exact Sim.opt' fun x hx => hx

theorem Cont.get_getT {c : Cont} {j : Nat} (h : j < c.len) : c.get j = some (c.getT j) := by
  cases c <;> simp only [Cont.len] at h <;> simp [Cont.get, Cont.getT, h]

theorem loadV_sim (i : TI) (ad : D) : Sim cl lp (loadV i s ad) (loadD i s.st.rows ad) id := by
  unfold loadV
  split
  · rename_i r j
    split
    · rename_i row hrow
      split
      · exact Sim.fail
      · rename_i hc
        split
        · rename_i hsz
          refine Sim.needs fun h => Sim.pure ?_
          have hr : s.st.rows r = some row := by show rowsOf s.rl r = _; rw [rowsOf_get]; exact hrow
          have hc' : ¬ (i.agg = true ∨ row.c.isVar = true) := by simpa using hc
          simp only [loadD, hr, if_neg hc', hsz, if_true, Cont.get_getT h]
          rfl
        · exact Sim.fail
    · exact Sim.fail
  · exact Sim.opt' fun x hx => hx

theorem cont_some {x : D} {c : Cont} (h : x.cont = some c) : (∃ k xs, x = .immI k xs ∧ c = .ints k xs) ∨ (∃ xs, x = .immB xs ∧ c = .bools xs) ∨ (∃ k xs, x = .imm2 k xs ∧ c = .ints2 k xs) ∨ ∃ xs, x = .immG xs ∧ c = .gen xs := by
  cases x with
  | immI k xs => cases h; exact .inl ⟨k, xs, rfl, rfl⟩
  | immB xs => cases h; exact .inr (.inl ⟨xs, rfl, rfl⟩)
  | imm2 k xs => cases h; exact .inr (.inr (.inl ⟨k, xs, rfl, rfl⟩))
  | immG xs => cases h; exact .inr (.inr (.inr ⟨xs, rfl, rfl⟩))
  | _ => simp [D.cont] at h

theorem indexAddrV_sim (i : TI) (x ix : D) : Sim cl lp (indexAddrV X i x ix) (indexAddrD X i x ix) id := by
  unfold indexAddrV
  split
  · rename_i k j
    split
    · rename_i e r off n hk
      split
      · rename_i ei he
        split
        · rename_i hsz
          refine Sim.needs fun h => Sim.pure ?_
          simp only [indexAddrD, hk, he]
          rw [if_pos ⟨hsz, h⟩]; rfl
        · exact Sim.fail
      · exact Sim.fail
    · rename_i x1 e hk hno
      split
      · rename_i ei c he hc
        split
        · rename_i hsz
          refine Sim.needs fun h => Sim.pure ?_
          have hj : j.toNat < c.len := by omega
          rcases cont_some hc with ⟨k, xs, rfl, rfl⟩ | ⟨xs, rfl, rfl⟩ | ⟨k, xs, rfl, rfl⟩ | ⟨xs, rfl, rfl⟩ <;> simp only [indexAddrD, hk, he, D.cont] <;> rw [if_pos ⟨hsz, h⟩, Cont.get_getT hj] <;> rfl
        · exact Sim.fail
      · exact Sim.fail
    · exact Sim.opt' fun x hx => hx
  · exact Sim.fail

theorem bndV_sim (o : Option D) (d : Nat) : Sim cl lp (bndV o d) (bnd o d) id := by
  unfold bndV
  split
  · exact Sim.pure rfl
  · exact Sim.needs fun h => Sim.pure (by simp only [bnd, if_pos h]; rfl)
  · exact Sim.fail

theorem immV_sim (c : Cont) (off n : Nat) : Sim cl lp (immV c off n) (c.imm off n) id := by
  unfold immV
  refine Sim.tell fun b => ?_
  cases b with
  | true =>
    simp only [if_true]
    refine Sim.needs fun h => ?_
    obtain ⟨rfl, rfl⟩ := h
    cases c <;> unfold Cont.whole <;> first | exact Sim.fail | exact Sim.pure (by simp [Cont.imm, subL, Cont.len])
  | false =>
    simp only [Bool.false_eq_true, if_false]
    refine Sim.needs fun h => ?_
    cases c <;> unfold Cont.part <;> first | exact Sim.fail | exact Sim.pure (by simp only [Cont.imm]; rw [subL_eq _ _ _ (by simpa [Cont.len] using h)]; rfl)

theorem Sim.skip {α β γ δ : Type} {f : V α} {g : α → V γ} {h0 : Option δ} {R' : γ → δ} {f0 : Option β} {R : α → β} (h1 : Sim cl lp f f0 R) (h2 : ∀ x, f0 = some (R x) → Sim cl lp (g x) h0 R') : Sim cl lp (vbind f g) h0 R' := Sim.bind h1 h2

theorem sliceV_sim (i : TI) (x : D) (lo hi mx : Option D) : Sim cl lp (sliceV X i s x lo hi mx) (sliceD X i s.st.rows x lo hi mx) id := by
  unfold sliceV
  split
  case h_2 => exact Sim.fail
  rename_i e hk
  split
  case h_2 => exact Sim.fail
  rename_i ei he
  split
  case isFalse => exact Sim.fail
  rename_i hsz
  split
  · rename_i m
    split
    · rename_i r off n k h k2 m2
      refine Sim.bind (bndV_sim lo 0) fun l hl => Sim.needs fun hh => Sim.pure ?_
      simp only [sliceD, hk, he, hsz, if_true]
      simp only [id] at hl
      simp only [hl, if_pos hh]
      rfl
    · exact Sim.opt' fun x hx => hx
  · split
    · rename_i r off n
      refine Sim.bind (bndV_sim lo 0) fun l hl => Sim.bind (bndV_sim hi n) fun h hh => Sim.tell fun b => ?_
      simp only [id] at hl hh
      cases b with
      | true =>
        simp only [if_true]
        refine Sim.needs fun hc => Sim.pure ?_
        simp only [sliceD, hk, he, hsz, if_true, hl, hh]
        rw [if_pos ⟨hc.1, .inl hc.2⟩]; rfl
      | false =>
        simp only [Bool.false_eq_true, if_false]
        split
        · rename_i row hrow
          split
          · intro s' x s'' l h; unfold vbind vfail at h; cases h
          · rename_i hv
            refine Sim.needs fun hc => Sim.pure ?_
            simp only [sliceD, hk, he, hsz, if_true, hl, hh]
            have hr : s.st.rows r = some row := by show rowsOf s.rl r = _; rw [rowsOf_get]; exact hrow
            rw [if_pos ⟨hc.1, .inr (by unfold roomy; rw [hr]; simp [hv, hc.2])⟩]; rfl
        · intro s' x s'' l h; unfold vbind vfail at h; cases h
    · rename_i k
      refine Sim.bind (bndV_sim lo 0) fun l hl => Sim.bind (bndV_sim hi 0) fun h hh => Sim.needs fun hc => Sim.pure ?_
      simp only [id] at hl hh
      obtain ⟨rfl, rfl⟩ := hc
      simp only [sliceD, hk, he, hsz, if_true, hl, hh]; rfl
    · rename_i x1 hn1 hn2
      split
      · rename_i c hc
        refine Sim.bind (bndV_sim lo 0) fun l hl => Sim.bind (bndV_sim hi c.len) fun h hh => Sim.needs fun hcc => ?_
        simp only [id] at hl hh
        have : ∀ y : D, y.cont = some c → sliceD X i s.st.rows y lo hi none = c.imm l (h - l) := by
          intro y hy
          rcases cont_some hy with ⟨k, xs, rfl, rfl⟩ | ⟨xs, rfl, rfl⟩ | ⟨k, xs, rfl, rfl⟩ | ⟨xs, rfl, rfl⟩ <;> simp only [sliceD, hk, he, hsz, if_true, D.cont, hl, hh, if_pos hcc]
        rw [this _ hc]
        exact immV_sim _ _ _
      · exact Sim.fail

theorem quietV_sim (o : Oper) : Sim cl lp (quietV X s o) (quiet X s.st o) id := by
  unfold quietV
  split
  · rename_i t a hop
    split
    · rename_i i ht
      have : quiet X s.st o = loadD i s.st.rows (ev X s.st a) := by simp only [quiet, hop, ht]
      rw [this]; exact loadV_sim _ _
    · exact Sim.fail
  · rename_i op t x y yt hop
    have : quiet X s.st o = binC X s.st op t x y := by simp only [quiet, hop]
    rw [this]; exact binV_sim _ _ _ _
  · rename_i op t x hop
    have : quiet X s.st o = unD op (ev X s.st x) := by simp only [quiet, hop]
    rw [this]; exact unV_sim _ _
  · rename_i a b x hop
    unfold convV
    split
    · rename_i si di k n h1 h2 h3
      split
      · rename_i k1 e1 e2
        exact inV_sim fun h => by simp only [quiet, hop, h1, h2, h3, e1, e2, wrap_inR h]
      · rename_i k1 k2 e1 e2
        exact Sim.pure (by simp only [quiet, hop, h1, h2, h3, e1, e2]; rfl)
      · exact Sim.fail
    · exact Sim.fail
  · rename_i t x lo hi mx hop
    split
    · rename_i i ht
      have : quiet X s.st o = sliceD X i s.st.rows (ev X s.st x) (lo.map (ev X s.st)) (hi.map (ev X s.st)) (mx.map (ev X s.st)) := by simp only [quiet, hop, ht]
      rw [this]; exact sliceV_sim _ _ _ _ _
    · exact Sim.fail
  · rename_i t x ix hop
    split
    · rename_i i ht
      have : quiet X s.st o = indexAddrD X i (ev X s.st x) (ev X s.st ix) := by simp only [quiet, hop, ht]
      rw [this]; exact indexAddrV_sim _ _ _
    · exact Sim.fail
  · rename_i c a b hop
    split
    · rename_i t ht
      refine Sim.tell fun g => Sim.needs fun h => Sim.pure ?_
      subst h
      simp only [quiet, hop, ht]; rfl
    · exact Sim.fail
  · exact Sim.opt' fun x hx => hx

end
end Go.PR
