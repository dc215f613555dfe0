/- Texts of this seat, laid together by a program: what they say stands at each. No statement of the seat is proved in this file. -/
import Derived.Test.YtkcjaejpkjojnaaMx2
import Derived.Test.YtkcjaejpkjojnaaProg
import Derived.KernelRfl
import Derived.Handy
set_option linter.unusedSectionVars false
set_option linter.unnecessarySimpa false
set_option linter.unusedVariables false
set_option linter.unusedSimpArgs false
set_option exponentiation.threshold 4096
/- The seat's element types: their laws; the table of types against the program. No statement of the seat is proved here. -/
namespace Go.SX
open Go.Proofs

theorem encG_refs : ∀ (c : TC) (x : TD c) (r : RV G), r ∈ encG c x → refs 1 r = false ∧ oneC r = true := by
  intro c x r h
  have : (encG c x).all (fun r => (!refs 1 r) && oneC r) = true := by cases c <;> rfl
  have := List.all_eq_true.1 this r h
  simpa using this

theorem encG_size (c : TC) (x : TD c) : (encG c x).length = sizeG c := by cases c <;> rfl

theorem encG_flat (c : TC) (x : TD c) (r : RV G) (hc : flatG c = true) (h : r ∈ encG c x) : looks 1 r = false := by
  have : (encG c x).all (fun r => !looks 1 r) = true := by cases c <;> first | rfl | cases hc
  have := List.all_eq_true.1 this r h
  simpa using this

/-- What is told again says no more than what was told. -/
def Says (r r' : RV G) : Prop := ∀ (φ : Phi) (St : Stb) (v : Value), RVal φ St v r → RVal φ St v r'
theorem Says.refl (r : RV G) : Says r r := fun _ _ _ h => h

theorem decS_says {c : TC} {v : RV G} {xs : List (TD c)} (h : decS c v = some xs) : Says v (.rslice c xs) := by
  intro φ St u hu
  unfold decS at h
  split at h
  · cases h
    cases hu
    exact .rslice0 fun _ => rfl
  · cases h
    cases hu
    exact .rslice0 fun h => by cases h
  · rename_i d ys
    split at h
    · rename_i e _
      cases h
      subst e
      exact hu
    · cases h
  · rename_i d ys n
    split at h
    · rename_i e _
      cases h
      subst e
      exact hu.soft
    · cases h
  · cases h

theorem decG_says : ∀ (c : TC) (l : List (RV G)) (x : TD c), decG c l = some x → l.length = (encG c x).length ∧ ∀ (j : Nat) (r r' : RV G), l[j]? = some r → (encG c x)[j]? = some r' → Says r r' := by
  have same : ∀ (l l' : List (RV G)), l = l' → l.length = l'.length ∧ ∀ (j : Nat) (r r' : RV G), l[j]? = some r → l'[j]? = some r' → Says r r' := fun l l' e => by
    subst e
    exact ⟨rfl, fun j r r' h h' => by rw [h] at h'; cases h'; exact Says.refl r⟩
  intro c l x h
  cases c <;> simp only [decG] at h <;> (split at h <;> first | (cases h; exact same _ _ rfl) | cases h | skip)
  all_goals
    (split at h
     · rename_i ys hys
       cases h
       refine ⟨rfl, fun j r r' hr hr' => ?_⟩
       have hs := decS_says hys
       rcases j with _ | _ | _ | _ | _ | _ | _ | _ | _ | j <;> simp only [encG, List.getElem?_cons_zero, List.getElem?_cons_succ, List.getElem?_nil, Option.some.injEq, reduceCtorEq] at hr hr' <;> (subst hr; subst hr'; first | exact Says.refl _ | exact hs)
     · cases h)

instance : EncLaws G where
  refs := encG_refs
  size := encG_size
  pos c := by cases c <;> decide
  flat c x r hc h := encG_flat c x r hc h
  dec c l x h := ⟨(decG_says c l x h).1, fun φ St j v r r' h1 h2 hv => (decG_says c l x h).2 j r r' h1 h2 φ St v hv⟩

set_option maxRecDepth 100000
theorem tysOK : tyOK Try.prog tyL = true := by kernel_rfl
theorem tys : TyOk Try.prog (lk tyL) := tyOK_spec tysOK
theorem mixed : Try.prog.follows .mixedOrders = true := by kernel_rfl
end Go.SX

/- Contracts of functions, put together out of what the executor says of them. No statement of the seat is proved here. -/
namespace Go.SX
open Go.Proofs
section
variable {E : Env G}

/-! ### arguments -/
/-- The kind of an argument: a value of a code, a list of such, a function without captures, one that has captured a pointer to a value. -/
inductive AK where
  | s (c : TC)
  | l (c : TC)
  | f (n : Nat)
  | fp (n : Nat) (c : TC)
  | a2 (c : TC)
  | p (c : TC)
  | ct (c : TC)
  | tc
  | sc

abbrev AK.den : AK → Type
  | .s c => TD c
  | .l c => List (TD c)
  | .f _ => Unit
  | .fp _ c => TD c
  | .a2 c => TD c × TD c
  | .p c => TD c
  | .ct c => List (TD c) × Nat
  | .tc => GTouch × Nat
  | .sc => GShape × Nat

def scal : TC → Bool
  | .i64 | .bool | .f64 | .u8 | .u64 | .u32 => true
  | _ => false

def oneOf (l : List (RV G)) : RV G := match l with | [v] => v | _ => .junk

/-- A value of a code as one RV. -/
def encR (c : TC) (x : TD c) : RV G := match scal c with | true => oneOf (encG c x) | false => .agg (encG c x)

def decR (c : TC) (v : RV G) : Option (TD c) := match scal c with | true => decG c [v] | false => match v with | .agg l => decG c l | _ => none

def AK.enc : (k : AK) → k.den → RV G
  | .s c, x => encR c x
  | .l c, x => .rslice c x
  | .f n, _ => .func n []
  | .fp n c, x => .func n [.rptr (encG c x) 0]
  | .a2 c, (x, y) => .agg (app (encG c x) (encG c y))
  | .p c, x => .rptr (encG c x) 0
  | .ct c, (ys, n) => .cslice c ys n
  | .tc, (t, n) => .agg [.int .i64 t.Pair.A, .int .i64 t.Pair.PartA, .int .i64 t.Pair.B, .int .i64 t.Pair.PartB, .bool t.Sensor, .flt t.Normal.X, .flt t.Normal.Y, .cslice .point t.Points n]
  | .sc, (t, n) => .agg [.int .u8 t.Kind, .flt t.Radius, .cslice .vec t.Points n]

def AK.dec : (k : AK) → RV G → Option k.den
  | .s c, v => decR c v
  | .l c, v => decS c v
  | .f n, v => match v with | .func m [] => sel (Nat.beq m n) (some ()) none | _ => none
  | .fp n c, v => match v with | .func m [.rptr cs 0] => sel (Nat.beq m n) (decG c cs) none | _ => none
  | .a2 c, v => match v with
    | .agg cs => match takeN (sizeG c) cs with
      | some hd => match decG c hd, decG c (dropN (sizeG c) cs) with
        | some x, some y => some (x, y)
        | _, _ => none
      | none => none
    | _ => none
  | .p c, v => match v with
    | .rptr cs 0 => decG c cs
    | _ => none
  | .ct c, v => match v with
    | .cslice d ys n => match (inferInstance : DecidableEq TC) d c with | .isTrue h => some (h ▸ ys, n) | .isFalse _ => none
    | _ => none
  | .tc, v => match v with
    | .agg [.int .i64 a, .int .i64 b, .int .i64 c, .int .i64 d, .bool e, .flt x, .flt y, .cslice .point ys n] => some (⟨⟨a, b, c, d⟩, e, ⟨x, y⟩, ys⟩, n)
    | _ => none
  | .sc, v => match v with
    | .agg [.int .u8 a, .flt x, .cslice .vec ys n] => some (⟨a, x, ys⟩, n)
    | _ => none

abbrev dens : List AK → Type
  | [] => Unit
  | k :: r => k.den × dens r

def encs : (ks : List AK) → dens ks → List (RV G)
  | [], _ => []
  | k :: r, (x, y) => k.enc x :: encs r y

def decs' : (ks : List AK) → List (RV G) → Option (dens ks)
  | [], [] => some ()
  | k :: r, v :: l => match k.dec v with
    | some x => match decs' r l with | some y => some (x, y) | none => none
    | none => none
  | _, _ => none

theorem encG_len (c : TC) (x : TD c) (h : scal c = true) : ∃ v, encG c x = [v] := by
  cases c <;> first | exact ⟨_, rfl⟩ | cases h

theorem decG_rel {c : TC} {l : List (RV G)} {x : TD c} (h : decG c l = some x) {φ : Phi} {St : Stb} {arr : Array Value} (hs : arr.size = l.length)
    (g : ∀ (j : Nat) (u : Value) (r : RV G), arr[j]? = some u → l[j]? = some r → RVal φ St u r) :
    arr.size = (encG c x).length ∧ ∀ (j : Nat) (u : Value) (r : RV G), arr[j]? = some u → (encG c x)[j]? = some r → RVal φ St u r := by
  obtain ⟨h1, h2⟩ := decG_says c l x h
  refine ⟨by omega, fun j u r hu hr => ?_⟩
  have hj : j < l.length := by have := (List.getElem?_eq_some_iff.1 hr).1; omega
  exact h2 j _ r (List.getElem?_eq_getElem hj) hr φ St u (g j u _ hu (List.getElem?_eq_getElem hj))

theorem decR_says {c : TC} {v : RV G} {x : TD c} (h : decR c v = some x) : Says v (encR c x) := by
  intro φ St u hu
  unfold decR at h
  unfold encR
  split at h
  · rename_i hs
    obtain ⟨w, hw⟩ := encG_len c x hs
    simp only [hw, oneOf]
    obtain ⟨_, h2⟩ := decG_says c [v] x h
    exact h2 0 v w rfl (by rw [hw]; rfl) φ St u hu
  · rename_i hs
    split at h
    · rename_i l
      cases hu with
      | agg hn g =>
        obtain ⟨g1, g2⟩ := decG_rel h hn g
        exact .agg g1 g2
    · cases h

theorem AK.dec_says : ∀ {k : AK} {v : RV G} {x : k.den}, k.dec v = some x → Says v (k.enc x)
  | .s c, v, x, h => decR_says h
  | .l c, v, x, h => decS_says h
  | .f n, v, x, h => by
    simp only [AK.dec] at h
    split at h
    · rename_i m
      rw [sel_eq] at h
      split at h
      · rename_i hm
        have := Nat.eq_of_beq_eq_true hm
        subst this
        exact Says.refl _
      · cases h
    · cases h
  | .fp n c, v, x, h => by
    simp only [AK.dec] at h
    split at h
    · rename_i m l
      rw [sel_eq] at h
      split at h
      · rename_i hm
        have := Nat.eq_of_beq_eq_true hm
        subst this
        intro φ St u hu
        cases hu with
        | func hn g =>
          refine .func hn fun j u r hu hr => ?_
          cases j with
          | succ j => simp at hr
          | zero =>
            simp only [List.getElem?_cons_zero, Option.some.injEq] at hr
            subst hr
            have := g 0 u _ hu rfl
            cases this with
            | rptr hk f0 g0 =>
              obtain ⟨h1, h2⟩ := decG_says c l x h
              refine .rptr (s := 0) hk (fun j r hr => ?_) (fun j r u hr hu => ?_)
              · have hj : j < l.length := by have := (List.getElem?_eq_some_iff.1 hr).1; omega
                exact f0 j _ (List.getElem?_eq_getElem hj)
              · have hj : j < l.length := by have := (List.getElem?_eq_some_iff.1 hr).1; omega
                exact h2 j _ r (List.getElem?_eq_getElem hj) hr _ _ u (g0 j _ u (List.getElem?_eq_getElem hj) hu)
      · cases h
    · cases h

  | .a2 c, v, (x, y), h => by
    simp only [AK.dec] at h
    split at h
    · rename_i cs
      split at h
      · rename_i hd htk
        split at h
        · rename_i x' y' hx hy
          cases h
          intro φ St u hu
          cases hu with
          | agg hn g =>
            obtain ⟨t1, t2, t3⟩ := takeN_some _ _ _ htk
            rw [dropN_eq] at hy
            obtain ⟨a1, a2⟩ := decG_says c hd x hx
            obtain ⟨b1, b2⟩ := decG_says c _ y hy
            have l1 := encG_size c x
            have l2 := encG_size c y
            rw [List.length_drop] at b1
            refine .agg (by rw [app_eq, List.length_append]; omega) fun j u r hu hr => ?_
            rw [app_eq] at hr
            by_cases hj : j < (encG c x).length
            · rw [List.getElem?_append_left hj] at hr
              have hj' : j < hd.length := by omega
              exact a2 j _ r (List.getElem?_eq_getElem hj') hr _ _ u (g j u _ hu (by rw [← t3 j (by omega)]; exact List.getElem?_eq_getElem hj'))
            · rw [List.getElem?_append_right (by omega)] at hr
              have hj2 := (List.getElem?_eq_some_iff.1 hr).1
              have hj' : j < cs.length := by omega
              refine b2 (j - (encG c x).length) _ r ?_ hr _ _ u (g j u _ hu (List.getElem?_eq_getElem hj'))
              rw [List.getElem?_drop, show sizeG c + (j - (encG c x).length) = j by omega]
              exact List.getElem?_eq_getElem hj'
        · cases h
      · cases h
    · cases h

  | .p c, v, x, h => by
    simp only [AK.dec] at h
    split at h
    · rename_i cs
      intro φ St u hu
      cases hu with
      | rptr hk f0 g0 =>
        obtain ⟨h1, h2⟩ := decG_says c cs x h
        refine .rptr (s := 0) hk (fun j r hr => ?_) (fun j r u hr hu => ?_)
        · have hj : j < cs.length := by have := (List.getElem?_eq_some_iff.1 hr).1; omega
          exact f0 j _ (List.getElem?_eq_getElem hj)
        · have hj : j < cs.length := by have := (List.getElem?_eq_some_iff.1 hr).1; omega
          exact h2 j _ r (List.getElem?_eq_getElem hj) hr _ _ u (g0 j _ u (List.getElem?_eq_getElem hj) hu)
    · cases h

  | .ct c, v, x, h => by
    simp only [AK.dec] at h
    split at h
    · rename_i d ys n
      split at h
      · rename_i e _
        cases h
        subst e
        exact Says.refl _
      · cases h
    · cases h
  | .tc, v, x, h => by
    simp only [AK.dec] at h
    split at h
    · cases h
      exact Says.refl _
    · cases h
  | .sc, v, x, h => by
    simp only [AK.dec] at h
    split at h
    · cases h
      exact Says.refl _
    · cases h

theorem decs'_rel : ∀ {ks : List AK} {l : List (RV G)} {x : dens ks}, decs' ks l = some x → ∀ {φ : Phi} {St : Stb} {vs : Array Value}, ArgsRel φ St vs l → ArgsRel φ St vs (encs ks x) := by
  have main : ∀ (ks : List AK) (l : List (RV G)) (x : dens ks), decs' ks l = some x → l.length = (encs ks x).length ∧ ∀ (j : Nat) (r r' : RV G), l[j]? = some r → (encs ks x)[j]? = some r' → Says r r' := by
    intro ks
    induction ks with
    | nil =>
      intro l x h
      cases l with
      | nil => exact ⟨rfl, fun j r r' h => by simp at h⟩
      | cons v l => simp [decs'] at h
    | cons k ks ih =>
      intro l x h
      cases l with
      | nil => simp [decs'] at h
      | cons v l =>
        simp only [decs'] at h
        split at h
        · rename_i a ha
          split at h
          · rename_i b hb
            cases h
            obtain ⟨h1, h2⟩ := ih l b hb
            refine ⟨by simp [encs, h1], fun j r r' hr hr' => ?_⟩
            cases j with
            | zero =>
              simp only [encs, List.getElem?_cons_zero, Option.some.injEq] at hr hr'
              subst hr; subst hr'
              exact AK.dec_says ha
            | succ j => exact h2 j r r' (by simpa using hr) (by simpa [encs] using hr')
          · cases h
        · cases h
  intro ks l x h φ St vs hv
  obtain ⟨h1, h2⟩ := main ks l x h
  refine ⟨by rw [hv.1, h1], fun j u r hu hr => ?_⟩
  have hj : j < l.length := by have := (List.getElem?_eq_some_iff.1 hr).1; omega
  exact h2 j _ r (List.getElem?_eq_getElem hj) hr _ _ _ (hv.2 j u _ hu (List.getElem?_eq_getElem hj))

/-! ### code -/
def bodyD (fn : Func) : Code := match fn.body with | some c => c | none => .skip

def fnOK (fn : Func) : Bool := fn.body.isSome && !(fn.name == "runtime.NumGoroutine") && dstOK fn.ntmps (bodyD fn)

def loops : Code → List (Option Nat × Code)
  | .seq a b => app (loops a) (loops b)
  | .cond _ a b => app (loops a) (loops b)
  | .block _ c => loops c
  | .loop c => (firstRegion c, c) :: loops c
  | .scope c => loops c
  | _ => []

/-- The body of a function's loop, by number in the text. -/
def lpBody (fn : Func) (i : Nat) : Code := match getN (loops (bodyD fn)) i with | some x => x.2 | none => .skip

theorem LpsOk.of {mu : List Nat} : ∀ c, (∀ i b lc, (some i, b) ∈ loops c → E.lp i = some lc → LpOk E mu b lc) → LpsOk E mu c
  | .seq a b, h => by
    simp only [loops, app_eq, List.mem_append] at h
    exact ⟨LpsOk.of a fun i b lc hb => h i b lc (.inl hb), LpsOk.of b fun i b lc hb => h i b lc (.inr hb)⟩
  | .cond _ a b, h => by
    simp only [loops, app_eq, List.mem_append] at h
    exact ⟨LpsOk.of a fun i b lc hb => h i b lc (.inl hb), LpsOk.of b fun i b lc hb => h i b lc (.inr hb)⟩
  | .block _ c, h => LpsOk.of c h
  | .loop c, h => by
    simp only [loops, List.mem_cons] at h
    exact ⟨fun i lc hi hl => h i c lc (.inl (by rw [hi])) hl, LpsOk.of c fun i b lc hb => h i b lc (.inr hb)⟩
  | .scope c, h => LpsOk.of c h
  | .skip, _ => trivial
  | .region _ _ _, _ => trivial
  | .rangeFunc _ _ _ _, _ => trivial
  | .exit _, _ => trivial
  | .label _, _ => trivial
  | .goto _, _ => trivial
  | .ret, _ => trivial
  | .refuse _, _ => trivial

theorem LpsOk.none {mu : List Nat} {c : Code} (h : loops c = []) : LpsOk E mu c := LpsOk.of c fun i b lc hb => by rw [h] at hb; simp at hb

/-! ### contracts that write nothing -/
def FC.sp (ks : List AK) (res : dens ks → RV G) : FC G := FC.ofPure fun vs => match decs' ks vs with | some x => some (res x) | none => none
def FC.rn (ks : List AK) (run : dens ks → (RV G → List (Blk G) → List (Blk G) → Ans G) → Ans G) : FC G := FC.ofRun [] fun vs _ K => match decs' ks vs with | some x => run x K | none => none

/-- The contracts so far. -/
abbrev Ctr := List (Nat × FC G)
def AllOk (L : Ctr) : Prop := ∀ x ∈ L, FcOk Try.prog x.1 x.2

def eqTs : List Nat := [26, 23]
/-- The methods that are called by interfaces. -/
def mtL : List (Nat × String × Nat) := [(189, "tumble/shape.check", 216), (191, "tumble/shape.check", 221), (192, "tumble/shape.check", 225)]
def mtOf (t : Nat) (name : String) : Option Nat := match lk mtL t with
  | some (n, g) => match decEq n name with | .isTrue _ => some g | .isFalse _ => none
  | none => none
def mtOk (P : Program) (x : Nat × String × Nat) : Bool := match P.info? x.1, P.underlying x.1 with
  | some i, some d => (match d with | .pointer _ => false | _ => true) && (match i.methods.find? (·.name == x.2.1) with
    | some m => m.path.isEmpty && (match m.func with | some (g, q) => Nat.beq g x.2.2 && !q | none => false)
    | none => false)
  | _, _ => false
theorem mtOk_spec {P : Program} {x : Nat × String × Nat} (h : mtOk P x = true) (n : Nat) (v : Value) (w : World) : (method (n + 1) x.1 v x.2.1).run P w = .ok (x.2.2, v) w := by
  unfold mtOk at h
  split at h
  · rename_i i d hi hd
    simp only [Bool.and_eq_true] at h
    obtain ⟨h1, h2⟩ := h
    split at h2
    · rename_i m hm
      simp only [Bool.and_eq_true] at h2
      obtain ⟨h3, h4⟩ := h2
      split at h4
      · rename_i g q hf
        simp only [Bool.and_eq_true, Bool.not_eq_true'] at h4
        obtain ⟨h5, rfl⟩ := h4
        have h5 := Nat.eq_of_beq_eq_true h5
        subst h5
        have hp : m.path = #[] := by simpa using h3
        simp only [method, typeInfo, Sem.run_bind, run_program, Result.andThen_ok, hi]
        simp only [Sem.run_bind, Sem.run_pure, Result.andThen_ok, hm, hp, follow, hf, receiverAt, run_underlying hd]
        cases d <;> first | rfl | cases h1
      · cases h4
    · cases h2
  · cases h
theorem mtL_ok : ∀ t name g, mtOf t name = some g → ∀ (v : Value) (w : World), (method (Try.prog.types.size + Made.depth) t v name).run Try.prog w = .ok (g, v) w := fun t name g h v w => by
  unfold mtOf at h
  split at h
  · rename_i n g' hl
    split at h
    · rename_i e _
      cases h
      subst e
      have ha : mtL.all (mtOk Try.prog) = true := by kernel_rfl
      have := List.all_eq_true.1 ha _ (lk_mem _ _ _ hl)
      have hd : 0 < Made.depth := by decide
      generalize Try.prog.types.size = k
      cases hm : k + Made.depth with
      | zero => omega
      | succ n => exact mtOk_spec this n v w
    · cases h
  · cases h
/-- The environment of a list of contracts and of loops. -/
def EV (L : Ctr) (lp : List (Nat × LC G)) : Env G := { ty := lk tyL, eqt := eqTs, fn := lk L, lp := lk lp, mt := mtOf }

/-- The same, with slots of slices that are told by their content. -/
def EVc (L : Ctr) (lp : List (Nat × LC G)) (cs : List Nat) : Env G := { ty := lk tyL, eqt := eqTs, fn := lk L, lp := lk lp, mt := mtOf, con := fun d => memN d cs }

theorem AllOk.nil : AllOk [] := fun x h => by simp at h
theorem AllOk.cons {L : Ctr} {f : Nat} {fc : FC G} (h : FcOk Try.prog f fc) (g : AllOk L) : AllOk ((f, fc) :: L) := fun x hx => by
  rcases List.mem_cons.1 hx with rfl | hx
  · exact h
  · exact g x hx

theorem EnvOk.ofc (hq : ∀ t, t ∈ eqTs → EqOk G Try.prog t) {L : Ctr} (h : AllOk L) (lp : List (Nat × LC G)) (cs : List Nat) : EnvOk Try.prog (EVc L lp cs) where
  ty := tys
  eqt := hq
  mt := mtL_ok
  fn _ _ hf := h _ (lk_mem _ _ _ hf)
theorem EnvOk.of (hq : ∀ t, t ∈ eqTs → EqOk G Try.prog t) {L : Ctr} (h : AllOk L) (lp : List (Nat × LC G)) : EnvOk Try.prog (EV L lp) where
  ty := tys
  eqt := hq
  mt := mtL_ok
  fn _ _ hf := h _ (lk_mem _ _ _ hf)
end
end Go.SX

/- '==' of structs of the seat; contracts out of the executor's answers. No statement of the seat is proved here. -/
namespace Go.SX
open Go.Proofs

/-! ### '==' of structs -/
theorem like_flt {vs : List Value} {z l : List (RV G)} {b : Nat} (h : zOK (.float .f64 b :: vs) z = true) (g : like z l = true) : ∃ a l' z', l = .flt a :: l' ∧ zOK vs z' = true ∧ like z' l' = true := by
  cases z with
  | nil => simp [zOK] at h
  | cons v z =>
    cases v <;> simp only [zOK, Bool.false_eq_true] at h
    · cases l <;> simp [like] at g
    · simp only [Bool.and_eq_true] at h
      cases l with
      | nil => simp [like] at g
      | cons x l =>
        cases x <;> simp only [like, Bool.false_eq_true] at g
        exact ⟨_, _, _, rfl, h.2, g⟩
theorem like_int {vs : List Value} {z l : List (RV G)} {q : IntKind} {b : Int} (h : zOK (.int q b :: vs) z = true) (g : like z l = true) : ∃ a l' z', l = .int q a :: l' ∧ zOK vs z' = true ∧ like z' l' = true := by
  cases z with
  | nil => simp [zOK] at h
  | cons v z =>
    cases v <;> simp only [zOK, Bool.false_eq_true] at h
    · cases l <;> simp [like] at g
    · simp only [Bool.and_eq_true, decide_eq_true_eq] at h
      obtain ⟨⟨rfl, _⟩, h2⟩ := h
      cases l with
      | nil => simp [like] at g
      | cons x l =>
        cases x <;> simp only [like, Bool.false_eq_true] at g
        split at g
        · rename_i e _
          subst e
          exact ⟨_, _, _, rfl, h2, g⟩
        · cases g
theorem like_nil {z l : List (RV G)} (h : zOK [] z = true) (g : like z l = true) : l = [] := by
  cases z with
  | nil => cases l <;> simp [like] at g ⊢
  | cons v z => simp [zOK] at h

theorem agg_two {φ : Phi} {St : Stb} {arr : Array Value} {a b : RV G} (h : RVal φ St (.agg arr) (.agg [a, b])) : ∃ u v, arr = #[u, v] ∧ RVal φ St u a ∧ RVal φ St v b := by
  cases h with
  | agg hn g =>
    have : arr.size = 2 := hn
    refine ⟨arr[0], arr[1], ?_, g 0 _ _ (Array.getElem?_eq_getElem (by omega)) rfl, g 1 _ _ (Array.getElem?_eq_getElem (by omega)) rfl⟩
    apply Array.ext
    · simp [this]
    · intro i h1 h2
      rcases i with _ | _ | i
      · rfl
      · rfl
      · omega
theorem agg_four {φ : Phi} {St : Stb} {arr : Array Value} {a b c d : RV G} (h : RVal φ St (.agg arr) (.agg [a, b, c, d])) : ∃ u v x y, arr = #[u, v, x, y] ∧ RVal φ St u a ∧ RVal φ St v b ∧ RVal φ St x c ∧ RVal φ St y d := by
  cases h with
  | agg hn g =>
    have : arr.size = 4 := hn
    refine ⟨arr[0], arr[1], arr[2], arr[3], ?_, g 0 _ _ (Array.getElem?_eq_getElem (by omega)) rfl, g 1 _ _ (Array.getElem?_eq_getElem (by omega)) rfl, g 2 _ _ (Array.getElem?_eq_getElem (by omega)) rfl, g 3 _ _ (Array.getElem?_eq_getElem (by omega)) rfl⟩
    apply Array.ext
    · simp [this]
    · intro i h1 h2
      rcases i with _ | _ | _ | _ | i
      · rfl
      · rfl
      · rfl
      · rfl
      · omega

set_option maxRecDepth 20000
theorem zero26 : (Try.prog.info? 26).map (fun i => i.zero.map (fun z => z.cells.toList)) = some (some [.float .f64 0, .float .f64 0]) := by kernel_rfl
theorem zero23 : (Try.prog.info? 23).map (fun i => i.zero.map (fun z => z.cells.toList)) = some (some [.int .i64 0, .int .i64 0, .int .i64 0, .int .i64 0]) := by kernel_rfl
theorem guard26 : Try.prog.eqGuardType Try.prog.depth 26 = false := by kernel_rfl
theorem guard23 : Try.prog.eqGuardType Try.prog.depth 23 = false := by kernel_rfl
theorem held26 : Try.prog.stoodInHeld 26 = false := by kernel_rfl
theorem held23 : Try.prog.stoodInHeld 23 = false := by kernel_rfl

theorem zero_at {t : Nat} {l r : List (RV G)} {cs : List Value} (h : (Try.prog.info? t).map (fun i => i.zero.map (fun z => z.cells.toList)) = some (some cs))
    (g : ∀ i zv, Try.prog.info? t = some i → i.zero = some zv → ∃ z : List (RV G), zOK zv.cells.toList z = true ∧ like z l = true ∧ like z r = true) : ∃ z : List (RV G), zOK cs z = true ∧ like z l = true ∧ like z r = true := by
  cases hi : Try.prog.info? t with
  | none => rw [hi] at h; cases h
  | some i =>
    rw [hi] at h
    simp only [Option.map_some, Option.some.injEq] at h
    obtain ⟨zv, hz, e⟩ := Option.map_eq_some_iff.1 h
    obtain ⟨z, h1, h2⟩ := g i zv hi hz
    rw [e] at h1
    exact ⟨z, h1, h2⟩

theorem run_equalIn_flt (d : Nat) {t : Nat} {w : World} {a b : Nat} (h : Try.prog.underlying t = some (.float .f64)) : (Op.equalIn (d + 1) t (.float .f64 a) (.float .f64 b)).run Try.prog w = .ok (feq a b) w := by
  simp only [Op.equalIn, Sem.run_bind, run_underlying h, Result.andThen_ok]
  rfl

theorem isAgg_no {t : Nat} {d : TypeDesc} {w : World} (h : Try.prog.underlying t = some d) (hd : TypeDesc.isAgg d = false) : (isAgg t).run Try.prog w = .ok false w := by
  simp only [Go.isAgg, Sem.run_bind, run_underlying h, Result.andThen_ok]
  cases d <;> first | rfl | cases hd

theorem part_at {t : Nat} {d : TypeDesc} {w : World} {cs : Array Value} {i : Nat} {v : Value} (h : Try.prog.underlying t = some d) (hd : TypeDesc.isAgg d = false) (hv : cs[i]? = some v) : (part t cs i).run Try.prog w = .ok v w := by
  simp only [part, Sem.run_bind, isAgg_no h hd, Result.andThen_ok, Bool.false_eq_true, if_false, hv, Sem.run_pure]

theorem feq_rel {x x' y y' : Nat} (h : FEq x x') (g : FEq y y') : feq x y = feq x' y' := by unfold feq; rw [h.order g]

theorem eqRun {t : Nat} {arr arr' : Array Value} {w : World} {b : Bool} {x y : Operand} (hg : Try.prog.eqGuardType Try.prog.depth t = false) (h : (Op.equalIn 10000 t (.agg arr) (.agg arr')).run Try.prog w = .ok b w) :
    (do eqGuard .eql t x y (.agg arr) (.agg arr'); binOp .eql t (.agg arr) (.agg arr') : Sem Value).run Try.prog w = .ok (.bool b) w ∧
    (do eqGuard .neq t x y (.agg arr) (.agg arr'); binOp .neq t (.agg arr) (.agg arr') : Sem Value).run Try.prog w = .ok (.bool (!b)) w := by
  constructor
  · rw [Sem.run_bind, run_eqGuard_agg w .eql t x y arr arr' hg, Result.andThen_ok, run_eql_struct, h]; rfl
  · rw [Sem.run_bind, run_eqGuard_agg w .neq t x y arr arr' hg, Result.andThen_ok, run_neq_struct, h]; rfl

theorem eqOk26 : EqOk G Try.prog 26 := by
  intro φ St arr arr' l r b w x y hl hr hz he
  obtain ⟨z, h1, h2, h3⟩ := zero_at zero26 hz
  have h1' := h1
  obtain ⟨a0, l, z', rfl, h1, h2⟩ := like_flt h1 h2
  obtain ⟨a1, l, z', rfl, h1, h2⟩ := like_flt h1 h2
  obtain rfl := like_nil h1 h2
  obtain ⟨b0, r, z', rfl, h1, h3⟩ := like_flt h1' h3
  obtain ⟨b1, r, z', rfl, h1, h3⟩ := like_flt h1 h3
  obtain rfl := like_nil h1 h3
  obtain ⟨u0, u1, rfl, q0, q1⟩ := agg_two hl
  obtain ⟨v0, v1, rfl, p0, p1⟩ := agg_two hr
  obtain ⟨u0, rfl, k0⟩ := q0.inv_flt
  obtain ⟨u1, rfl, k1⟩ := q1.inv_flt
  obtain ⟨v0, rfl, m0⟩ := p0.inv_flt
  obtain ⟨v1, rfl, m1⟩ := p1.inv_flt
  simp only [eqs, Option.some.injEq] at he
  subst he
  refine eqRun guard26 ?_
  have ht : Try.prog.underlying 26 = some (.struct (Try.prog.fieldsOf 26)) := by simp only [Program.fieldsOf, Try.underlying26]
  rw [show (10000 : Nat) = 9999 + 1 from rfl, run_equalIn_struct w 9999 26 _ _ ht held26]
  simp only [Program.fieldsOf, Try.underlying26, Op.eqFields, Sem.run_bind, Sem.run_ite]
  have n1 : ¬ ("X" = "_") := by decide
  have n2 : ¬ ("Y" = "_") := by decide
  simp only [ne_eq, n1, n2, not_false_iff, if_true, Sem.run_bind,
    part_at (cs := #[Value.float .f64 u0, .float .f64 u1]) (i := 0) (v := .float .f64 u0) Try.underlying24 rfl rfl, part_at (cs := #[Value.float .f64 u0, .float .f64 u1]) (i := 1) (v := .float .f64 u1) Try.underlying24 rfl rfl,
    part_at (cs := #[Value.float .f64 v0, .float .f64 v1]) (i := 0) (v := .float .f64 v0) Try.underlying24 rfl rfl, part_at (cs := #[Value.float .f64 v0, .float .f64 v1]) (i := 1) (v := .float .f64 v1) Try.underlying24 rfl rfl,
    Result.andThen_ok, show (9999 : Nat) = 9998 + 1 from rfl, run_equalIn_flt 9998 Try.underlying24, feq_rel k0 m0, feq_rel k1 m1]
  cases feq a0 b0 <;> cases feq a1 b1 <;> simp

theorem eqOk23 : EqOk G Try.prog 23 := by
  intro φ St arr arr' l r b w x y hl hr hz he
  obtain ⟨z, h1, h2, h3⟩ := zero_at zero23 hz
  have h1' := h1
  obtain ⟨a0, l, z', rfl, h1, h2⟩ := like_int h1 h2
  obtain ⟨a1, l, z', rfl, h1, h2⟩ := like_int h1 h2
  obtain ⟨a2, l, z', rfl, h1, h2⟩ := like_int h1 h2
  obtain ⟨a3, l, z', rfl, h1, h2⟩ := like_int h1 h2
  obtain rfl := like_nil h1 h2
  obtain ⟨b0, r, z', rfl, h1, h3⟩ := like_int h1' h3
  obtain ⟨b1, r, z', rfl, h1, h3⟩ := like_int h1 h3
  obtain ⟨b2, r, z', rfl, h1, h3⟩ := like_int h1 h3
  obtain ⟨b3, r, z', rfl, h1, h3⟩ := like_int h1 h3
  obtain rfl := like_nil h1 h3
  obtain ⟨u0, u1, u2, u3, rfl, q0, q1, q2, q3⟩ := agg_four hl
  obtain ⟨v0, v1, v2, v3, rfl, p0, p1, p2, p3⟩ := agg_four hr
  rw [q0.inv_int, q1.inv_int, q2.inv_int, q3.inv_int, p0.inv_int, p1.inv_int, p2.inv_int, p3.inv_int]
  simp only [eqs, Option.some.injEq] at he
  subst he
  refine eqRun guard23 ?_
  have ht : Try.prog.underlying 23 = some (.struct (Try.prog.fieldsOf 23)) := by simp only [Program.fieldsOf, Try.underlying23]
  rw [show (10000 : Nat) = 9999 + 1 from rfl, run_equalIn_struct w 9999 23 _ _ ht held23]
  simp only [Program.fieldsOf, Try.underlying23, Op.eqFields, Sem.run_bind, Sem.run_ite]
  have n1 : ¬ ("A" = "_") := by decide
  have n2 : ¬ ("PartA" = "_") := by decide
  have n3 : ¬ ("B" = "_") := by decide
  have n4 : ¬ ("PartB" = "_") := by decide
  simp only [ne_eq, n1, n2, n3, n4, not_false_iff, if_true, Sem.run_bind,
    part_at (cs := #[Value.int .i64 a0, .int .i64 a1, .int .i64 a2, .int .i64 a3]) (i := 0) (v := .int .i64 a0) Try.underlying3 rfl rfl, part_at (cs := #[Value.int .i64 a0, .int .i64 a1, .int .i64 a2, .int .i64 a3]) (i := 1) (v := .int .i64 a1) Try.underlying3 rfl rfl,
    part_at (cs := #[Value.int .i64 a0, .int .i64 a1, .int .i64 a2, .int .i64 a3]) (i := 2) (v := .int .i64 a2) Try.underlying3 rfl rfl, part_at (cs := #[Value.int .i64 a0, .int .i64 a1, .int .i64 a2, .int .i64 a3]) (i := 3) (v := .int .i64 a3) Try.underlying3 rfl rfl,
    part_at (cs := #[Value.int .i64 b0, .int .i64 b1, .int .i64 b2, .int .i64 b3]) (i := 0) (v := .int .i64 b0) Try.underlying3 rfl rfl, part_at (cs := #[Value.int .i64 b0, .int .i64 b1, .int .i64 b2, .int .i64 b3]) (i := 1) (v := .int .i64 b1) Try.underlying3 rfl rfl,
    part_at (cs := #[Value.int .i64 b0, .int .i64 b1, .int .i64 b2, .int .i64 b3]) (i := 2) (v := .int .i64 b2) Try.underlying3 rfl rfl, part_at (cs := #[Value.int .i64 b0, .int .i64 b1, .int .i64 b2, .int .i64 b3]) (i := 3) (v := .int .i64 b3) Try.underlying3 rfl rfl,
    Result.andThen_ok, show (9999 : Nat) = 9998 + 1 from rfl, run_equalIn_int w 9998 3 .i64 .i64 _ _ Try.underlying3]
  cases a0 == b0 <;> cases a1 == b1 <;> cases a2 == b2 <;> cases a3 == b3 <;> simp

theorem eqTsOk : ∀ t, t ∈ eqTs → EqOk G Try.prog t := fun t h => by
  simp only [eqTs, List.mem_cons, List.not_mem_nil, or_false] at h
  rcases h with rfl | rfl
  · exact eqOk26
  · exact eqOk23

/-! ### contracts -/
theorem EV_ok {L : Ctr} (h : AllOk L) (lp : List (Nat × LC G)) : EnvOk Try.prog (EV L lp) := EnvOk.of eqTsOk h lp

theorem encs_len : ∀ (ks : List AK) (x : dens ks), (encs ks x).length = ks.length
  | [], _ => rfl
  | _ :: ks, (_, y) => by simp [encs, encs_len ks y]

theorem fnOK_spec {fn : Func} (h : fnOK fn = true) : (fn.name == "runtime.NumGoroutine") = false ∧ fn.body = some (bodyD fn) ∧ dstOK fn.ntmps (bodyD fn) = true := by
  unfold fnOK at h
  simp only [Bool.and_eq_true, Bool.not_eq_true'] at h
  obtain ⟨⟨h1, h2⟩, h3⟩ := h
  refine ⟨h2, ?_, h3⟩
  unfold bodyD
  cases hb : fn.body with
  | none => rw [hb] at h1; cases h1
  | some c => rfl

section
variable {L : Ctr} (hL : AllOk L) {f : Nat} {fn : Func} (hf : Try.prog.funcs[f]? = some fn) (ho : fnOK fn = true)
include hL hf ho

/-- A contract that writes nothing of its caller's. -/
theorem rn_ok (lp : List (Nat × LC G)) (hlp : LpsOk (EV L lp) [] (bodyD fn)) {ks : List AK} {run : dens ks → (RV G → List (Blk G) → List (Blk G) → Ans G) → Ans G}
    (hn : Nat.ble ks.length fn.ntmps = true) (h : ∀ (x : dens ks) K o, run x K = some o → xfn (EV L lp) fn [] (encs ks x) [] K = some o) : FcOk Try.prog f (FC.rn ks run) where
  pure _ _ h := by cases h
  run vs bs K o hr := by
    simp only [FC.rn, FC.ofRun] at hr
    split at hr
    · rename_i x hx
      obtain ⟨o1, o2, o3⟩ := fnOK_spec ho
      have hn' := Nat.le_of_ble_eq_true hn
      have m1 : muIds [] (encs ks x) = [] := by simp [muIds, mutsOf_nil]
      have m2 : muIds [] vs = [] := by simp [muIds, mutsOf_nil]
      obtain ⟨r, bs', fr, h1, h2⟩ := fn_ok (EV_ok hL lp) mixed hf o1 o2 o3 hlp (by rw [encs_len]; exact hn') m1 (h x K o hr)
      refine ⟨r, bs', fr, h1, fun cx w us ids hids hl ha hal hi => ?_⟩
      have : ids = [] := by rw [hids]; exact m2
      subst this
      have hb : bs = [] := by cases bs with
        | nil => rfl
        | cons _ _ => simp at hl
      subst hb
      exact h2 cx w us [] m1.symm rfl (decs'_rel hx ha) hal hi
    · cases hr

/-- The same, with slots of slices that are told by their content. -/
theorem rn_okc (lp : List (Nat × LC G)) (cs : List Nat) (hlp : LpsOk (EVc L lp cs) [] (bodyD fn)) {ks : List AK} {run : dens ks → (RV G → List (Blk G) → List (Blk G) → Ans G) → Ans G}
    (hn : Nat.ble ks.length fn.ntmps = true) (h : ∀ (x : dens ks) K o, run x K = some o → xfn (EVc L lp cs) fn [] (encs ks x) [] K = some o) : FcOk Try.prog f (FC.rn ks run) where
  pure _ _ h := by cases h
  run vs bs K o hr := by
    simp only [FC.rn, FC.ofRun] at hr
    split at hr
    · rename_i x hx
      obtain ⟨o1, o2, o3⟩ := fnOK_spec ho
      have hn' := Nat.le_of_ble_eq_true hn
      have m1 : muIds [] (encs ks x) = [] := by simp [muIds, mutsOf_nil]
      have m2 : muIds [] vs = [] := by simp [muIds, mutsOf_nil]
      obtain ⟨r, bs', fr, h1, h2⟩ := fn_ok (EnvOk.ofc eqTsOk hL lp cs) mixed hf o1 o2 o3 hlp (by rw [encs_len]; exact hn') m1 (h x K o hr)
      refine ⟨r, bs', fr, h1, fun cx w us ids hids hl ha hal hi => ?_⟩
      have : ids = [] := by rw [hids]; exact m2
      subst this
      have hb : bs = [] := by cases bs with
        | nil => rfl
        | cons _ _ => simp at hl
      subst hb
      exact h2 cx w us [] m1.symm rfl (decs'_rel hx ha) hal hi
    · cases hr

theorem sp_ok (lp : List (Nat × LC G)) (hlp : LpsOk (EV L lp) [] (bodyD fn)) {ks : List AK} {res : dens ks → RV G}
    (hn : Nat.ble ks.length fn.ntmps = true) (h : ∀ (x : dens ks) K, xfn (EV L lp) fn [] (encs ks x) [] K = K (res x) [] []) : FcOk Try.prog f (FC.sp ks res) where
  pure vs r hr K := by
    simp only [FC.sp, FC.ofPure] at hr ⊢
    split at hr
    · rename_i x hx
      cases hr
      rfl
    · cases hr
  run vs bs K o hr := by
    have h1 : FcOk Try.prog f (FC.rn ks fun x K => K (res x) [] []) := rn_ok hL hf ho lp hlp hn fun x K o hk => by rw [h]; exact hk
    refine h1.run vs bs K o ?_
    simp only [FC.sp, FC.ofPure] at hr
    simp only [FC.rn, FC.ofRun]
    split at hr
    · rename_i r hr'
      split at hr'
      · cases hr'
        exact hr
      · cases hr'
    · cases hr

/-- A function without loops. -/
theorem sp0 (hl : loops (bodyD fn) = []) {ks : List AK} {res : dens ks → RV G} (hn : Nat.ble ks.length fn.ntmps = true) (h : ∀ (x : dens ks) K, xfn (EV L []) fn [] (encs ks x) [] K = K (res x) [] []) : FcOk Try.prog f (FC.sp ks res) :=
  sp_ok hL hf ho [] (.none hl) hn h
theorem rn0 (hl : loops (bodyD fn) = []) {ks : List AK} {run : dens ks → (RV G → List (Blk G) → List (Blk G) → Ans G) → Ans G} (hn : Nat.ble ks.length fn.ntmps = true)
    (h : ∀ (x : dens ks) K, xfn (EV L []) fn [] (encs ks x) [] K = run x K) : FcOk Try.prog f (FC.rn ks run) :=
  rn_ok hL hf ho [] (.none hl) hn fun x K o hk => by rw [h]; exact hk
end
end Go.SX

/- Plain laws of floats: how two of them stand to each other, by their bits. No statement of the seat is proved here. -/
namespace Go.SX
open Ieee

/-- How great a rung is, in units of the least number. -/
def mg (r : Nat) : Nat := if r < 4503599627370496 then r else (4503599627370496 + r % 4503599627370496) * 2 ^ (r / 4503599627370496 - 1)

theorem mg_lo {r : Nat} (h : r < 4503599627370496) : mg r = r := by simp [mg, h]
theorem mg_hi {r : Nat} (h : 4503599627370496 ≤ r) : mg r = (4503599627370496 + r % 4503599627370496) * 2 ^ (r / 4503599627370496 - 1) := by simp [mg, Nat.not_lt.2 h]

theorem mg_succ (r : Nat) : mg r < mg (r + 1) := by
  by_cases h : r + 1 < 4503599627370496
  · rw [mg_lo h, mg_lo (by omega)]; omega
  · by_cases h' : r < 4503599627370496
    · have : r = 4503599627370495 := by omega
      subst this
      decide
    · rw [mg_hi (by omega), mg_hi (by omega)]
      by_cases hc : (r + 1) % 4503599627370496 = 0
      · have e1 : r % 4503599627370496 = 4503599627370495 := by omega
        have e2 : (r + 1) / 4503599627370496 - 1 = (r / 4503599627370496 - 1) + 1 := by omega
        rw [hc, e1, e2, Nat.pow_succ]
        have : 0 < 2 ^ (r / 4503599627370496 - 1) := Nat.two_pow_pos _
        generalize 2 ^ (r / 4503599627370496 - 1) = p at *
        omega
      · have e1 : (r + 1) % 4503599627370496 = r % 4503599627370496 + 1 := by omega
        have e2 : (r + 1) / 4503599627370496 = r / 4503599627370496 := by omega
        rw [e1, e2]
        exact Nat.mul_lt_mul_of_pos_right (by omega) (Nat.two_pow_pos _)

theorem mg_lt {r s : Nat} (h : r < s) : mg r < mg s := by
  obtain ⟨d, rfl⟩ : ∃ d, s = r + 1 + d := ⟨s - r - 1, by omega⟩
  clear h
  induction d with
  | zero => exact mg_succ r
  | succ d ih => exact Nat.lt_trans ih (mg_succ _)
theorem mg_inj {r s : Nat} (h : mg r = mg s) : r = s := by
  rcases Nat.lt_trichotomy r s with g | g | g
  · have := mg_lt g; omega
  · exact g
  · have := mg_lt g; omega

def neg? (x : Nat) : Bool := x / 9223372036854775808 % 2 == 1
def rung (x : Nat) : Nat := x % 9223372036854775808
def sg (b : Bool) (n : Nat) : Int := if b then -(n : Int) else n
def val (x : Nat) : Int := sg (neg? x) (mg (rung x))

theorem read_eq (x : Nat) : FloatKind.f64.format.read x =
    if rung x < 4503599627370496 then .number (neg? x) (rung x) (-1074)
    else if rung x < 9218868437227405312 then .number (neg? x) (4503599627370496 + rung x % 4503599627370496) (-1074 + (rung x / 4503599627370496 - 1 : Nat))
    else if rung x = 9218868437227405312 then .infinity (neg? x) else .nan (neg? x) (rung x - 9218868437227405312) := by
  have h1 : FloatKind.f64.format.signWeight = 9223372036854775808 := by decide
  have h2 : FloatKind.f64.format.binade = 4503599627370496 := by decide
  have h3 : FloatKind.f64.format.infRung = 9218868437227405312 := by decide
  have h4 : FloatKind.f64.format.leastPlace = -1074 := by decide
  unfold Format.read
  simp only [h1, h2, h3, h4]
  rfl

theorem isNan_rung (x : Nat) : isNan x = decide (9218868437227405312 < rung x) := isNan_eq x

theorem signed_sg (b : Bool) (m k : Nat) : signed b m k = sg b (m * 2 ^ k) := by
  unfold signed sg
  rw [Nat.shiftLeft_eq]

theorem sg_mul (b : Bool) (m p : Nat) : sg b (m * p) = sg b m * (p : Int) := by
  unfold sg
  split <;> simp [Int.neg_mul]

theorem compare_mul (a b : Int) (p : Nat) (hp : 0 < p) : compare (a * (p : Int)) (b * (p : Int)) = compare a b := by
  have hp : (0 : Int) < (p : Int) := by exact_mod_cast hp
  show compareOfLessAndEq _ _ = compareOfLessAndEq _ _
  unfold compareOfLessAndEq
  have h1 : a * (p : Int) < b * (p : Int) ↔ a < b := ⟨fun h => Int.lt_of_mul_lt_mul_right h (Int.le_of_lt hp), fun h => Int.mul_lt_mul_of_pos_right h hp⟩
  have h2 : a * (p : Int) = b * (p : Int) ↔ a = b := ⟨fun h => Int.eq_of_mul_eq_mul_right (Int.ne_of_gt hp) h, fun h => by rw [h]⟩
  simp only [h1, h2]

/-- A finite rung's number. -/
theorem read_fin {x : Nat} (h : rung x < 9218868437227405312) : ∃ m k : Nat, FloatKind.f64.format.read x = .number (neg? x) m (-1074 + (k : Int)) ∧ mg (rung x) = m * 2 ^ k := by
  rw [read_eq]
  by_cases h1 : rung x < 4503599627370496
  · rw [if_pos h1]
    exact ⟨rung x, 0, by simp, by rw [mg_lo h1]; simp⟩
  · rw [if_neg h1, if_pos h]
    exact ⟨_, _, rfl, by rw [mg_hi (by omega)]⟩

theorem val_inf {x : Nat} (h : rung x < 9218868437227405312) : sg (neg? x) (mg (rung x)) < (mg 9218868437227405312 : Int) ∧ -(mg 9218868437227405312 : Int) < sg (neg? x) (mg (rung x)) := by
  have := mg_lt h
  unfold sg
  split <;> omega

theorem order_val {x y : Nat} (hx : isNan x = false) (hy : isNan y = false) : FloatKind.f64.format.order x y = some (compare (val x) (val y)) := by
  rw [isNan_rung, decide_eq_false_iff_not] at hx hy
  unfold Format.order val
  by_cases h1 : rung x < 9218868437227405312
  · obtain ⟨m, k, e1, e2⟩ := read_fin h1
    by_cases h2 : rung y < 9218868437227405312
    · obtain ⟨n, l, f1, f2⟩ := read_fin h2
      rw [e1, f1, e2, f2]
      simp only [Datum.order, Option.some.injEq]
      rw [signed_sg, signed_sg]
      rcases Nat.le_total k l with h | h
      · have g1 : (-1074 + (k : Int) - min (-1074 + (k : Int)) (-1074 + (l : Int))).toNat = 0 := by omega
        have g2 : (-1074 + (l : Int) - min (-1074 + (k : Int)) (-1074 + (l : Int))).toNat = l - k := by omega
        rw [g1, g2, ← compare_mul _ _ (2 ^ k) (Nat.two_pow_pos _), ← sg_mul, ← sg_mul, Nat.pow_zero, Nat.mul_one, Nat.mul_assoc, ← Nat.pow_add, Nat.sub_add_cancel h]
      · have g1 : (-1074 + (k : Int) - min (-1074 + (k : Int)) (-1074 + (l : Int))).toNat = k - l := by omega
        have g2 : (-1074 + (l : Int) - min (-1074 + (k : Int)) (-1074 + (l : Int))).toNat = 0 := by omega
        rw [g1, g2, ← compare_mul _ _ (2 ^ l) (Nat.two_pow_pos _), ← sg_mul, ← sg_mul, Nat.pow_zero, Nat.mul_one, Nat.mul_assoc, ← Nat.pow_add, Nat.sub_add_cancel h]
    · have h2' : rung y = 9218868437227405312 := by omega
      have f1 : FloatKind.f64.format.read y = .infinity (neg? y) := by rw [read_eq, if_neg (by omega), if_neg h2, if_pos h2']
      rw [e1, f1]
      have := val_inf h1
      rw [h2']
      simp only [Datum.order, Option.some.injEq]
      generalize sg (neg? x) (mg (rung x)) = v at *
      cases neg? y
      · simp only [Bool.false_eq_true, if_false, sg]
        symm
        exact compareOfLessAndEq_eq_lt.2 this.1
      · simp only [if_true, sg]
        symm
        show compareOfLessAndEq _ _ = _
        unfold compareOfLessAndEq
        rw [if_neg (by omega), if_neg (by omega)]
  · have h1' : rung x = 9218868437227405312 := by omega
    have e1 : FloatKind.f64.format.read x = .infinity (neg? x) := by rw [read_eq, if_neg (by omega), if_neg h1, if_pos h1']
    by_cases h2 : rung y < 9218868437227405312
    · obtain ⟨n, l, f1, f2⟩ := read_fin h2
      rw [e1, f1]
      have := val_inf h2
      rw [h1']
      simp only [Datum.order, Option.some.injEq]
      generalize sg (neg? y) (mg (rung y)) = v at *
      cases neg? x
      · simp only [Bool.false_eq_true, if_false, sg]
        symm
        show compareOfLessAndEq _ _ = _
        unfold compareOfLessAndEq
        rw [if_neg (by omega), if_neg (by omega)]
      · simp only [if_true, sg]
        symm
        show compareOfLessAndEq _ _ = _
        unfold compareOfLessAndEq
        rw [if_pos (by omega)]
    · have h2' : rung y = 9218868437227405312 := by omega
      have f1 : FloatKind.f64.format.read y = .infinity (neg? y) := by rw [read_eq, if_neg (by omega), if_neg h2, if_pos h2']
      rw [e1, f1, h1', h2']
      have : 0 < mg 9218868437227405312 := by have := mg_lt (show 0 < 9218868437227405312 by decide); omega
      simp only [Datum.order, Option.some.injEq]
      generalize mg 9218868437227405312 = v at *
      symm
      show compareOfLessAndEq _ _ = _
      unfold compareOfLessAndEq
      cases neg? x <;> cases neg? y <;> simp only [sg, if_true, if_false, Bool.false_eq_true]
      · rw [if_neg (by omega)]; rfl
      · rw [if_neg (by omega), if_neg (by omega)]; rfl
      · rw [if_pos (by omega)]; rfl
      · rw [if_neg (by omega)]; rfl

theorem order_nan {x y : Nat} (h : isNan x = true ∨ isNan y = true) : FloatKind.f64.format.order x y = none := by
  unfold Format.order
  rcases h with h | h
  · exact order_nan_l _ h
  · exact order_nan_r _ h

theorem cmp_lt (a b : Int) : ((some (compare a b) : Option Ordering) == some .lt) = decide (a < b) := by
  show ((some (compareOfLessAndEq a b) : Option Ordering) == some .lt) = _
  unfold compareOfLessAndEq
  by_cases h : a < b
  · simp [h]
  · by_cases g : a = b
    · simp [g]
    · simp [h, g]
theorem cmp_eq (a b : Int) : ((some (compare a b) : Option Ordering) == some .eq) = decide (a = b) := by
  show ((some (compareOfLessAndEq a b) : Option Ordering) == some .eq) = _
  unfold compareOfLessAndEq
  by_cases h : a < b
  · have : a ≠ b := by omega
    simp [h, this]
  · by_cases g : a = b
    · simp [g]
    · simp [h, g]

theorem flt_val {x y : Nat} (hx : isNan x = false) (hy : isNan y = false) : flt x y = decide (val x < val y) := by unfold flt; rw [order_val hx hy, cmp_lt]
theorem feq_val {x y : Nat} (hx : isNan x = false) (hy : isNan y = false) : feq x y = decide (val x = val y) := by unfold feq; rw [order_val hx hy, cmp_eq]
theorem fle_val {x y : Nat} (hx : isNan x = false) (hy : isNan y = false) : fle x y = decide (val x ≤ val y) := by
  unfold fle; rw [order_val hx hy, cmp_lt, cmp_eq]
  by_cases h : val x < val y
  · have : val x ≤ val y := by omega
    simp [h, this]
  · by_cases g : val x = val y
    · simp [g]
    · have : ¬ val x ≤ val y := by omega
      simp [h, g, this]
theorem flt_nan {x y : Nat} (h : isNan x = true ∨ isNan y = true) : flt x y = false := by unfold flt; rw [order_nan h]; rfl
theorem feq_nan {x y : Nat} (h : isNan x = true ∨ isNan y = true) : feq x y = false := by unfold feq; rw [order_nan h]; rfl
theorem fle_nan {x y : Nat} (h : isNan x = true ∨ isNan y = true) : fle x y = false := by unfold fle; rw [order_nan h]; rfl
theorem feq_self (x : Nat) : feq x x = !isNan x := by
  cases h : isNan x with
  | true => rw [feq_nan (.inl h)]; rfl
  | false => rw [feq_val h h]; simp
end Go.SX
namespace Go.SX
/-! ### places -/
def place (x : Nat) : Int := if x / 9223372036854775808 = 1 then -((x % 9223372036854775808 : Nat) : Int) - 1 else ((x % 9223372036854775808 : Nat) : Int)
def worth (x : Nat) : Int := if place x = -1 then 0 else place x

theorem val_pos {x : Nat} (h : x < 9223372036854775808) : val x = mg x ∧ place x = x := by
  have e1 : neg? x = false := by unfold neg?; rw [Nat.div_eq_of_lt h]; rfl
  have e2 : rung x = x := Nat.mod_eq_of_lt h
  refine ⟨by unfold val; rw [e1, e2]; rfl, ?_⟩
  unfold place
  rw [Nat.div_eq_of_lt h, if_neg (by decide), Nat.mod_eq_of_lt h]
theorem val_neg {r : Nat} (h : r < 9223372036854775808) : val (9223372036854775808 + r) = -(mg r : Int) ∧ place (9223372036854775808 + r) = -(r : Int) - 1 := by
  have e0 : (9223372036854775808 + r) / 9223372036854775808 = 1 := by omega
  have e2 : (9223372036854775808 + r) % 9223372036854775808 = r := by omega
  have e1 : neg? (9223372036854775808 + r) = true := by unfold neg?; rw [e0]; rfl
  refine ⟨by unfold val rung; rw [e1, e2]; rfl, ?_⟩
  unfold place
  rw [e0, if_pos rfl, e2]

theorem two_kinds {x : Nat} (h : x < 18446744073709551616) : x < 9223372036854775808 ∨ ∃ r, r < 9223372036854775808 ∧ x = 9223372036854775808 + r := by
  by_cases g : x < 9223372036854775808
  · exact .inl g
  · exact .inr ⟨x - 9223372036854775808, by omega, by omega⟩

theorem mg_zero {r : Nat} : mg r = 0 ↔ r = 0 := ⟨fun h => mg_inj (h.trans (by decide)), fun h => by rw [h]; decide⟩
theorem mg_lt_iff {r s : Nat} : mg r < mg s ↔ r < s := ⟨fun h => by
  rcases Nat.lt_or_ge r s with g | g
  · exact g
  · rcases Nat.lt_or_ge s r with g' | g'
    · have := mg_lt g'; omega
    · have : r = s := by omega
      subst this; omega, mg_lt⟩

theorem worth_lt {x y : Nat} (hx : x < 18446744073709551616) (hy : y < 18446744073709551616) : worth x < worth y ↔ val x < val y := by
  unfold worth
  rcases two_kinds hx with h | ⟨r, h, rfl⟩
  · obtain ⟨v1, p1⟩ := val_pos h
    rcases two_kinds hy with g | ⟨s, g, rfl⟩
    · obtain ⟨v2, p2⟩ := val_pos g
      rw [v1, v2, p1, p2, if_neg (by omega), if_neg (by omega)]
      have := mg_lt_iff (r := x) (s := y)
      omega
    · obtain ⟨v2, p2⟩ := val_neg g
      rw [v1, v2, p1, p2, if_neg (by omega)]
      split <;> omega
  · obtain ⟨v1, p1⟩ := val_neg h
    rcases two_kinds hy with g | ⟨s, g, rfl⟩
    · obtain ⟨v2, p2⟩ := val_pos g
      rw [v1, v2, p1, p2, if_neg (show ¬ (y : Int) = -1 by omega)]
      have a1 := mg_zero (r := r)
      have a2 := mg_zero (r := y)
      split
      · have : r = 0 := by omega
        subst this
        have : mg 0 = 0 := by decide
        omega
      · have : 0 < mg r := by omega
        omega
    · obtain ⟨v2, p2⟩ := val_neg g
      rw [v1, v2, p1, p2]
      have a1 := mg_zero (r := r)
      have a2 := mg_zero (r := s)
      have a3 := mg_lt_iff (r := s) (s := r)
      split <;> split <;> omega

/-- The refs' 'above'. -/
theorem above_eq {a b : Nat} (ha : a < 18446744073709551616) (hb : b < 18446744073709551616) : ((!isNan a && !isNan b) && decide (worth a > worth b)) = flt b a := by
  cases h : isNan a with
  | true => rw [flt_nan (.inr h)]; rfl
  | false => cases g : isNan b with
    | true => rw [flt_nan (.inl g)]; rfl
    | false =>
      rw [flt_val g h]
      simp only [Bool.not_false, Bool.and_self, Bool.true_and, gt_iff_lt, worth_lt hb ha]
end Go.SX

/- What the functions of the program and of the references come to, as plain functions of numbers. No statement of the seat is proved here. -/
namespace Go.SX

/-! ### floats -/
def fabs (x : Nat) : Nat := x % 9223372036854775808
def ffin (x : Nat) : Bool := feq (fsub x x) 0
def fwithin (a m : Nat) : Bool := fle (fneg m) a && fle a m
def fawithin (a m : Nat) : Bool := fle (fabs a) m
/-- A float's bits, of all NaNs the same. -/
def fbits (x : Nat) : Int := cond (isNan x) 9221120237041090561 (x : Int)
def fis (x y : Nat) : Bool := fbits x == fbits y
def fminus (x : Nat) : Bool := flt (fdiv 4607182418800017408 x) 0
def fmost (a b : Nat) : Nat := cond ((isNan a || flt a b) || ((feq a 0 && feq b 0) && fminus a)) b a
def fmost1 (a b : Nat) : Nat := cond (isNan a) b (cond (isNan b || decide (place a ≥ place b)) a b)
def fclamp (a low high : Nat) : Nat := cond (!flt low a) low (cond (flt high a) high a)
/-- The refs' way to hold two floats against each other. -/
def fsame (a b : Nat) : Bool := cond (isNan a || isNan b) (isNan a && isNan b) ((a : Int) == (b : Int))

/-! ### vectors -/
def vdot (a b : GVec) : Nat := fadd (fmul a.X b.X) (fmul a.Y b.Y)
def vsq (a : GVec) : Nat := vdot a a
def vcross (a b : GVec) : Nat := fsub (fmul a.X b.Y) (fmul a.Y b.X)
def vadd (a b : GVec) : GVec := ⟨fadd a.X b.X, fadd a.Y b.Y⟩
def vsub (a b : GVec) : GVec := ⟨fsub a.X b.X, fsub a.Y b.Y⟩
def vscale (a : GVec) (s : Nat) : GVec := ⟨fmul a.X s, fmul a.Y s⟩
def vmore (a : GVec) (s : Nat) (b : GVec) : GVec := ⟨fadd a.X (fmul s b.X), fadd a.Y (fmul s b.Y)⟩
def vfin (a : GVec) : Bool := ffin a.X && ffin a.Y
def vwithin (a : GVec) (m : Nat) : Bool := fwithin a.X m && fwithin a.Y m
def vawithin (a : GVec) (m : Nat) : Bool := fawithin a.X m && fawithin a.Y m
def vsame (a b : GVec) : Bool := fis a.X b.X && fis a.Y b.Y
def vlen (a : GVec) : Nat := (FloatKind.f64.format.sqrt (vsq a)).getD qnan
end Go.SX
namespace Go.SX
/-! ### rows -/
def rfits (r : GRow) : Bool := ((((((((decide (r.A ≥ 0) && decide (r.B ≥ 0)) && (r.A != r.B)) && vfin r.WayA) && vfin r.WayB) && [r.TurnA, r.TurnB, r.Bias, r.Push, r.Ratio].all ffin) && fle 0 r.Ratio) && fle r.Low r.High) && decide (r.Of ≥ -1))
def srests (s : GStill) : Bool := (([s.Mass, s.Inertia].all ffin && fle 0 s.Mass) && fle 0 s.Inertia)
def rok (r : GRow) (a b : GStill) : Bool := (rfits r && srests a) && srests b
def rspeed (r : GRow) (a b : GStill) : Nat := fadd (fadd (fadd (vdot r.WayA a.Speed) (fmul r.TurnA a.Spin)) (vdot r.WayB b.Speed)) (fmul r.TurnB b.Spin)
def rweight (r : GRow) (a b : GStill) : Nat := fadd (fadd (fadd (fmul a.Mass (vsq r.WayA)) (fmul a.Inertia (fmul r.TurnA r.TurnA))) (fmul b.Mass (vsq r.WayB))) (fmul b.Inertia (fmul r.TurnB r.TurnB))
def spush (s : GStill) (way : GVec) (turn p : Nat) : GStill := ⟨s.Mass, s.Inertia, bif !feq s.Mass 0 then vmore s.Speed (fmul s.Mass p) way else s.Speed, bif !feq s.Inertia 0 then fadd s.Spin (fmul s.Inertia (fmul p turn)) else s.Spin⟩
end Go.SX
namespace Go.SX
def row0 : GRow := ⟨0, 0, ⟨0, 0⟩, ⟨0, 0⟩, 0, 0, 0, 0, 0, 0, 0, 0⟩
def still0 : GStill := ⟨0, 0, ⟨0, 0⟩, 0⟩
/-- The error of a row and two stills. -/
def rerr (r : GRow) (a b : GStill) : Int := bif rok r a b then 0 else 200
def rlack (r : GRow) (a b : GStill) : Nat := fsub r.Bias (rspeed r a b)
def rq (r : GRow) (a b : GStill) : Nat := fclamp (fadd r.Push (fdiv (rlack r a b) (rweight r a b))) r.Low r.High
/-- Does a row's turn change anything? -/
def rgo (r : GRow) (a b : GStill) : Bool := (flt 0 (rweight r a b) && (ffin (rweight r a b) && ffin (rlack r a b))) && (ffin (rq r a b) && ffin (fsub (rq r a b) r.Push))
def rone (r : GRow) (a b : GStill) : GRow := bif rok r a b then (bif rgo r a b then { r with Push := rq r a b } else r) else row0
def roneA (r : GRow) (a b : GStill) : GStill := bif rok r a b then (bif rgo r a b then spush a r.WayA r.TurnA (fsub (rq r a b) r.Push) else a) else still0
def roneB (r : GRow) (a b : GStill) : GStill := bif rok r a b then (bif rgo r a b then spush b r.WayB r.TurnB (fsub (rq r a b) r.Push) else b) else still0
def rwarmA (r : GRow) (a b : GStill) : GStill := bif rok r a b then spush a r.WayA r.TurnA r.Push else still0
def rwarmB (r : GRow) (a b : GStill) : GStill := bif rok r a b then spush b r.WayB r.TurnB r.Push else still0
def rcheck (r : GRow) (rows bodies : Int) : Int := bif (rfits r && !(decide (r.A ≥ bodies) || decide (r.B ≥ bodies))) && !decide (r.Of ≥ rows) then 0 else 200
def rspeed1 (r : GRow) (a b : GStill) : Nat := bif rok r a b then rspeed r a b else 0
def rweight1 (r : GRow) (a b : GStill) : Nat := bif rok r a b then rweight r a b else 0
end Go.SX
namespace Go.SX
/-! ### lists held against each other -/
def lsame {α : Type} (same : α → α → Bool) (xs ys : List α) : Bool := (xs.length == ys.length) && (List.zipWith same xs ys).all id
def rsame (a b : GRow) : Bool := (((((((vsame a.WayA b.WayA && vsame a.WayB b.WayB) && (fis a.TurnA b.TurnA && fis a.TurnB b.TurnB)) && ((fis a.Bias b.Bias && fis a.Low b.Low) && fis a.High b.High)) && fis a.Push b.Push) && fis a.Ratio b.Ratio) && (a.A == b.A)) && (a.B == b.B)) && (a.Of == b.Of)
def psame (p q : GPoint) : Bool := (((vsame p.At q.At && (p.ID == q.ID)) && fis p.Depth q.Depth) && fis p.Push q.Push) && fis p.Drag q.Drag
def pairEq (p q : GPair) : Bool := (p.A == q.A) && ((p.PartA == q.PartA) && ((p.B == q.B) && ((p.PartB == q.PartB) && true)))
def tsame (a b : GTouch) : Bool := ((vsame a.Normal b.Normal && lsame psame a.Points b.Points) && pairEq a.Pair b.Pair) && (a.Sensor == b.Sensor)
/-! ### touches -/
def partOk (n : Int) : Bool := decide (n ≥ 0) && decide (n < 8)
def pairOk (p : GPair) : Bool := ((((decide (p.A ≥ 0) && decide (p.B ≥ 0)) && (p.A != p.B))) && partOk p.PartA) && partOk p.PartB
def vunit (a : GVec) : Bool := fle 4607182418800009216 (vsq a) && fle (vsq a) 4607182418800021504
def point0 : GPoint := ⟨⟨0, 0⟩, 0, 0, 0, 0⟩
def touch0 : GTouch := ⟨⟨0, 0, 0, 0⟩, false, ⟨0, 0⟩, []⟩
/-- May a touch be, but for its points? -/
def headOk (t : GTouch) : Bool := (((pairOk t.Pair && vunit t.Normal) && vwithin t.Normal 4611686018427387904) && decide (0 < t.Points.length)) && decide (t.Points.length ≤ 8)
/-- May a point be, by itself? -/
def pointOk (p : GPoint) : Bool := (((vwithin p.At 4796333603149578240 && fwithin p.Depth 4796333603149578240) && !flt p.Depth 0) && fwithin p.Push 4787326403894837248) && fwithin p.Drag 4787326403894837248
/-- Is a point's number one of an earlier one's? -/
def twiceAt (l : List GPoint) (i : Nat) : Bool := (l.take i).any fun q => q.ID == (l.getD i point0).ID
def badAt (l : List GPoint) (i : Nat) : Bool := !pointOk (l.getD i point0) || twiceAt l i
def tcheck (t : GTouch) : Int := bif headOk t && !(List.range t.Points.length).any (badAt t.Points) then 0 else 2
def freal (a : Nat) : Nat := bif fwithin a 4787326403894837248 then a else 0
end Go.SX

/- Contracts: floats and vectors, of the program and of the references. No statement of the seat is proved here. -/
namespace Go.SX
open Go.Proofs
set_option maxRecDepth 20000

/-! ### floats stay in their range -/
def AK.wf : (k : AK) → k.den → Prop
  | .s .f64, x => (show Nat from x) < 18446744073709551616
  | .l c, x => (show List (TD c) from x).length < 9223372036854775808
  | .s .touch, x => (show GTouch from x).Points.length < 9223372036854775808
  | .s .shape, x => (show GShape from x).Points.length < 9223372036854775808
  | _, _ => True
def wfs : (ks : List AK) → dens ks → Prop
  | [], _ => True
  | k :: r, (x, y) => k.wf x ∧ wfs r y

theorem rslice_lt {φ : Phi} {St : Stb} {v : Value} {c : TC} {xs : List (TD c)} (h : RVal φ St v (.rslice c xs : RV G)) : xs.length < 9223372036854775808 := by
  cases h with
  | rslice hn _ hc => omega
  | rslice0 => simp

theorem AK.wf_rel {k : AK} {x : k.den} {φ : Phi} {St : Stb} {v : Value} (h : RVal φ St v (k.enc x)) : k.wf x := by
  unfold AK.wf
  split
  · exact RVal.flt_lt (S := G) h
  · exact rslice_lt h
  · cases h with
    | agg hn g => exact rslice_lt (c := .point) (g 7 _ _ (Array.getElem?_eq_getElem (by rw [hn]; exact Nat.lt_of_sub_eq_succ rfl)) rfl)
  · cases h with
    | agg hn g => exact rslice_lt (c := .vec) (g 2 _ _ (Array.getElem?_eq_getElem (by rw [hn]; exact Nat.lt_of_sub_eq_succ rfl)) rfl)
  · trivial

theorem wfs_rel : ∀ {ks : List AK} {x : dens ks} {φ : Phi} {St : Stb} {vs : List Value}, vs.length = ks.length → (∀ (j : Nat) (u : Value) (r : RV G), vs[j]? = some u → (encs ks x)[j]? = some r → RVal φ St u r) → wfs ks x
  | [], _, _, _, _, _, _ => trivial
  | k :: r, (x, y), _, _, [], hl, _ => by simp at hl
  | k :: r, (x, y), _, _, v :: vs, hl, h => ⟨AK.wf_rel (h 0 v _ rfl rfl), wfs_rel (vs := vs) (by simpa using hl) fun j u q hu hq => h (j + 1) u q (by simpa using hu) (by simpa [encs] using hq)⟩

open Classical in
/-- A contract of what always answers, where floats are in their range. -/
theorem sp_wf {L : Ctr} (hL : AllOk L) {f : Nat} {fn : Func} (hf : Try.prog.funcs[f]? = some fn) (ho : fnOK fn = true) (lp : List (Nat × LC G)) (hlp : LpsOk (EV L lp) [] (bodyD fn)) {ks : List AK} {res : dens ks → RV G}
    (hn : Nat.ble ks.length fn.ntmps = true) (h : ∀ (x : dens ks), wfs ks x → ∀ K, xfn (EV L lp) fn [] (encs ks x) [] K = K (res x) [] []) : FcOk Try.prog f (FC.sp ks res) where
  pure vs r hr K := by
    simp only [FC.sp, FC.ofPure] at hr ⊢
    split at hr
    · rename_i x hx
      cases hr
      rfl
    · cases hr
  run vs bs K o hr := by
    simp only [FC.sp, FC.ofPure] at hr
    split at hr
    · rename_i r hr'
      split at hr'
      · rename_i x hx
        cases hr'
        by_cases hw : wfs ks x
        · have h1 : FcOk Try.prog f (FC.rn ks fun x K => bif decide (wfs ks x) then K (res x) [] [] else none) := rn_ok hL hf ho lp hlp hn fun x K o hk => by
            by_cases hx : wfs ks x
            · rw [h x hx]; simpa [hx] using hk
            · simp [hx] at hk
          refine h1.run vs bs K o ?_
          simp only [FC.rn, FC.ofRun, hx]
          simpa [hw] using hr
        · refine ⟨_, _, _, hr, fun cx w us ids hids hl ha hal hi => absurd ?_ hw⟩
          obtain ⟨g1, g2⟩ := decs'_rel hx ha
          exact wfs_rel (vs := us.toList) (by rw [Array.length_toList, g1, encs_len]) fun j u r hu hr => g2 j u r (by simpa using hu) hr
      · cases hr'
    · cases hr

theorem sp0w {L : Ctr} (hL : AllOk L) {f : Nat} {fn : Func} (hf : Try.prog.funcs[f]? = some fn) (ho : fnOK fn = true) (hl : loops (bodyD fn) = []) {ks : List AK} {res : dens ks → RV G} (hn : Nat.ble ks.length fn.ntmps = true)
    (h : ∀ (x : dens ks), wfs ks x → ∀ K, xfn (EV L []) fn [] (encs ks x) [] K = K (res x) [] []) : FcOk Try.prog f (FC.sp ks res) := sp_wf hL hf ho [] (.none hl) hn h

/-! ### functions without a body -/
theorem ok135 : FcOk Try.prog 135 (fcBits : FC G) := bits_ok Try.func135 (by kernel_rfl) (by kernel_rfl) (by kernel_rfl) (by kernel_rfl)
theorem ok105 : FcOk Try.prog 105 (fcFrom : FC G) := from_ok Try.func105 (by kernel_rfl) (by kernel_rfl) (by kernel_rfl) (by kernel_rfl)
theorem ok188 : FcOk Try.prog 188 (fcSqrt : FC G) := sqrt_ok Try.func188 (by kernel_rfl) (by kernel_rfl) (by kernel_rfl) (by kernel_rfl)

/-! ### math.Abs, None: any bits of a NaN -/
theorem bits_run (y : Nat) (w : World) : (callFunc 135 #[.float .f64 y]).run Try.prog w = .ok (.value (.int .u64 y)) w := by
  rw [run_callFunc_extern Try.func135 (by kernel_rfl) (by kernel_rfl) (e := Extern.MathFloatBits.float64bits) (by kernel_rfl) (by kernel_rfl)]
  rfl
theorem from_run (n : Int) (w : World) : (callFunc 105 #[.int .u64 n]).run Try.prog w = .ok (.value (.float .f64 n.toNat)) w := by
  rw [run_callFunc_extern Try.func105 (by kernel_rfl) (by kernel_rfl) (e := Extern.MathFloatBits.float64frombits) (by kernel_rfl) (by kernel_rfl)]
  rfl
section
attribute [local go_sem] bits_run from_run
theorem abs_walk (y : Nat) (w : World) : Calls Try.prog 66 #[.float .f64 y] w fun e w' => e = .returned (.float .f64 (bits .andNot .u64 (y : Int) 9223372036854775808).toNat) ∧ w' = w := by
  go_enter Try.func66, Try.ntmps66
  go_wp2
  go_ret
  exact ⟨rfl, rfl⟩
end

theorem andNot_top (y : Nat) : (bits .andNot .u64 (y : Int) 9223372036854775808).toNat = y % 9223372036854775808 := by
  have h : (BitVec.ofInt 64 (y : Int) &&& ~~~(BitVec.ofInt 64 9223372036854775808)).toNat = y % 9223372036854775808 := by
    have e1 : (BitVec.ofInt 64 (y : Int)) = BitVec.ofNat 64 y := by simp
    have e2 : ~~~(BitVec.ofInt 64 9223372036854775808) = BitVec.ofNat 64 (2 ^ 63 - 1) := by decide
    rw [e1, e2, BitVec.toNat_and, BitVec.toNat_ofNat, BitVec.toNat_ofNat]
    have e3 : (2 ^ 63 - 1) % 2 ^ 64 = 2 ^ 63 - 1 := by decide
    rw [e3, Nat.and_two_pow_sub_one_eq_mod]
    omega
  show (IntKind.u64.wrap ((BitVec.ofInt 64 (y : Int) &&& ~~~(BitVec.ofInt 64 9223372036854775808)).toNat : Int)).toNat = _
  rw [h]
  have : y % 9223372036854775808 < 9223372036854775808 := Nat.mod_lt _ (by decide)
  generalize y % 9223372036854775808 = z at *
  simp only [IntKind.wrap_u64]
  omega

theorem calls_to {f : Nat} {fn : Func} {vs : Array Value} {w : World} {R : Value → World → Prop} (hf : Try.prog.funcs[f]? = some fn) (ho : fnOK fn = true) (h : Calls Try.prog f vs w fun e w' => ∃ v, e = .returned v ∧ R v w') : CallsTo Try.prog f vs w R := by
  obtain ⟨o1, o2, o3⟩ := fnOK_spec ho
  have hcall : (callFunc f vs).run Try.prog w = .ok (.enter f vs) w := by
    have hn : ¬ (fn.name = "runtime.NumGoroutine") := by simpa using o1
    simp [callFunc, program, Sem.run, hf, hn, o2]
  unfold CallsTo
  rw [hcall]
  exact h.mono fun e w' ⟨v, hv, hr⟩ => by subst hv; exact hr

theorem one_ok {f : Nat} (g : Nat → RV G) (h : ∀ (y x : Nat) (w : World), FEq y x → x < 18446744073709551616 → CallsTo Try.prog f #[.float .f64 y] w fun v w' => w' = w ∧ ∀ φ St, RVal φ St v (g x)) :
    FcOk Try.prog f (FC.sp [.s .f64] fun (x, _) => g x) where
  pure vs r hr K := by
    simp only [FC.sp, FC.ofPure] at hr ⊢
    split at hr
    · cases hr; rfl
    · cases hr
  run vs bs K o hr := by
    simp only [FC.sp, FC.ofPure] at hr
    split at hr
    · rename_i r hr'
      split at hr'
      · rename_i x hx
        cases hr'
        refine ⟨_, _, _, hr, fun cx w us ids hids hl ha hal hi => ?_⟩
        have : ids = [] := by rw [hids]; simp [muIds, FC.sp, FC.ofPure, mutsOf_nil]
        subst this
        obtain ⟨u, rfl, hu⟩ := (decs'_rel hx ha).one
        obtain ⟨x, ⟨⟩⟩ := x
        have hlt : x < 18446744073709551616 := RVal.flt_lt (S := G) hu
        obtain ⟨y, rfl, hy⟩ := RVal.inv_flt (S := G) hu
        exact (h y x w hy hlt).mono fun v w' ⟨hw, hv⟩ => by subst hw; exact plain_post hi.stable (hv _ _) (Fr.refl _ _)
      · cases hr'
    · cases hr

def c66 : FC G := FC.sp [.s .f64] fun (x, _) => .flt (fabs x)
theorem ok66 : FcOk Try.prog 66 c66 := one_ok (fun x => .flt (fabs x)) fun y x w hy hlt => calls_to Try.func66 (by kernel_rfl) ((abs_walk y w).mono fun e w' ⟨he, hw⟩ => ⟨_, he, hw, fun φ St => by
  rw [andNot_top]
  refine .flt ?_ (by unfold fabs; omega)
  rcases hy with rfl | ⟨h1, h2⟩
  · exact FEq.refl _
  · refine .inr ⟨?_, ?_⟩
    · rw [isNan_eq] at h1 ⊢; simpa using h1
    · rw [isNan_eq] at h2 ⊢; unfold fabs; simpa using h2⟩)

theorem and_2047 (y : Int) (h : 0 ≤ y) : bits .and .u64 y 2047 = y % 2048 := by
  obtain ⟨n, rfl⟩ := Int.eq_ofNat_of_zero_le h
  have e : (BitVec.ofInt 64 (n : Int) &&& BitVec.ofInt 64 2047).toNat = n % 2048 := by
    have e1 : (BitVec.ofInt 64 (n : Int)) = BitVec.ofNat 64 n := by simp
    have e2 : BitVec.ofInt 64 2047 = BitVec.ofNat 64 (2 ^ 11 - 1) := by decide
    have e3 : (2 ^ 11 - 1) % 2 ^ 64 = 2 ^ 11 - 1 := by decide
    rw [e1, e2, BitVec.toNat_and, BitVec.toNat_ofNat, BitVec.toNat_ofNat, e3, Nat.and_two_pow_sub_one_eq_mod]
    omega
  show IntKind.u64.wrap ((BitVec.ofInt 64 (n : Int) &&& BitVec.ofInt 64 2047).toNat : Int) = _
  rw [e, IntKind.wrap_u64]
  omega

section
attribute [local go_sem] bits_run from_run
theorem none_walk (y : Nat) (w : World) : Calls Try.prog 163 #[.float .f64 y] w fun e w' => e = .returned (.bool (isNan y)) ∧ w' = w := by
  go_enter Try.func163, Try.ntmps163
  go_wp2
  · rename_i h
    rw [and_2047 _ (by omega)] at h
    go_ret
    refine ⟨?_, rfl⟩
    show Ending.returned (.bool (IntKind.u64.wrap (↑y * 4096) != 0)) = _
    rw [isNan_eq, IntKind.wrap_u64]
    congr 2
    rw [Bool.eq_iff_iff]
    simp only [bne_iff_ne, ne_eq, decide_eq_true_eq]
    omega
  · rename_i h
    rw [and_2047 _ (by omega)] at h
    go_ret
    refine ⟨?_, rfl⟩
    show Ending.returned (.bool false) = _
    rw [isNan_eq]
    congr 2
    symm
    simp only [decide_eq_false_iff_not]
    omega
end
def c163 : FC G := FC.sp [.s .f64] fun (x, _) => .bool (isNan x)
theorem ok163 : FcOk Try.prog 163 c163 := one_ok (fun x => .bool (isNan x)) fun y x w hy _ => calls_to Try.func163 (by kernel_rfl) ((none_walk y w).mono fun e w' ⟨he, hw⟩ => ⟨_, he, hw, fun φ St => by
  have : isNan y = isNan x := by
    rcases hy with rfl | ⟨h1, h2⟩
    · rfl
    · rw [h1, h2]
  rw [this]
  exact .bool _⟩)
end Go.SX

/- PRINTED BY A PROGRAM OF THIS SEAT: contracts, batch b: floats and vectors. No statement of the seat is proved here. -/
namespace Go.SX
open Go.Proofs
set_option maxRecDepth 20000
def L0 : Ctr := [(66, c66), (163, c163), (135, fcBits), (105, fcFrom), (188, fcSqrt)]
theorem L0ok : AllOk L0 := .cons ok66 (.cons ok163 (.cons ok135 (.cons ok105 (.cons ok188 .nil))))
def c161 : FC G := FC.sp [.s .f64] fun (a, _) => .bool (isNan a)
theorem ok161 : FcOk Try.prog 161 c161 := sp0 L0ok Try.func161 (by kernel_rfl) (by kernel_rfl) (by kernel_rfl) fun (a, _) K => (show xfn (EV L0 []) Try.f161 [] (encs [.s .f64] (a, ())) [] K = (K (.bool (!feq a a)) [] []) from by kernel_rfl).trans (show (K (.bool (!feq a a)) [] []) = K (.bool (isNan a)) [] [] from by rw [feq_self, Bool.not_not])
def L161 : Ctr := (161, c161) :: L0
theorem L161ok : AllOk L161 := .cons ok161 L0ok
def c162 : FC G := FC.sp [.s .f64] fun (a, _) => .bool (fminus a)
theorem ok162 : FcOk Try.prog 162 c162 := sp0 L161ok Try.func162 (by kernel_rfl) (by kernel_rfl) (by kernel_rfl) fun (a, _) K => by kernel_rfl
def L162 : Ctr := (162, c162) :: L161
theorem L162ok : AllOk L162 := .cons ok162 L161ok
def c174 : FC G := FC.sp [.s .f64] fun (a, _) => .bool (ffin a)
theorem ok174 : FcOk Try.prog 174 c174 := sp0 L162ok Try.func174 (by kernel_rfl) (by kernel_rfl) (by kernel_rfl) fun (a, _) K => by kernel_rfl
def L174 : Ctr := (174, c174) :: L162
theorem L174ok : AllOk L174 := .cons ok174 L162ok
def c160 : FC G := FC.sp [.s .f64] fun (a, _) => .bool (ffin a)
theorem ok160 : FcOk Try.prog 160 c160 := sp0 L174ok Try.func160 (by kernel_rfl) (by kernel_rfl) (by kernel_rfl) fun (a, _) K => by kernel_rfl
def L160 : Ctr := (160, c160) :: L174
theorem L160ok : AllOk L160 := .cons ok160 L174ok
def c131 : FC G := FC.sp [.s .f64, .s .f64] fun (a, m, _) => .bool (fwithin a m)
theorem ok131 : FcOk Try.prog 131 c131 := sp0 L160ok Try.func131 (by kernel_rfl) (by kernel_rfl) (by kernel_rfl) fun (a, m, _) K => by kernel_rfl
def L131 : Ctr := (131, c131) :: L160
theorem L131ok : AllOk L131 := .cons ok131 L160ok
def c98 : FC G := FC.sp [.s .f64] fun (a, _) => .int .u64 (fbits a)
theorem ok98 : FcOk Try.prog 98 c98 := sp0 L131ok Try.func98 (by kernel_rfl) (by kernel_rfl) (by kernel_rfl) fun (a, _) K => (show xfn (EV L131 []) Try.f98 [] (encs [.s .f64] (a, ())) [] K = (bif !feq a a then K (.int .u64 9221120237041090561) [] [] else bif isNan a then none else K (.int .u64 a) [] []) from by kernel_rfl).trans (show (bif !feq a a then K (.int .u64 9221120237041090561) [] [] else bif isNan a then none else K (.int .u64 a) [] []) = K (.int .u64 (fbits a)) [] [] from by rw [feq_self]; unfold fbits; cases isNan a <;> rfl)
def L98 : Ctr := (98, c98) :: L131
theorem L98ok : AllOk L98 := .cons ok98 L131ok
def c32 : FC G := FC.sp [.s .f64, .s .f64] fun (a, b, _) => .bool (fis a b)
theorem ok32 : FcOk Try.prog 32 c32 := sp0 L98ok Try.func32 (by kernel_rfl) (by kernel_rfl) (by kernel_rfl) fun (a, b, _) K => by kernel_rfl
def L32 : Ctr := (32, c32) :: L98
theorem L32ok : AllOk L32 := .cons ok32 L98ok
def c143 : FC G := FC.sp [.s .f64] fun (a, _) => .flt ((FloatKind.f64.format.sqrt a).getD qnan)
theorem ok143 : FcOk Try.prog 143 c143 := sp0 L32ok Try.func143 (by kernel_rfl) (by kernel_rfl) (by kernel_rfl) fun (a, _) K => by kernel_rfl
def L143 : Ctr := (143, c143) :: L32
theorem L143ok : AllOk L143 := .cons ok143 L32ok
def c95 : FC G := FC.sp [.s .f64, .s .f64] fun (a, b, _) => .flt (fmost a b)
theorem ok95 : FcOk Try.prog 95 c95 := sp0 L143ok Try.func95 (by kernel_rfl) (by kernel_rfl) (by kernel_rfl) fun (a, b, _) K => (show xfn (EV L143 []) Try.f95 [] (encs [.s .f64, .s .f64] (a, b, ())) [] K = (bif (isNan a || flt a b) || ((feq a 0 && feq b 0) && fminus a) then K (.flt b) [] [] else K (.flt a) [] []) from by kernel_rfl).trans (show (bif (isNan a || flt a b) || ((feq a 0 && feq b 0) && fminus a) then K (.flt b) [] [] else K (.flt a) [] []) = K (.flt (fmost a b)) [] [] from by unfold fmost; cases (isNan a || flt a b) || ((feq a 0 && feq b 0) && fminus a) <;> rfl)
def L95 : Ctr := (95, c95) :: L143
theorem L95ok : AllOk L95 := .cons ok95 L143ok
def c141 : FC G := FC.sp [.s .f64, .s .f64, .s .f64] fun (a, low, high, _) => .flt (fclamp a low high)
theorem ok141 : FcOk Try.prog 141 c141 := sp0 L95ok Try.func141 (by kernel_rfl) (by kernel_rfl) (by kernel_rfl) fun (a, low, high, _) K => (show xfn (EV L95 []) Try.f141 [] (encs [.s .f64, .s .f64, .s .f64] (a, low, high, ())) [] K = (bif !flt low a then K (.flt low) [] [] else bif flt high a then K (.flt high) [] [] else K (.flt a) [] []) from by kernel_rfl).trans (show (bif !flt low a then K (.flt low) [] [] else bif flt high a then K (.flt high) [] [] else K (.flt a) [] []) = K (.flt (fclamp a low high)) [] [] from by unfold fclamp; cases flt low a <;> cases flt high a <;> rfl)
def L141 : Ctr := (141, c141) :: L95
theorem L141ok : AllOk L141 := .cons ok141 L95ok
theorem place_bits (a : Nat) : IntKind.i64.wrap ((IntKind.u64.wrap ((a : Int) * 2)).fdiv 2) = ((a % 9223372036854775808 : Nat) : Int) := by
  rw [IntKind.wrap_u64, Int.fdiv_eq_ediv_of_nonneg _ (by omega), IntKind.wrap_i64]
  omega
theorem place_top (a : Nat) : ((a : Int).fdiv 9223372036854775808 == 1) = decide (a / 9223372036854775808 = 1) := by
  rw [Int.fdiv_eq_ediv_of_nonneg _ (by omega), Bool.eq_iff_iff]
  simp only [beq_iff_eq, decide_eq_true_eq]
  omega
theorem place_min (a : Nat) : IntKind.i64.wrap (IntKind.i64.wrap (0 - ((a % 9223372036854775808 : Nat) : Int)) - 1) = -((a % 9223372036854775808 : Nat) : Int) - 1 := by
  have : a % 9223372036854775808 < 9223372036854775808 := Nat.mod_lt _ (by decide)
  generalize a % 9223372036854775808 = n at *
  rw [IntKind.wrap_i64, IntKind.wrap_i64]
  omega
theorem place_tree (a : Nat) {α : Type} (f : Int → α) : (bif (a : Int).fdiv 9223372036854775808 == 1 then f (IntKind.i64.wrap (IntKind.i64.wrap (0 - IntKind.i64.wrap ((IntKind.u64.wrap ((a : Int) * 2)).fdiv 2)) - 1)) else f (IntKind.i64.wrap ((IntKind.u64.wrap ((a : Int) * 2)).fdiv 2))) = f (place a) := by
  rw [place_bits, place_top, place_min]
  unfold place
  by_cases h : a / 9223372036854775808 = 1 <;> simp [h]
def c164 : FC G := FC.rn [.s .f64] fun (a, _) K => bif isNan a then none else K (.int .i64 (place a)) [] []
theorem ok164 : FcOk Try.prog 164 c164 := rn0 L141ok Try.func164 (by kernel_rfl) (by kernel_rfl) (by kernel_rfl) fun (a, _) K => (show xfn (EV L141 []) Try.f164 [] (encs [.s .f64] (a, ())) [] K = (bif isNan a then none else bif isNan a then none else bif (a : Int).fdiv 9223372036854775808 == 1 then K (RV.int IntKind.i64 (IntKind.i64.wrap (IntKind.i64.wrap (0 - IntKind.i64.wrap ((IntKind.u64.wrap ((a : Int) * 2)).fdiv 2)) - 1))) [] [] else K (RV.int IntKind.i64 (IntKind.i64.wrap ((IntKind.u64.wrap ((a : Int) * 2)).fdiv 2))) [] []) from by kernel_rfl).trans (show (bif isNan a then none else bif isNan a then none else bif (a : Int).fdiv 9223372036854775808 == 1 then K (RV.int IntKind.i64 (IntKind.i64.wrap (IntKind.i64.wrap (0 - IntKind.i64.wrap ((IntKind.u64.wrap ((a : Int) * 2)).fdiv 2)) - 1))) [] [] else K (RV.int IntKind.i64 (IntKind.i64.wrap ((IntKind.u64.wrap ((a : Int) * 2)).fdiv 2))) [] []) = (bif isNan a then none else K (.int .i64 (place a)) [] []) from by rw [place_tree a fun n => K (RV.int IntKind.i64 n) [] []]; cases isNan a <;> rfl)
def L164 : Ctr := (164, c164) :: L141
theorem L164ok : AllOk L164 := .cons ok164 L141ok
theorem worth_tree (a : Nat) (K : RV G → List (Blk G) → List (Blk G) → Ans G) : (bif isNan a then none else bif place a == -1 then K (.int .i64 0) [] [] else K (.int .i64 (place a)) [] []) = (bif isNan a then none else K (.int .i64 (worth a)) [] []) := by
  unfold worth
  by_cases h : place a = -1
  · simp [h]
  · have h2 : (place a == -1) = false := by simpa using h
    rw [h2, if_neg h]
    rfl
def c198 : FC G := FC.rn [.s .f64] fun (a, _) K => bif isNan a then none else K (.int .i64 (worth a)) [] []
theorem ok198 : FcOk Try.prog 198 c198 := rn0 L164ok Try.func198 (by kernel_rfl) (by kernel_rfl) (by kernel_rfl) fun (a, _) K => (show xfn (EV L164 []) Try.f198 [] (encs [.s .f64] (a, ())) [] K = (bif isNan a then none else bif place a == -1 then K (.int .i64 0) [] [] else K (.int .i64 (place a)) [] []) from by kernel_rfl).trans (show (bif isNan a then none else bif place a == -1 then K (.int .i64 0) [] [] else K (.int .i64 (place a)) [] []) = (bif isNan a then none else K (.int .i64 (worth a)) [] []) from by exact worth_tree a K)
def L198 : Ctr := (198, c198) :: L164
theorem L198ok : AllOk L198 := .cons ok198 L164ok
def c195 : FC G := FC.sp [.s .f64, .s .f64] fun (a, b, _) => .bool (flt b a)
theorem ok195 : FcOk Try.prog 195 c195 := sp0w L198ok Try.func195 (by kernel_rfl) (by kernel_rfl) (by kernel_rfl) fun (a, b, _) ⟨ha, hb, _⟩ K => (show xfn (EV L198 []) Try.f195 [] (encs [.s .f64, .s .f64] (a, b, ())) [] K = (bif !isNan a && !isNan b then bif isNan a then none else bif isNan b then none else K (.bool (true && decide (worth a > worth b))) [] [] else K (.bool false) [] []) from by kernel_rfl).trans (show (bif !isNan a && !isNan b then bif isNan a then none else bif isNan b then none else K (.bool (true && decide (worth a > worth b))) [] [] else K (.bool false) [] []) = K (.bool (flt b a)) [] [] from by have h := above_eq ha hb; rw [← h]; cases isNan a <;> cases isNan b <;> simp)
def L195 : Ctr := (195, c195) :: L198
theorem L195ok : AllOk L195 := .cons ok195 L198ok
def c159 : FC G := FC.sp [.s .f64, .s .f64, .s .f64] fun (a, low, high, _) => .flt (fclamp a low high)
theorem ok159 : FcOk Try.prog 159 c159 := sp0 L195ok Try.func159 (by kernel_rfl) (by kernel_rfl) (by kernel_rfl) fun (a, low, high, _) K => (show xfn (EV L195 []) Try.f159 [] (encs [.s .f64, .s .f64, .s .f64] (a, low, high, ())) [] K = (bif !flt low a then K (.flt low) [] [] else bif flt high a then K (.flt high) [] [] else K (.flt a) [] []) from by kernel_rfl).trans (show (bif !flt low a then K (.flt low) [] [] else bif flt high a then K (.flt high) [] [] else K (.flt a) [] []) = K (.flt (fclamp a low high)) [] [] from by unfold fclamp; cases flt low a <;> cases flt high a <;> rfl)
def L159 : Ctr := (159, c159) :: L195
theorem L159ok : AllOk L159 := .cons ok159 L195ok
def c96 : FC G := FC.sp [.s .f64, .s .f64] fun (a, b, _) => .flt (fmost1 a b)
theorem ok96 : FcOk Try.prog 96 c96 := sp0 L159ok Try.func96 (by kernel_rfl) (by kernel_rfl) (by kernel_rfl) fun (a, b, _) K => (show xfn (EV L159 []) Try.f96 [] (encs [.s .f64, .s .f64] (a, b, ())) [] K = (bif isNan a then K (.flt b) [] [] else bif isNan b then K (.flt a) [] [] else bif isNan a then none else bif isNan b then none else bif false || decide (place a ≥ place b) then K (.flt a) [] [] else K (.flt b) [] []) from by kernel_rfl).trans (show (bif isNan a then K (.flt b) [] [] else bif isNan b then K (.flt a) [] [] else bif isNan a then none else bif isNan b then none else bif false || decide (place a ≥ place b) then K (.flt a) [] [] else K (.flt b) [] []) = K (.flt (fmost1 a b)) [] [] from by unfold fmost1; cases isNan a <;> cases isNan b <;> by_cases h : place a ≥ place b <;> simp [h])
def L96 : Ctr := (96, c96) :: L159
theorem L96ok : AllOk L96 := .cons ok96 L159ok
def c169 : FC G := FC.sp [.s .f64, .s .f64] fun (a, b, _) => .bool (fsame a b)
theorem ok169 : FcOk Try.prog 169 c169 := sp0 L96ok Try.func169 (by kernel_rfl) (by kernel_rfl) (by kernel_rfl) fun (a, b, _) K => (show xfn (EV L96 []) Try.f169 [] (encs [.s .f64, .s .f64] (a, b, ())) [] K = (bif isNan a || isNan b then K (.bool (isNan a && isNan b)) [] [] else bif isNan a then none else bif isNan b then none else K (.bool ((a : Int) == (b : Int))) [] []) from by kernel_rfl).trans (show (bif isNan a || isNan b then K (.bool (isNan a && isNan b)) [] [] else bif isNan a then none else bif isNan b then none else K (.bool ((a : Int) == (b : Int))) [] []) = K (.bool (fsame a b)) [] [] from by unfold fsame; cases isNan a <;> cases isNan b <;> rfl)
def L169 : Ctr := (169, c169) :: L96
theorem L169ok : AllOk L169 := .cons ok169 L96ok
def c179 : FC G := FC.sp [.s .vec, .s .vec] fun (a, b, _) => .flt (vdot a b)
theorem ok179 : FcOk Try.prog 179 c179 := sp0 L169ok Try.func179 (by kernel_rfl) (by kernel_rfl) (by kernel_rfl) fun (a, b, _) K => by kernel_rfl
def L179 : Ctr := (179, c179) :: L169
theorem L179ok : AllOk L179 := .cons ok179 L169ok
def c173 : FC G := FC.sp [.s .vec, .s .vec] fun (a, b, _) => .flt (vdot a b)
theorem ok173 : FcOk Try.prog 173 c173 := sp0 L179ok Try.func173 (by kernel_rfl) (by kernel_rfl) (by kernel_rfl) fun (a, b, _) K => by kernel_rfl
def L173 : Ctr := (173, c173) :: L179
theorem L173ok : AllOk L173 := .cons ok173 L179ok
def c171 : FC G := FC.sp [.s .vec] fun (a, _) => .flt (vsq a)
theorem ok171 : FcOk Try.prog 171 c171 := sp0 L173ok Try.func171 (by kernel_rfl) (by kernel_rfl) (by kernel_rfl) fun (a, _) K => by kernel_rfl
def L171 : Ctr := (171, c171) :: L173
theorem L171ok : AllOk L171 := .cons ok171 L173ok
def c117 : FC G := FC.sp [.s .vec] fun (a, _) => .flt (vsq a)
theorem ok117 : FcOk Try.prog 117 c117 := sp0 L171ok Try.func117 (by kernel_rfl) (by kernel_rfl) (by kernel_rfl) fun (a, _) K => by kernel_rfl
def L117 : Ctr := (117, c117) :: L171
theorem L117ok : AllOk L117 := .cons ok117 L171ok
def c116 : FC G := FC.sp [.s .f64, .s .f64] fun (x, y, _) => encR .vec ⟨x, y⟩
theorem ok116 : FcOk Try.prog 116 c116 := sp0 L117ok Try.func116 (by kernel_rfl) (by kernel_rfl) (by kernel_rfl) fun (x, y, _) K => by kernel_rfl
def L116 : Ctr := (116, c116) :: L117
theorem L116ok : AllOk L116 := .cons ok116 L117ok
def c128 : FC G := FC.sp [.s .vec, .s .vec] fun (a, b, _) => .flt (vcross a b)
theorem ok128 : FcOk Try.prog 128 c128 := sp0 L116ok Try.func128 (by kernel_rfl) (by kernel_rfl) (by kernel_rfl) fun (a, b, _) K => by kernel_rfl
def L128 : Ctr := (128, c128) :: L116
theorem L128ok : AllOk L128 := .cons ok128 L116ok
def c118 : FC G := FC.sp [.s .vec, .s .vec] fun (a, b, _) => encR .vec (vsub a b)
theorem ok118 : FcOk Try.prog 118 c118 := sp0 L128ok Try.func118 (by kernel_rfl) (by kernel_rfl) (by kernel_rfl) fun (a, b, _) K => by kernel_rfl
def L118 : Ctr := (118, c118) :: L128
theorem L118ok : AllOk L118 := .cons ok118 L128ok
def c129 : FC G := FC.sp [.s .vec, .s .vec] fun (a, b, _) => encR .vec (vsub a b)
theorem ok129 : FcOk Try.prog 129 c129 := sp0 L118ok Try.func129 (by kernel_rfl) (by kernel_rfl) (by kernel_rfl) fun (a, b, _) K => by kernel_rfl
def L129 : Ctr := (129, c129) :: L118
theorem L129ok : AllOk L129 := .cons ok129 L118ok
def c175 : FC G := FC.sp [.s .vec, .s .vec] fun (a, b, _) => encR .vec (vadd a b)
theorem ok175 : FcOk Try.prog 175 c175 := sp0 L129ok Try.func175 (by kernel_rfl) (by kernel_rfl) (by kernel_rfl) fun (a, b, _) K => by kernel_rfl
def L175 : Ctr := (175, c175) :: L129
theorem L175ok : AllOk L175 := .cons ok175 L129ok
def c71 : FC G := FC.sp [.s .vec, .s .f64] fun (a, s, _) => encR .vec (vscale a s)
theorem ok71 : FcOk Try.prog 71 c71 := sp0 L175ok Try.func71 (by kernel_rfl) (by kernel_rfl) (by kernel_rfl) fun (a, s, _) K => by kernel_rfl
def L71 : Ctr := (71, c71) :: L175
theorem L71ok : AllOk L71 := .cons ok71 L175ok
def c187 : FC G := FC.sp [.s .vec, .s .f64, .s .vec] fun (a, s, b, _) => encR .vec (vmore a s b)
theorem ok187 : FcOk Try.prog 187 c187 := sp0 L71ok Try.func187 (by kernel_rfl) (by kernel_rfl) (by kernel_rfl) fun (a, s, b, _) K => by kernel_rfl
def L187 : Ctr := (187, c187) :: L71
theorem L187ok : AllOk L187 := .cons ok187 L71ok
def c194 : FC G := FC.sp [.s .vec, .s .f64, .s .vec] fun (a, s, b, _) => encR .vec (vmore a s b)
theorem ok194 : FcOk Try.prog 194 c194 := sp0 L187ok Try.func194 (by kernel_rfl) (by kernel_rfl) (by kernel_rfl) fun (a, s, b, _) K => by kernel_rfl
def L194 : Ctr := (194, c194) :: L187
theorem L194ok : AllOk L194 := .cons ok194 L187ok
def c189 : FC G := FC.sp [.s .vec] fun (a, _) => .bool (vfin a)
theorem ok189 : FcOk Try.prog 189 c189 := sp0 L194ok Try.func189 (by kernel_rfl) (by kernel_rfl) (by kernel_rfl) fun (a, _) K => by kernel_rfl
def L189 : Ctr := (189, c189) :: L194
theorem L189ok : AllOk L189 := .cons ok189 L194ok
def c196 : FC G := FC.sp [.s .vec] fun (a, _) => .bool (vfin a)
theorem ok196 : FcOk Try.prog 196 c196 := sp0 L189ok Try.func196 (by kernel_rfl) (by kernel_rfl) (by kernel_rfl) fun (a, _) K => by kernel_rfl
def L196 : Ctr := (196, c196) :: L189
theorem L196ok : AllOk L196 := .cons ok196 L189ok
def c61 : FC G := FC.sp [.s .vec, .s .f64] fun (a, m, _) => .bool (vwithin a m)
theorem ok61 : FcOk Try.prog 61 c61 := sp0 L196ok Try.func61 (by kernel_rfl) (by kernel_rfl) (by kernel_rfl) fun (a, m, _) K => by kernel_rfl
def L61 : Ctr := (61, c61) :: L196
theorem L61ok : AllOk L61 := .cons ok61 L196ok
def c120 : FC G := FC.sp [.s .vec, .s .f64] fun (a, m, _) => .bool (vawithin a m)
theorem ok120 : FcOk Try.prog 120 c120 := sp0 L61ok Try.func120 (by kernel_rfl) (by kernel_rfl) (by kernel_rfl) fun (a, m, _) K => by kernel_rfl
def L120 : Ctr := (120, c120) :: L61
theorem L120ok : AllOk L120 := .cons ok120 L61ok
def c83 : FC G := FC.sp [.s .vec, .s .vec] fun (a, b, _) => .bool (vsame a b)
theorem ok83 : FcOk Try.prog 83 c83 := sp0 L120ok Try.func83 (by kernel_rfl) (by kernel_rfl) (by kernel_rfl) fun (a, b, _) K => by kernel_rfl
def L83 : Ctr := (83, c83) :: L120
theorem L83ok : AllOk L83 := .cons ok83 L120ok
def c127 : FC G := FC.sp [.s .vec] fun (a, _) => .flt (vlen a)
theorem ok127 : FcOk Try.prog 127 c127 := sp0 L83ok Try.func127 (by kernel_rfl) (by kernel_rfl) (by kernel_rfl) fun (a, _) K => by kernel_rfl
def L127 : Ctr := (127, c127) :: L83
theorem L127ok : AllOk L127 := .cons ok127 L83ok
def c177 : FC G := FC.sp [.s .vec, .s .vec] fun (a, b, _) => encR .vec (vscale (vadd a b) 4602678819172646912)
theorem ok177 : FcOk Try.prog 177 c177 := sp0 L127ok Try.func177 (by kernel_rfl) (by kernel_rfl) (by kernel_rfl) fun (a, b, _) K => by kernel_rfl
def L177 : Ctr := (177, c177) :: L127
theorem L177ok : AllOk L177 := .cons ok177 L127ok
end Go.SX

/- Loops: what rounds come to; loops' contracts put together. No statement of the seat is proved here. -/
namespace Go.SX
open Go.Proofs
set_option maxRecDepth 20000

theorem lps1 {E : Env G} {mu : List Nat} {fn : Func} {i : Nat} {lc : LC G} (hl : loops (bodyD fn) = [(some i, lpBody fn 0)]) (hlp : E.lp i = some lc) (h : LpOk E mu (lpBody fn 0) lc) : LpsOk E mu (bodyD fn) :=
  LpsOk.of _ fun j b lc' hb hj => by
    rw [hl] at hb
    simp only [List.mem_singleton, Prod.mk.injEq, Option.some.injEq] at hb
    obtain ⟨rfl, rfl⟩ := hb
    rw [hlp] at hj
    cases hj
    exact h

theorem lps2 {E : Env G} {mu : List Nat} {fn : Func} {i j : Nat} {lc ld : LC G} (hl : loops (bodyD fn) = [(some i, lpBody fn 0), (some j, lpBody fn 1)]) (hlp : E.lp i = some lc) (h : LpOk E mu (lpBody fn 0) lc) (hlq : E.lp j = some ld) (h2 : LpOk E mu (lpBody fn 1) ld) : LpsOk E mu (bodyD fn) :=
  LpsOk.of _ fun q b lc' hb hj => by
    rw [hl] at hb
    simp only [List.mem_cons, Prod.mk.injEq, Option.some.injEq, List.not_mem_nil, or_false] at hb
    rcases hb with ⟨rfl, rfl⟩ | ⟨rfl, rfl⟩
    · rw [hlp] at hj; cases hj; exact h
    · rw [hlq] at hj; cases hj; exact h2

theorem lpOk_of {E : Env G} {c : Code} {lc : LC G} (hd : distinct (app lc.hd.kb (mapL (fun x => x.2.2) lc.hd.ko)) = true) (h : ∀ vs bs K o, lc.run vs bs K = some o → ∃ n, iter E lc.hd c n vs bs K = some o) : LpOk E [] c lc :=
  ⟨fun x hx => by simp at hx, hd, h⟩

theorem wrap_succ {i : Nat} (h : i + 1 < 9223372036854775808) : IntKind.i64.wrap ((i : Int) + 1) = ((i + 1 : Nat) : Int) := by
  rw [IntKind.wrap_i64]; omega

theorem getI_at {α : Type} {xs : List α} {i : Nat} (h : i < xs.length) : getI xs (i : Int) = some xs[i] := by
  simp [getI, List.getElem?_eq_getElem h]

/-- A search through a list. -/
theorem find_loop {α β : Type} {xs : List α} {p : α → Bool} {F : Nat → Int → Option β} {R X : Int → Option β}
    (hs : ∀ n (i : Int), F (n + 1) i = bif decide (i < (xs.length : Int)) then (getI xs i).bind (fun x => bif p x then R i else F n (IntKind.i64.wrap (i + 1))) else X i) (hl : xs.length < 9223372036854775808) :
    F (xs.length + 1) 0 = bif xs.any p then R (xs.findIdx p : Nat) else X (xs.length : Nat) := by
  have main : ∀ d i : Nat, i + d = xs.length → F (d + 1) (i : Int) = bif (xs.drop i).any p then R (i + (xs.drop i).findIdx p : Nat) else X (xs.length : Nat) := by
    intro d
    induction d with
    | zero =>
      intro i hi
      have : i = xs.length := by omega
      subst this
      rw [hs, List.drop_length]
      simp
    | succ d ih =>
      intro i hi
      have hlt : i < xs.length := by omega
      rw [hs, getI_at hlt, List.drop_eq_getElem_cons hlt]
      simp only [Option.bind_some, List.any_cons, List.findIdx_cons]
      rw [show decide ((i : Int) < (xs.length : Int)) = true from decide_eq_true (by omega), cond_true]
      cases p xs[i] with
      | true => simp
      | false =>
        rw [cond_false, Bool.false_or, wrap_succ (by omega), ih (i + 1) (by omega), cond_false, show i + 1 + (xs.drop (i + 1)).findIdx p = i + ((xs.drop (i + 1)).findIdx p + 1) by omega]
  have := main xs.length 0 (by omega)
  simpa using this

theorem idx_ge (b : Bool) (n : Nat) : decide ((bif b then (n : Int) else -1) ≥ 0) = b := by
  cases b
  · rfl
  · simp

theorem any_not {α : Type} (xs : List α) (p : α → Bool) : (!xs.any fun x => !p x) = xs.all p := by
  induction xs with
  | nil => rfl
  | cons x r ih => simp only [List.any_cons, List.all_cons, ← ih]; cases p x <;> simp


theorem xregion_lp (L : Ctr) (a b : List (Nat × LC G)) (ops : List Oper) (d : Bool) : xregion (EV L a) ops d = xregion (EV L b) ops d := by kernel_rfl
theorem xcode_lp (L : Ctr) (a b : List (Nat × LC G)) : ∀ (c : Code), loops c = [] → ∀ s K, xcode (EV L a) c s K = xcode (EV L b) c s K
  | .seq x y, h, s, K => by
    simp only [loops, app_eq, List.append_eq_nil_iff] at h
    simp only [xcode]
    rw [xcode_lp L a b x h.1]
    congr 1
    funext e s'
    cases e <;> first | exact xcode_lp L a b y h.2 s' K | rfl
  | .cond q x y, h, s, K => by
    simp only [loops, app_eq, List.append_eq_nil_iff] at h
    simp only [xcode]
    rw [xcode_lp L a b x h.1, xcode_lp L a b y h.2]
  | .block i x, h, s, K => by
    simp only [loops] at h
    simp only [xcode]
    rw [xcode_lp L a b x h]
  | .scope x, h, s, K => by
    simp only [loops] at h
    simp only [xcode]
    rw [xcode_lp L a b x h]
  | .loop x, h, s, K => by simp [loops] at h
  | .region i ops d, _, s, K => by simp only [xcode]; rw [xregion_lp L a b]
  | .skip, _, s, K => rfl
  | .rangeFunc _ _ _ _, _, s, K => rfl
  | .exit _, _, s, K => rfl
  | .label _, _, s, K => rfl
  | .goto _, _, s, K => rfl
  | .ret, _, s, K => rfl
  | .refuse _, _, s, K => rfl
theorem iter_lp (L : Ctr) (a b : List (Nat × LC G)) {c : Code} (h : loops c = []) (hd : LH G) : ∀ (n : Nat) (vs : List (RV G)) (bs : List (Blk G)) (K), iter (EV L a) hd c n vs bs K = iter (EV L b) hd c n vs bs K
  | 0, _, _, _ => rfl
  | n + 1, vs, bs, K => by
    simp only [iter]
    rw [xcode_lp L a b c h]
    congr 1
    funext e s
    cases norm hd s with
    | none => rfl
    | some p => cases e <;> first | exact iter_lp L a b h hd n _ _ K | rfl
/-- A loop of a bounded number of rounds, round by round. -/
theorem lpIter (L : Ctr) (lp : List (Nat × LC G)) {c : Code} {hd : LH G} (n : Nat) (hl : loops c = []) (hd1 : distinct (app hd.kb (mapL (fun x => x.2.2) hd.ko)) = true) : LpOk (EV L lp) [] c ⟨hd, iter (EV L []) hd c n⟩ :=
  lpOk_of hd1 fun vs bs K o h => ⟨n, by rw [iter_lp L lp [] hl]; exact h⟩

def c186 : FC G := FC.sp [.s .f64] fun (a, _) => .bool (!ffin a)
theorem ok186 : FcOk Try.prog 186 c186 := sp0 L177ok Try.func186 (by kernel_rfl) (by kernel_rfl) (by kernel_rfl) fun (a, _) K => by kernel_rfl
def L186 : Ctr := (186, c186) :: L177
theorem L186ok : AllOk L186 := .cons ok186 L177ok
def hdFind : LH G := ⟨[0, 1, 4, 7, 8], [], []⟩
def lc197 : LC G := ⟨hdFind, fun vs bs K => match vs, bs with
  | [.rslice .f64 xs, .func 186 [], .int .i64 0, .int .i64 n, .int .i64 i], [] => bif i == 0 && (n == (xs.length : Int) && decide (xs.length < 9223372036854775808)) then
      (bif xs.any (fun a => !ffin a) then K .ret [.rslice .f64 xs, .func 186 [], .int .i64 (xs.findIdx (fun a => !ffin a) : Nat), .int .i64 n, .int .i64 (xs.findIdx (fun a => !ffin a) : Nat)] []
       else K (.exit 0) [.rslice .f64 xs, .func 186 [], .int .i64 0, .int .i64 n, .int .i64 (xs.length : Nat)] []) else none
  | _, _ => none⟩
theorem step197 (xs : List (TD .f64)) (n : Nat) (i : Int) (K) : iter (EV L186 [(2, lc197)]) hdFind (lpBody Try.f197 0) (n + 1) [.rslice .f64 xs, .func 186 [], .int .i64 0, .int .i64 xs.length, .int .i64 i] [] K =
    bif decide (i < (xs.length : Int)) then (getI xs i).bind fun x => bif (fun a => !ffin a) x then K .ret [.rslice .f64 xs, .func 186 [], .int .i64 i, .int .i64 xs.length, .int .i64 i] [] else
      iter (EV L186 [(2, lc197)]) hdFind (lpBody Try.f197 0) n [.rslice .f64 xs, .func 186 [], .int .i64 0, .int .i64 xs.length, .int .i64 (IntKind.i64.wrap (i + 1))] [] K
    else K (.exit 0) [.rslice .f64 xs, .func 186 [], .int .i64 0, .int .i64 xs.length, .int .i64 i] [] := by kernel_rfl
theorem lp197 : LpOk (EV L186 [(2, lc197)]) [] (lpBody Try.f197 0) lc197 := lpOk_of (by kernel_rfl) fun vs bs K o h => by
  simp only [lc197] at h
  split at h
  · rename_i xs n i
    obtain ⟨hc, h2⟩ := cond_none h
    simp only [Bool.and_eq_true, beq_iff_eq, decide_eq_true_eq] at hc
    obtain ⟨rfl, rfl, hc⟩ := hc
    exact ⟨_, (find_loop (F := fun n i => iter (EV L186 [(2, lc197)]) hdFind (lpBody Try.f197 0) n [.rslice .f64 xs, .func 186 [], .int .i64 0, .int .i64 xs.length, .int .i64 i] [] K) (R := fun i => K .ret [.rslice .f64 xs, .func 186 [], .int .i64 i, .int .i64 xs.length, .int .i64 i] []) (X := fun i => K (.exit 0) [.rslice .f64 xs, .func 186 [], .int .i64 0, .int .i64 xs.length, .int .i64 i] []) (fun n i => step197 xs n i K) hc).trans h2⟩
  · cases h
def c197 : FC G := FC.sp [.l .f64, .f 186] fun (xs, _, _) => .int .i64 (bif xs.any (fun a => !ffin a) then (xs.findIdx (fun a => !ffin a) : Nat) else -1)
theorem ok197 : FcOk Try.prog 197 c197 := sp_wf L186ok Try.func197 (by kernel_rfl) [(2, lc197)] (lps1 (i := 2) (by kernel_rfl) rfl lp197) (by kernel_rfl) fun (xs, _, _) ⟨hx, _⟩ K => (show xfn (EV L186 [(2, lc197)]) Try.f197 [] (encs [.l .f64, .f 186] (xs, (), ())) [] K = (bif (0 : Int) == 0 && ((xs.length : Int) == (xs.length : Int) && decide (xs.length < 9223372036854775808)) then (bif xs.any (fun a => !ffin a) then K (.int .i64 (xs.findIdx (fun a => !ffin a) : Nat)) [] [] else K (.int .i64 (-1)) [] []) else none) from by kernel_rfl).trans (show (bif (0 : Int) == 0 && ((xs.length : Int) == (xs.length : Int) && decide (xs.length < 9223372036854775808)) then (bif xs.any (fun a => !ffin a) then K (.int .i64 (xs.findIdx (fun a => !ffin a) : Nat)) [] [] else K (.int .i64 (-1)) [] []) else none) = K (.int .i64 (bif xs.any (fun a => !ffin a) then (xs.findIdx (fun a => !ffin a) : Nat) else -1)) [] [] from by have hx : xs.length < 9223372036854775808 := hx; simp only [BEq.rfl, hx, decide_true, Bool.and_self, cond_true]; cases xs.any (fun a => !ffin a) <;> rfl)
def L197 : Ctr := (197, c197) :: L186
theorem L197ok : AllOk L197 := .cons ok197 L186ok
def c185 : FC G := FC.sp [.l .f64, .f 186] fun (xs, _, _) => .bool (xs.any (fun a => !ffin a))
theorem ok185 : FcOk Try.prog 185 c185 := sp0 L197ok Try.func185 (by kernel_rfl) (by kernel_rfl) (by kernel_rfl) fun (xs, _, _) K => (show xfn (EV L197 []) Try.f185 [] (encs [.l .f64, .f 186] (xs, (), ())) [] K = (K (.bool (decide ((bif xs.any (fun a => !ffin a) then ((xs.findIdx (fun a => !ffin a) : Nat) : Int) else -1) ≥ 0))) [] []) from by kernel_rfl).trans (by rw [idx_ge])
def L185 : Ctr := (185, c185) :: L197
theorem L185ok : AllOk L185 := .cons ok185 L197ok
def c140 : FC G := FC.sp [.l .f64] fun (xs, _) => .bool (xs.all ffin)
theorem ok140 : FcOk Try.prog 140 c140 := sp0 L185ok Try.func140 (by kernel_rfl) (by kernel_rfl) (by kernel_rfl) fun (xs, _) K => (show xfn (EV L185 []) Try.f140 [] (encs [.l .f64] (xs, ())) [] K = (K (.bool (!xs.any fun a => !ffin a)) [] []) from by kernel_rfl).trans (show (K (.bool (!xs.any fun a => !ffin a)) [] []) = K (.bool (xs.all ffin)) [] [] from by rw [any_not])
def L140 : Ctr := (140, c140) :: L185
theorem L140ok : AllOk L140 := .cons ok140 L185ok
end Go.SX

/- PRINTED BY A PROGRAM OF THIS SEAT: contracts, batch d: rows. No statement of the seat is proved here. -/
namespace Go.SX
open Go.Proofs
set_option maxRecDepth 20000
def c144 : FC G := FC.sp [.s .row] fun (r, _) => .bool (rfits r)
theorem ok144 : FcOk Try.prog 144 c144 := sp0 L140ok Try.func144 (by kernel_rfl) (by kernel_rfl) (by kernel_rfl) fun (r, _) K => (show xfn (EV L140 []) Try.f144 [] (encs [.s .row] (r, ())) [] K = (bif ((((decide (r.A ≥ 0) && decide (r.B ≥ 0)) && (r.A != r.B)) && vfin r.WayA) && vfin r.WayB) then K (.bool ((((true && [r.TurnA, r.TurnB, r.Bias, r.Push, r.Ratio].all ffin) && fle 0 r.Ratio) && fle r.Low r.High) && decide (r.Of ≥ -1))) [] [] else K (.bool false) [] []) from by kernel_rfl).trans (show (bif ((((decide (r.A ≥ 0) && decide (r.B ≥ 0)) && (r.A != r.B)) && vfin r.WayA) && vfin r.WayB) then K (.bool ((((true && [r.TurnA, r.TurnB, r.Bias, r.Push, r.Ratio].all ffin) && fle 0 r.Ratio) && fle r.Low r.High) && decide (r.Of ≥ -1))) [] [] else K (.bool false) [] []) = K (.bool (rfits r)) [] [] from by unfold rfits; cases ((((decide (r.A ≥ 0) && decide (r.B ≥ 0)) && (r.A != r.B)) && vfin r.WayA) && vfin r.WayB) <;> rfl)
def L144 : Ctr := (144, c144) :: L140
theorem L144ok : AllOk L144 := .cons ok144 L140ok
def c170 : FC G := FC.sp [.s .still] fun (s, _) => .bool (srests s)
theorem ok170 : FcOk Try.prog 170 c170 := sp0 L144ok Try.func170 (by kernel_rfl) (by kernel_rfl) (by kernel_rfl) fun (s, _) K => by kernel_rfl
def L170 : Ctr := (170, c170) :: L144
theorem L170ok : AllOk L170 := .cons ok170 L144ok
def c107 : FC G := FC.sp [.s .row, .s .still, .s .still] fun (r, a, b, _) => .int .i64 (rerr r a b)
theorem ok107 : FcOk Try.prog 107 c107 := sp0 L170ok Try.func107 (by kernel_rfl) (by kernel_rfl) (by kernel_rfl) fun (r, a, b, _) K => (show xfn (EV L170 []) Try.f107 [] (encs [.s .row, .s .still, .s .still] (r, a, b, ())) [] K = (bif (!rfits r || !srests a) || !srests b then K (.int .i64 200) [] [] else K (.int .i64 0) [] []) from by kernel_rfl).trans (show (bif (!rfits r || !srests a) || !srests b then K (.int .i64 200) [] [] else K (.int .i64 0) [] []) = K (.int .i64 (rerr r a b)) [] [] from by unfold rerr rok; cases rfits r <;> cases srests a <;> cases srests b <;> rfl)
def L107 : Ctr := (107, c107) :: L170
theorem L107ok : AllOk L107 := .cons ok107 L170ok
def c108 : FC G := FC.sp [.s .row, .s .still, .s .still] fun (r, a, b, _) => .flt (rweight r a b)
theorem ok108 : FcOk Try.prog 108 c108 := sp0 L107ok Try.func108 (by kernel_rfl) (by kernel_rfl) (by kernel_rfl) fun (r, a, b, _) K => by kernel_rfl
def L108 : Ctr := (108, c108) :: L107
theorem L108ok : AllOk L108 := .cons ok108 L107ok
def c158 : FC G := FC.sp [.s .row, .s .still, .s .still] fun (r, a, b, _) => .flt (rweight r a b)
theorem ok158 : FcOk Try.prog 158 c158 := sp0 L108ok Try.func158 (by kernel_rfl) (by kernel_rfl) (by kernel_rfl) fun (r, a, b, _) K => by kernel_rfl
def L158 : Ctr := (158, c158) :: L108
theorem L158ok : AllOk L158 := .cons ok158 L108ok
def c139 : FC G := FC.sp [.s .row, .s .still, .s .still] fun (r, a, b, _) => .flt (rspeed r a b)
theorem ok139 : FcOk Try.prog 139 c139 := sp0 L158ok Try.func139 (by kernel_rfl) (by kernel_rfl) (by kernel_rfl) fun (r, a, b, _) K => by kernel_rfl
def L139 : Ctr := (139, c139) :: L158
theorem L139ok : AllOk L139 := .cons ok139 L158ok
def c157 : FC G := FC.sp [.s .row, .s .still, .s .still] fun (r, a, b, _) => .flt (rspeed r a b)
theorem ok157 : FcOk Try.prog 157 c157 := sp0 L139ok Try.func157 (by kernel_rfl) (by kernel_rfl) (by kernel_rfl) fun (r, a, b, _) K => by kernel_rfl
def L157 : Ctr := (157, c157) :: L139
theorem L157ok : AllOk L157 := .cons ok157 L139ok
def hd142 : LH G := ⟨[2, 3, 4, 6, 7, 8, 9, 22], [], [3, 4, 8, 9, 6, 7]⟩
noncomputable def lc142 : LC G := ⟨hd142, iter (EV L157 []) hd142 (lpBody Try.f142 0) 3⟩
def c142 : FC G := FC.sp [.s .row, .a2 .still, .s .f64] fun (r, x, p, _) => .tuple [encR .still (spush x.1 r.WayA r.TurnA p), encR .still (spush x.2 r.WayB r.TurnB p)]
theorem x142 (r : GRow) (a b : GStill) (p : Nat) (K) : xfn (EV L157 [(3, lc142)]) Try.f142 [] (encs [.s .row, .a2 .still, .s .f64] (r, (a, b), p, ())) [] K = K (.tuple [encR .still (spush a r.WayA r.TurnA p), encR .still (spush b r.WayB r.TurnB p)]) [] [] := (show _ = (bif !feq a.Mass 0 then (bif !feq a.Inertia 0 then (bif !feq b.Mass 0 then (bif !feq b.Inertia 0 then (K (.tuple [.agg [.flt a.Mass, .flt a.Inertia, .flt (vmore a.Speed (fmul a.Mass p) r.WayA).X, .flt (vmore a.Speed (fmul a.Mass p) r.WayA).Y, .flt (fadd a.Spin (fmul a.Inertia (fmul p r.TurnA)))], .agg [.flt b.Mass, .flt b.Inertia, .flt (vmore b.Speed (fmul b.Mass p) r.WayB).X, .flt (vmore b.Speed (fmul b.Mass p) r.WayB).Y, .flt (fadd b.Spin (fmul b.Inertia (fmul p r.TurnB)))]]) [] []) else (K (.tuple [.agg [.flt a.Mass, .flt a.Inertia, .flt (vmore a.Speed (fmul a.Mass p) r.WayA).X, .flt (vmore a.Speed (fmul a.Mass p) r.WayA).Y, .flt (fadd a.Spin (fmul a.Inertia (fmul p r.TurnA)))], .agg [.flt b.Mass, .flt b.Inertia, .flt (vmore b.Speed (fmul b.Mass p) r.WayB).X, .flt (vmore b.Speed (fmul b.Mass p) r.WayB).Y, .flt b.Spin]]) [] [])) else (bif !feq b.Inertia 0 then (K (.tuple [.agg [.flt a.Mass, .flt a.Inertia, .flt (vmore a.Speed (fmul a.Mass p) r.WayA).X, .flt (vmore a.Speed (fmul a.Mass p) r.WayA).Y, .flt (fadd a.Spin (fmul a.Inertia (fmul p r.TurnA)))], .agg [.flt b.Mass, .flt b.Inertia, .flt b.Speed.X, .flt b.Speed.Y, .flt (fadd b.Spin (fmul b.Inertia (fmul p r.TurnB)))]]) [] []) else (K (.tuple [.agg [.flt a.Mass, .flt a.Inertia, .flt (vmore a.Speed (fmul a.Mass p) r.WayA).X, .flt (vmore a.Speed (fmul a.Mass p) r.WayA).Y, .flt (fadd a.Spin (fmul a.Inertia (fmul p r.TurnA)))], .agg [.flt b.Mass, .flt b.Inertia, .flt b.Speed.X, .flt b.Speed.Y, .flt b.Spin]]) [] []))) else (bif !feq b.Mass 0 then (bif !feq b.Inertia 0 then (K (.tuple [.agg [.flt a.Mass, .flt a.Inertia, .flt (vmore a.Speed (fmul a.Mass p) r.WayA).X, .flt (vmore a.Speed (fmul a.Mass p) r.WayA).Y, .flt a.Spin], .agg [.flt b.Mass, .flt b.Inertia, .flt (vmore b.Speed (fmul b.Mass p) r.WayB).X, .flt (vmore b.Speed (fmul b.Mass p) r.WayB).Y, .flt (fadd b.Spin (fmul b.Inertia (fmul p r.TurnB)))]]) [] []) else (K (.tuple [.agg [.flt a.Mass, .flt a.Inertia, .flt (vmore a.Speed (fmul a.Mass p) r.WayA).X, .flt (vmore a.Speed (fmul a.Mass p) r.WayA).Y, .flt a.Spin], .agg [.flt b.Mass, .flt b.Inertia, .flt (vmore b.Speed (fmul b.Mass p) r.WayB).X, .flt (vmore b.Speed (fmul b.Mass p) r.WayB).Y, .flt b.Spin]]) [] [])) else (bif !feq b.Inertia 0 then (K (.tuple [.agg [.flt a.Mass, .flt a.Inertia, .flt (vmore a.Speed (fmul a.Mass p) r.WayA).X, .flt (vmore a.Speed (fmul a.Mass p) r.WayA).Y, .flt a.Spin], .agg [.flt b.Mass, .flt b.Inertia, .flt b.Speed.X, .flt b.Speed.Y, .flt (fadd b.Spin (fmul b.Inertia (fmul p r.TurnB)))]]) [] []) else (K (.tuple [.agg [.flt a.Mass, .flt a.Inertia, .flt (vmore a.Speed (fmul a.Mass p) r.WayA).X, .flt (vmore a.Speed (fmul a.Mass p) r.WayA).Y, .flt a.Spin], .agg [.flt b.Mass, .flt b.Inertia, .flt b.Speed.X, .flt b.Speed.Y, .flt b.Spin]]) [] [])))) else (bif !feq a.Inertia 0 then (bif !feq b.Mass 0 then (bif !feq b.Inertia 0 then (K (.tuple [.agg [.flt a.Mass, .flt a.Inertia, .flt a.Speed.X, .flt a.Speed.Y, .flt (fadd a.Spin (fmul a.Inertia (fmul p r.TurnA)))], .agg [.flt b.Mass, .flt b.Inertia, .flt (vmore b.Speed (fmul b.Mass p) r.WayB).X, .flt (vmore b.Speed (fmul b.Mass p) r.WayB).Y, .flt (fadd b.Spin (fmul b.Inertia (fmul p r.TurnB)))]]) [] []) else (K (.tuple [.agg [.flt a.Mass, .flt a.Inertia, .flt a.Speed.X, .flt a.Speed.Y, .flt (fadd a.Spin (fmul a.Inertia (fmul p r.TurnA)))], .agg [.flt b.Mass, .flt b.Inertia, .flt (vmore b.Speed (fmul b.Mass p) r.WayB).X, .flt (vmore b.Speed (fmul b.Mass p) r.WayB).Y, .flt b.Spin]]) [] [])) else (bif !feq b.Inertia 0 then (K (.tuple [.agg [.flt a.Mass, .flt a.Inertia, .flt a.Speed.X, .flt a.Speed.Y, .flt (fadd a.Spin (fmul a.Inertia (fmul p r.TurnA)))], .agg [.flt b.Mass, .flt b.Inertia, .flt b.Speed.X, .flt b.Speed.Y, .flt (fadd b.Spin (fmul b.Inertia (fmul p r.TurnB)))]]) [] []) else (K (.tuple [.agg [.flt a.Mass, .flt a.Inertia, .flt a.Speed.X, .flt a.Speed.Y, .flt (fadd a.Spin (fmul a.Inertia (fmul p r.TurnA)))], .agg [.flt b.Mass, .flt b.Inertia, .flt b.Speed.X, .flt b.Speed.Y, .flt b.Spin]]) [] []))) else (bif !feq b.Mass 0 then (bif !feq b.Inertia 0 then (K (.tuple [.agg [.flt a.Mass, .flt a.Inertia, .flt a.Speed.X, .flt a.Speed.Y, .flt a.Spin], .agg [.flt b.Mass, .flt b.Inertia, .flt (vmore b.Speed (fmul b.Mass p) r.WayB).X, .flt (vmore b.Speed (fmul b.Mass p) r.WayB).Y, .flt (fadd b.Spin (fmul b.Inertia (fmul p r.TurnB)))]]) [] []) else (K (.tuple [.agg [.flt a.Mass, .flt a.Inertia, .flt a.Speed.X, .flt a.Speed.Y, .flt a.Spin], .agg [.flt b.Mass, .flt b.Inertia, .flt (vmore b.Speed (fmul b.Mass p) r.WayB).X, .flt (vmore b.Speed (fmul b.Mass p) r.WayB).Y, .flt b.Spin]]) [] [])) else (bif !feq b.Inertia 0 then (K (.tuple [.agg [.flt a.Mass, .flt a.Inertia, .flt a.Speed.X, .flt a.Speed.Y, .flt a.Spin], .agg [.flt b.Mass, .flt b.Inertia, .flt b.Speed.X, .flt b.Speed.Y, .flt (fadd b.Spin (fmul b.Inertia (fmul p r.TurnB)))]]) [] []) else (K (.tuple [.agg [.flt a.Mass, .flt a.Inertia, .flt a.Speed.X, .flt a.Speed.Y, .flt a.Spin], .agg [.flt b.Mass, .flt b.Inertia, .flt b.Speed.X, .flt b.Speed.Y, .flt b.Spin]]) [] []))))) from by kernel_rfl).trans (by
  unfold spush
  cases feq a.Mass 0 <;> cases feq a.Inertia 0 <;> cases feq b.Mass 0 <;> cases feq b.Inertia 0 <;> rfl)
theorem ok142 : FcOk Try.prog 142 c142 := sp_ok L157ok Try.func142 (by kernel_rfl) [(3, lc142)] (lps1 (i := 3) (by kernel_rfl) rfl (lpIter L157 _ 3 (by kernel_rfl) (by kernel_rfl))) (by kernel_rfl) fun (r, (a, b), p, _) K => x142 r a b p K
def L142 : Ctr := (142, c142) :: L157
theorem L142ok : AllOk L142 := .cons ok142 L157ok
def c168 : FC G := FC.sp [.s .row] fun (r, _) => .bool (rfits r)
theorem ok168 : FcOk Try.prog 168 c168 := sp0 L142ok Try.func168 (by kernel_rfl) (by kernel_rfl) (by kernel_rfl) fun (r, _) K => (show xfn (EV L142 []) Try.f168 [] (encs [.s .row] (r, ())) [] K = (K (.bool ((((((((( vfin r.WayA && vfin r.WayB) && (ffin r.TurnA && ffin r.TurnB)) && ((ffin r.Bias && ffin r.Push) && ffin r.Ratio)) && decide (r.A ≥ 0)) && decide (r.B ≥ 0)) && (r.A != r.B)) && fle 0 r.Ratio) && fle r.Low r.High) && decide (r.Of ≥ -1))) [] []) from by kernel_rfl).trans (show (K (.bool ((((((((( vfin r.WayA && vfin r.WayB) && (ffin r.TurnA && ffin r.TurnB)) && ((ffin r.Bias && ffin r.Push) && ffin r.Ratio)) && decide (r.A ≥ 0)) && decide (r.B ≥ 0)) && (r.A != r.B)) && fle 0 r.Ratio) && fle r.Low r.High) && decide (r.Of ≥ -1))) [] []) = K (.bool (rfits r)) [] [] from by congr 2; unfold rfits; simp only [List.all_cons, List.all_nil, Bool.and_true]; ac_rfl)
def L168 : Ctr := (168, c168) :: L142
theorem L168ok : AllOk L168 := .cons ok168 L142ok
def c193 : FC G := FC.sp [.s .still] fun (s, _) => .bool (srests s)
theorem ok193 : FcOk Try.prog 193 c193 := sp0 L168ok Try.func193 (by kernel_rfl) (by kernel_rfl) (by kernel_rfl) fun (s, _) K => (show xfn (EV L168 []) Try.f193 [] (encs [.s .still] (s, ())) [] K = (K (.bool (((ffin s.Mass && ffin s.Inertia) && fle 0 s.Mass) && fle 0 s.Inertia)) [] []) from by kernel_rfl).trans (show (K (.bool (((ffin s.Mass && ffin s.Inertia) && fle 0 s.Mass) && fle 0 s.Inertia)) [] []) = K (.bool (srests s)) [] [] from by congr 2; unfold srests; simp only [List.all_cons, List.all_nil, Bool.and_true])
def L193 : Ctr := (193, c193) :: L168
theorem L193ok : AllOk L193 := .cons ok193 L168ok
def c155 : FC G := FC.sp [.s .row, .s .still, .s .still] fun (r, a, b, _) => .bool (rok r a b)
theorem ok155 : FcOk Try.prog 155 c155 := sp0 L193ok Try.func155 (by kernel_rfl) (by kernel_rfl) (by kernel_rfl) fun (r, a, b, _) K => by kernel_rfl
def L155 : Ctr := (155, c155) :: L193
theorem L155ok : AllOk L155 := .cons ok155 L193ok
def c156 : FC G := FC.sp [.s .still, .s .vec, .s .f64, .s .f64] fun (s, way, turn, p, _) => encR .still (spush s way turn p)
theorem ok156 : FcOk Try.prog 156 c156 := sp0 L155ok Try.func156 (by kernel_rfl) (by kernel_rfl) (by kernel_rfl) fun (s, way, turn, p, _) K => (show xfn (EV L155 []) Try.f156 [] (encs [.s .still, .s .vec, .s .f64, .s .f64] (s, way, turn, p, ())) [] K = (bif !feq s.Mass 0 then (bif !feq s.Inertia 0 then K (.agg [.flt s.Mass, .flt s.Inertia, .flt (vmore s.Speed (fmul s.Mass p) way).X, .flt (vmore s.Speed (fmul s.Mass p) way).Y, .flt (fadd s.Spin (fmul s.Inertia (fmul p turn)))]) [] [] else K (.agg [.flt s.Mass, .flt s.Inertia, .flt (vmore s.Speed (fmul s.Mass p) way).X, .flt (vmore s.Speed (fmul s.Mass p) way).Y, .flt s.Spin]) [] []) else (bif !feq s.Inertia 0 then K (.agg [.flt s.Mass, .flt s.Inertia, .flt s.Speed.X, .flt s.Speed.Y, .flt (fadd s.Spin (fmul s.Inertia (fmul p turn)))]) [] [] else K (.agg [.flt s.Mass, .flt s.Inertia, .flt s.Speed.X, .flt s.Speed.Y, .flt s.Spin]) [] [])) from by kernel_rfl).trans (show (bif !feq s.Mass 0 then (bif !feq s.Inertia 0 then K (.agg [.flt s.Mass, .flt s.Inertia, .flt (vmore s.Speed (fmul s.Mass p) way).X, .flt (vmore s.Speed (fmul s.Mass p) way).Y, .flt (fadd s.Spin (fmul s.Inertia (fmul p turn)))]) [] [] else K (.agg [.flt s.Mass, .flt s.Inertia, .flt (vmore s.Speed (fmul s.Mass p) way).X, .flt (vmore s.Speed (fmul s.Mass p) way).Y, .flt s.Spin]) [] []) else (bif !feq s.Inertia 0 then K (.agg [.flt s.Mass, .flt s.Inertia, .flt s.Speed.X, .flt s.Speed.Y, .flt (fadd s.Spin (fmul s.Inertia (fmul p turn)))]) [] [] else K (.agg [.flt s.Mass, .flt s.Inertia, .flt s.Speed.X, .flt s.Speed.Y, .flt s.Spin]) [] [])) = K (encR .still (spush s way turn p)) [] [] from by unfold spush; cases feq s.Mass 0 <;> cases feq s.Inertia 0 <;> rfl)
def L156 : Ctr := (156, c156) :: L155
theorem L156ok : AllOk L156 := .cons ok156 L155ok
def c47 : FC G := FC.sp [.s .row, .s .still, .s .still] fun (r, a, b, _) => .tuple [.flt (rweight1 r a b), .int .i64 (rerr r a b)]
theorem ok47 : FcOk Try.prog 47 c47 := sp0 L156ok Try.func47 (by kernel_rfl) (by kernel_rfl) (by kernel_rfl) fun (r, a, b, _) K => (show xfn (EV L156 []) Try.f47 [] (encs [.s .row, .s .still, .s .still] (r, a, b, ())) [] K = (bif rerr r a b != 0 then K (.tuple [.flt 0, .int .i64 (rerr r a b)]) [] [] else K (.tuple [.flt (rweight r a b), .int .i64 0]) [] []) from by kernel_rfl).trans (show (bif rerr r a b != 0 then K (.tuple [.flt 0, .int .i64 (rerr r a b)]) [] [] else K (.tuple [.flt (rweight r a b), .int .i64 0]) [] []) = K (.tuple [.flt (rweight1 r a b), .int .i64 (rerr r a b)]) [] [] from by unfold rweight1 rerr; cases rok r a b <;> rfl)
def L47 : Ctr := (47, c47) :: L156
theorem L47ok : AllOk L47 := .cons ok47 L156ok
def c73 : FC G := FC.sp [.s .row, .s .still, .s .still] fun (r, a, b, _) => .tuple [.flt (rspeed1 r a b), .int .i64 (rerr r a b)]
theorem ok73 : FcOk Try.prog 73 c73 := sp0 L47ok Try.func73 (by kernel_rfl) (by kernel_rfl) (by kernel_rfl) fun (r, a, b, _) K => (show xfn (EV L47 []) Try.f73 [] (encs [.s .row, .s .still, .s .still] (r, a, b, ())) [] K = (bif rerr r a b != 0 then K (.tuple [.flt 0, .int .i64 (rerr r a b)]) [] [] else K (.tuple [.flt (rspeed r a b), .int .i64 0]) [] []) from by kernel_rfl).trans (show (bif rerr r a b != 0 then K (.tuple [.flt 0, .int .i64 (rerr r a b)]) [] [] else K (.tuple [.flt (rspeed r a b), .int .i64 0]) [] []) = K (.tuple [.flt (rspeed1 r a b), .int .i64 (rerr r a b)]) [] [] from by unfold rspeed1 rerr; cases rok r a b <;> rfl)
def L73 : Ctr := (73, c73) :: L47
theorem L73ok : AllOk L73 := .cons ok73 L47ok
def c166 : FC G := FC.sp [.s .row, .s .still, .s .still] fun (r, a, b, _) => .tuple [.flt (rweight1 r a b), .int .i64 (rerr r a b)]
theorem ok166 : FcOk Try.prog 166 c166 := sp0 L73ok Try.func166 (by kernel_rfl) (by kernel_rfl) (by kernel_rfl) fun (r, a, b, _) K => (show xfn (EV L73 []) Try.f166 [] (encs [.s .row, .s .still, .s .still] (r, a, b, ())) [] K = (bif !rok r a b then K (.tuple [.flt 0, .int .i64 200]) [] [] else K (.tuple [.flt (rweight r a b), .int .i64 0]) [] []) from by kernel_rfl).trans (show (bif !rok r a b then K (.tuple [.flt 0, .int .i64 200]) [] [] else K (.tuple [.flt (rweight r a b), .int .i64 0]) [] []) = K (.tuple [.flt (rweight1 r a b), .int .i64 (rerr r a b)]) [] [] from by unfold rweight1 rerr; cases rok r a b <;> rfl)
def L166 : Ctr := (166, c166) :: L73
theorem L166ok : AllOk L166 := .cons ok166 L73ok
def c165 : FC G := FC.sp [.s .row, .s .still, .s .still] fun (r, a, b, _) => .tuple [.flt (rspeed1 r a b), .int .i64 (rerr r a b)]
theorem ok165 : FcOk Try.prog 165 c165 := sp0 L166ok Try.func165 (by kernel_rfl) (by kernel_rfl) (by kernel_rfl) fun (r, a, b, _) K => (show xfn (EV L166 []) Try.f165 [] (encs [.s .row, .s .still, .s .still] (r, a, b, ())) [] K = (bif !rok r a b then K (.tuple [.flt 0, .int .i64 200]) [] [] else K (.tuple [.flt (rspeed r a b), .int .i64 0]) [] []) from by kernel_rfl).trans (show (bif !rok r a b then K (.tuple [.flt 0, .int .i64 200]) [] [] else K (.tuple [.flt (rspeed r a b), .int .i64 0]) [] []) = K (.tuple [.flt (rspeed1 r a b), .int .i64 (rerr r a b)]) [] [] from by unfold rspeed1 rerr; cases rok r a b <;> rfl)
def L165 : Ctr := (165, c165) :: L166
theorem L165ok : AllOk L165 := .cons ok165 L166ok
end Go.SX

/- PRINTED BY A PROGRAM OF THIS SEAT: contracts, batch e: rows solved. No statement of the seat is proved here. -/
namespace Go.SX
open Go.Proofs
set_option maxRecDepth 20000
theorem max_ge (a b n : Int) : decide (cond (decide (a < b)) b a ≥ n) = (decide (a ≥ n) || decide (b ≥ n)) := by
  rw [Bool.eq_iff_iff]
  by_cases h : a < b <;> simp [h] <;> omega
def c90 : FC G := FC.sp [.s .row, .s .still, .s .still] fun (r, a, b, _) => .tuple [encR .still (rwarmA r a b), encR .still (rwarmB r a b), .int .i64 (rerr r a b)]
theorem ok90 : FcOk Try.prog 90 c90 := sp0 L165ok Try.func90 (by kernel_rfl) (by kernel_rfl) (by kernel_rfl) fun (r, a, b, _) K => (show xfn (EV L165 []) Try.f90 [] (encs [.s .row, .s .still, .s .still] (r, a, b, ())) [] K = (bif rerr r a b != 0 then K (.tuple [encR .still still0, encR .still still0, .int .i64 (rerr r a b)]) [] [] else K (.tuple [encR .still (spush a r.WayA r.TurnA r.Push), encR .still (spush b r.WayB r.TurnB r.Push), .int .i64 0]) [] []) from by kernel_rfl).trans (show (bif rerr r a b != 0 then K (.tuple [encR .still still0, encR .still still0, .int .i64 (rerr r a b)]) [] [] else K (.tuple [encR .still (spush a r.WayA r.TurnA r.Push), encR .still (spush b r.WayB r.TurnB r.Push), .int .i64 0]) [] []) = K (.tuple [encR .still (rwarmA r a b), encR .still (rwarmB r a b), .int .i64 (rerr r a b)]) [] [] from by unfold rwarmA rwarmB rerr; cases rok r a b <;> rfl)
def L90 : Ctr := (90, c90) :: L165
theorem L90ok : AllOk L90 := .cons ok90 L165ok
def c93 : FC G := FC.sp [.s .row, .s .still, .s .still] fun (r, a, b, _) => .tuple [encR .still (rwarmA r a b), encR .still (rwarmB r a b), .int .i64 (rerr r a b)]
theorem ok93 : FcOk Try.prog 93 c93 := sp0 L90ok Try.func93 (by kernel_rfl) (by kernel_rfl) (by kernel_rfl) fun (r, a, b, _) K => (show xfn (EV L90 []) Try.f93 [] (encs [.s .row, .s .still, .s .still] (r, a, b, ())) [] K = (bif !rok r a b then K (.tuple [encR .still still0, encR .still still0, .int .i64 200]) [] [] else K (.tuple [encR .still (spush a r.WayA r.TurnA r.Push), encR .still (spush b r.WayB r.TurnB r.Push), .int .i64 0]) [] []) from by kernel_rfl).trans (show (bif !rok r a b then K (.tuple [encR .still still0, encR .still still0, .int .i64 200]) [] [] else K (.tuple [encR .still (spush a r.WayA r.TurnA r.Push), encR .still (spush b r.WayB r.TurnB r.Push), .int .i64 0]) [] []) = K (.tuple [encR .still (rwarmA r a b), encR .still (rwarmB r a b), .int .i64 (rerr r a b)]) [] [] from by unfold rwarmA rwarmB rerr; cases rok r a b <;> rfl)
def L93 : Ctr := (93, c93) :: L90
theorem L93ok : AllOk L93 := .cons ok93 L90ok
def c74 : FC G := FC.sp [.s .row, .s .still, .s .still] fun (r, a, b, _) => .tuple [encR .row (rone r a b), encR .still (roneA r a b), encR .still (roneB r a b), .int .i64 (rerr r a b)]
theorem ok74 : FcOk Try.prog 74 c74 := sp0 L93ok Try.func74 (by kernel_rfl) (by kernel_rfl) (by kernel_rfl) fun (r, a, b, _) K => (show xfn (EV L93 []) Try.f74 [] (encs [.s .row, .s .still, .s .still] (r, a, b, ())) [] K = (bif rerr r a b != 0 then K (.tuple [encR .row row0, encR .still still0, encR .still still0, .int .i64 (rerr r a b)]) [] [] else bif !flt 0 (rweight r a b) then K (.tuple [encR .row r, encR .still a, encR .still b, .int .i64 0]) [] [] else bif (false || ![rweight r a b, rlack r a b].all ffin) then K (.tuple [encR .row r, encR .still a, encR .still b, .int .i64 0]) [] [] else bif ![rq r a b, fsub (rq r a b) r.Push].all ffin then K (.tuple [encR .row r, encR .still a, encR .still b, .int .i64 0]) [] [] else K (.tuple [encR .row { r with Push := rq r a b }, encR .still (spush a r.WayA r.TurnA (fsub (rq r a b) r.Push)), encR .still (spush b r.WayB r.TurnB (fsub (rq r a b) r.Push)), .int .i64 0]) [] []) from by kernel_rfl).trans (show (bif rerr r a b != 0 then K (.tuple [encR .row row0, encR .still still0, encR .still still0, .int .i64 (rerr r a b)]) [] [] else bif !flt 0 (rweight r a b) then K (.tuple [encR .row r, encR .still a, encR .still b, .int .i64 0]) [] [] else bif (false || ![rweight r a b, rlack r a b].all ffin) then K (.tuple [encR .row r, encR .still a, encR .still b, .int .i64 0]) [] [] else bif ![rq r a b, fsub (rq r a b) r.Push].all ffin then K (.tuple [encR .row r, encR .still a, encR .still b, .int .i64 0]) [] [] else K (.tuple [encR .row { r with Push := rq r a b }, encR .still (spush a r.WayA r.TurnA (fsub (rq r a b) r.Push)), encR .still (spush b r.WayB r.TurnB (fsub (rq r a b) r.Push)), .int .i64 0]) [] []) = K (.tuple [encR .row (rone r a b), encR .still (roneA r a b), encR .still (roneB r a b), .int .i64 (rerr r a b)]) [] [] from by unfold rone roneA roneB rerr rgo; (try simp only [List.all_cons, List.all_nil, Bool.and_true]); cases rok r a b <;> cases flt 0 (rweight r a b) <;> cases ffin (rweight r a b) <;> cases ffin (rlack r a b) <;> cases ffin (rq r a b) <;> cases ffin (fsub (rq r a b) r.Push) <;> rfl)
def L74 : Ctr := (74, c74) :: L93
theorem L74ok : AllOk L74 := .cons ok74 L93ok
def c94 : FC G := FC.sp [.s .row, .s .still, .s .still] fun (r, a, b, _) => .tuple [encR .row (rone r a b), encR .still (roneA r a b), encR .still (roneB r a b), .int .i64 (rerr r a b)]
theorem ok94 : FcOk Try.prog 94 c94 := sp0 L74ok Try.func94 (by kernel_rfl) (by kernel_rfl) (by kernel_rfl) fun (r, a, b, _) K => (show xfn (EV L74 []) Try.f94 [] (encs [.s .row, .s .still, .s .still] (r, a, b, ())) [] K = (bif !rok r a b then K (.tuple [encR .row row0, encR .still still0, encR .still still0, .int .i64 200]) [] [] else bif ((!flt 0 (rweight r a b) || !(ffin (rweight r a b) && ffin (rlack r a b))) || !(ffin (rq r a b) && ffin (fsub (rq r a b) r.Push))) then K (.tuple [encR .row r, encR .still a, encR .still b, .int .i64 0]) [] [] else K (.tuple [encR .row { r with Push := rq r a b }, encR .still (spush a r.WayA r.TurnA (fsub (rq r a b) r.Push)), encR .still (spush b r.WayB r.TurnB (fsub (rq r a b) r.Push)), .int .i64 0]) [] []) from by kernel_rfl).trans (show (bif !rok r a b then K (.tuple [encR .row row0, encR .still still0, encR .still still0, .int .i64 200]) [] [] else bif ((!flt 0 (rweight r a b) || !(ffin (rweight r a b) && ffin (rlack r a b))) || !(ffin (rq r a b) && ffin (fsub (rq r a b) r.Push))) then K (.tuple [encR .row r, encR .still a, encR .still b, .int .i64 0]) [] [] else K (.tuple [encR .row { r with Push := rq r a b }, encR .still (spush a r.WayA r.TurnA (fsub (rq r a b) r.Push)), encR .still (spush b r.WayB r.TurnB (fsub (rq r a b) r.Push)), .int .i64 0]) [] []) = K (.tuple [encR .row (rone r a b), encR .still (roneA r a b), encR .still (roneB r a b), .int .i64 (rerr r a b)]) [] [] from by unfold rone roneA roneB rerr rgo; (try simp only [List.all_cons, List.all_nil, Bool.and_true]); cases rok r a b <;> cases flt 0 (rweight r a b) <;> cases ffin (rweight r a b) <;> cases ffin (rlack r a b) <;> cases ffin (rq r a b) <;> cases ffin (fsub (rq r a b) r.Push) <;> rfl)
def L94 : Ctr := (94, c94) :: L74
theorem L94ok : AllOk L94 := .cons ok94 L74ok
def c76 : FC G := FC.sp [.s .row, .s .i64, .s .i64] fun (r, n, m, _) => .int .i64 (rcheck r n m)
theorem ok76 : FcOk Try.prog 76 c76 := sp0 L94ok Try.func76 (by kernel_rfl) (by kernel_rfl) (by kernel_rfl) fun (r, n, m, _) K => (show xfn (EV L94 []) Try.f76 [] (encs [.s .row, .s .i64, .s .i64] (r, n, m, ())) [] K = (bif ((!rfits r || decide (cond (decide (r.A < r.B)) r.B r.A ≥ m)) || decide (r.Of ≥ n)) then K (.int .i64 200) [] [] else K (.int .i64 0) [] []) from by kernel_rfl).trans (show (bif ((!rfits r || decide (cond (decide (r.A < r.B)) r.B r.A ≥ m)) || decide (r.Of ≥ n)) then K (.int .i64 200) [] [] else K (.int .i64 0) [] []) = K (.int .i64 (rcheck r n m)) [] [] from by rw [max_ge]; unfold rcheck; cases rfits r <;> cases decide (r.A ≥ m) <;> cases decide (r.B ≥ m) <;> cases decide (r.Of ≥ n) <;> rfl)
def L76 : Ctr := (76, c76) :: L94
theorem L76ok : AllOk L76 := .cons ok76 L94ok
def c103 : FC G := FC.sp [.s .row, .s .i64, .s .i64] fun (r, n, m, _) => .int .i64 (rcheck r n m)
theorem ok103 : FcOk Try.prog 103 c103 := sp0 L76ok Try.func103 (by kernel_rfl) (by kernel_rfl) (by kernel_rfl) fun (r, n, m, _) K => (show xfn (EV L76 []) Try.f103 [] (encs [.s .row, .s .i64, .s .i64] (r, n, m, ())) [] K = (bif (((!rfits r || decide (r.A ≥ m)) || decide (r.B ≥ m)) || decide (r.Of ≥ n)) then K (.int .i64 200) [] [] else K (.int .i64 0) [] []) from by kernel_rfl).trans (show (bif (((!rfits r || decide (r.A ≥ m)) || decide (r.B ≥ m)) || decide (r.Of ≥ n)) then K (.int .i64 200) [] [] else K (.int .i64 0) [] []) = K (.int .i64 (rcheck r n m)) [] [] from by unfold rcheck; cases rfits r <;> cases decide (r.A ≥ m) <;> cases decide (r.B ≥ m) <;> cases decide (r.Of ≥ n) <;> rfl)
def L103 : Ctr := (103, c103) :: L76
theorem L103ok : AllOk L103 := .cons ok103 L76ok
end Go.SX

/- Loops told for the arguments at hand; what a list's elements keep to; slices.Clone. No statement of the seat is proved here. -/
namespace Go.SX
open Go.Proofs
set_option maxRecDepth 20000

/-- An answer where something holds. -/
noncomputable def gate {β : Type} (p : Prop) (x : Option β) : Option β := @ite _ p (Classical.propDecidable p) x none
theorem gate_pos {β : Type} {p : Prop} (h : p) (x : Option β) : gate p x = x := by unfold gate; rw [if_pos h]
theorem gate_some {β : Type} {p : Prop} {x : Option β} {o : β} (h : gate p x = some o) : p ∧ x = some o := by
  unfold gate at h
  split at h
  · exact ⟨by assumption, h⟩
  · cases h

/-- A loop's contract at one start. -/
noncomputable def lcOf (hd : LH G) (vs0 : List (RV G)) (bs0 : List (Blk G)) (out : (XE → List (RV G) → List (Blk G) → Ans G) → Ans G) : LC G := ⟨hd, fun vs bs K => gate (vs = vs0 ∧ bs = bs0) (out K)⟩

theorem lcOf_ok {E : Env G} {c : Code} {hd : LH G} {vs0 : List (RV G)} {bs0 : List (Blk G)} {out : (XE → List (RV G) → List (Blk G) → Ans G) → Ans G} (hd1 : distinct (app hd.kb (mapL (fun x => x.2.2) hd.ko)) = true) (h : ∀ K, ∃ n, iter E hd c n vs0 bs0 K = out K) : LpOk E [] c (lcOf hd vs0 bs0 out) :=
  lpOk_of hd1 fun vs bs K o ho => by
    obtain ⟨⟨rfl, rfl⟩, g⟩ := gate_some ho
    obtain ⟨n, hn⟩ := h K
    exact ⟨n, hn.trans g⟩

section
variable {L : Ctr} (hL : AllOk L) {f : Nat} {fn : Func} (hf : Try.prog.funcs[f]? = some fn) (ho : fnOK fn = true)
include hL hf ho

/-- A contract by its transformer, loops told for the arguments at hand. -/
theorem rn_lp {ks : List AK} {run : dens ks → (RV G → List (Blk G) → List (Blk G) → Ans G) → Ans G} (hn : Nat.ble ks.length fn.ntmps = true)
    (hk : ∀ x K o, run x K = some o → ∃ r bs fr, K r bs fr = some o)
    (h : ∀ (x : dens ks), wfs ks x → ∃ lp, LpsOk (EV L lp) [] (bodyD fn) ∧ ∀ K o, run x K = some o → xfn (EV L lp) fn [] (encs ks x) [] K = some o) : FcOk Try.prog f (FC.rn ks run) where
  pure _ _ h := by cases h
  run vs bs K o hr := by
    simp only [FC.rn, FC.ofRun] at hr
    split at hr
    · rename_i x hx
      by_cases hw : wfs ks x
      · obtain ⟨lp, hlp, h⟩ := h x hw
        obtain ⟨o1, o2, o3⟩ := fnOK_spec ho
        have hn' := Nat.le_of_ble_eq_true hn
        have m1 : muIds [] (encs ks x) = [] := by simp [muIds, mutsOf_nil]
        have m2 : muIds [] vs = [] := by simp [muIds, mutsOf_nil]
        obtain ⟨r, bs', fr, h1, h2⟩ := fn_ok (EV_ok hL lp) mixed hf o1 o2 o3 hlp (by rw [encs_len]; exact hn') m1 (h K o hr)
        refine ⟨r, bs', fr, h1, fun cx w us ids hids hl ha hal hi => ?_⟩
        have : ids = [] := by rw [hids]; exact m2
        subst this
        have hb : bs = [] := by cases bs with
          | nil => rfl
          | cons _ _ => simp at hl
        subst hb
        exact h2 cx w us [] m1.symm rfl (decs'_rel hx ha) hal hi
      · obtain ⟨r, bs', fr, h1⟩ := hk x K o hr
        refine ⟨r, bs', fr, h1, fun cx w us ids hids hl ha hal hi => absurd ?_ hw⟩
        obtain ⟨g1, g2⟩ := decs'_rel hx ha
        exact wfs_rel (vs := us.toList) (by rw [Array.length_toList, g1, encs_len]) fun j u r hu hr => g2 j u r (by simpa using hu) hr
    · cases hr

theorem sp_lp {ks : List AK} {res : dens ks → RV G} (hn : Nat.ble ks.length fn.ntmps = true)
    (h : ∀ (x : dens ks), wfs ks x → ∃ lp, LpsOk (EV L lp) [] (bodyD fn) ∧ ∀ K, xfn (EV L lp) fn [] (encs ks x) [] K = K (res x) [] []) : FcOk Try.prog f (FC.sp ks res) where
  pure vs r hr K := by
    simp only [FC.sp, FC.ofPure] at hr ⊢
    split at hr
    · cases hr; rfl
    · cases hr
  run vs bs K o hr := by
    have h1 : FcOk Try.prog f (FC.rn ks fun x K => K (res x) [] []) := rn_lp hL hf ho hn (fun x K o h => ⟨_, _, _, h⟩) fun x hx => by
      obtain ⟨lp, h1, h2⟩ := h x hx
      exact ⟨lp, h1, fun K o hk => by rw [h2]; exact hk⟩
    refine h1.run vs bs K o ?_
    simp only [FC.sp, FC.ofPure] at hr
    simp only [FC.rn, FC.ofRun]
    split at hr
    · rename_i r hr'
      split at hr'
      · cases hr'; exact hr
      · cases hr'
    · cases hr
end

/-- Rounds over the numbers below N. -/
theorem idx_loop {β : Type} {N : Nat} {p : Nat → Bool} {F : Nat → Int → Option β} {R X : Int → Option β}
    (hs : ∀ n (i : Nat), i < N → F (n + 1) (i : Int) = bif p i then R i else F n ((i + 1 : Nat) : Int)) (hx : ∀ n, F (n + 1) (N : Int) = X (N : Nat)) :
    F (N + 1) 0 = bif (List.range N).any p then R ((List.range N).findIdx p : Nat) else X (N : Nat) := by
  have main : ∀ d i : Nat, i + d = N → F (d + 1) (i : Int) = bif (List.range' i d).any p then R (i + (List.range' i d).findIdx p : Nat) else X (N : Nat) := by
    intro d
    induction d with
    | zero =>
      intro i hi
      have : i = N := by omega
      subst this
      rw [hx]
      simp
    | succ d ih =>
      intro i hi
      rw [hs _ _ (by omega), List.range'_succ]
      simp only [List.any_cons, List.findIdx_cons]
      cases h : p i with
      | true => simp
      | false =>
        rw [cond_false, Bool.false_or, ih (i + 1) (by omega), cond_false, show i + 1 + (List.range' (i + 1) d).findIdx p = i + ((List.range' (i + 1) d).findIdx p + 1) by omega]
  have := main N 0 (by omega)
  rw [List.range_eq_range']
  simpa using this
end Go.SX

/- PRINTED BY A PROGRAM OF THIS SEAT: contracts, batch h: touches. No statement of the seat is proved here. -/
namespace Go.SX
open Go.Proofs
set_option maxRecDepth 20000
theorem decG_inv191 {l : List (RV G)} {q : TD .point} (h : decG .point l = some q) : l = encG .point q := by
  simp only [decG] at h
  split at h
  · cases h; rfl
  · cases h
theorem zip_any {α : Type} {same : α → α → Bool} (d : α) : ∀ {xs ys : List α}, xs.length = ys.length → (List.range xs.length).any (fun i => !same (xs.getD i d) (ys.getD i d)) = !(List.zipWith same xs ys).all id := by
  intro xs ys h
  rw [Bool.eq_iff_iff]
  simp only [List.any_eq_true, List.mem_range, Bool.not_eq_true', Bool.not_eq_eq_eq_not, Bool.not_true, List.all_eq_false, id_eq]
  constructor
  · rintro ⟨i, hi, hs⟩
    refine ⟨same xs[i] ys[i], ?_, ?_⟩
    · rw [List.mem_iff_getElem?]
      exact ⟨i, by rw [List.getElem?_zipWith, List.getElem?_eq_getElem hi, List.getElem?_eq_getElem (by omega)]⟩
    · rw [List.getD_eq_getElem?_getD, List.getD_eq_getElem?_getD, List.getElem?_eq_getElem hi, List.getElem?_eq_getElem (by omega)] at hs
      simpa using hs
  · rintro ⟨b, hb, hs⟩
    obtain ⟨i, hi⟩ := List.mem_iff_getElem?.1 hb
    rw [List.getElem?_zipWith] at hi
    cases h1 : xs[i]? with
    | none => rw [h1] at hi; simp at hi
    | some x => cases h2 : ys[i]? with
      | none => rw [h1, h2] at hi; simp at hi
      | some y =>
        rw [h1, h2] at hi
        simp only [Option.some.injEq] at hi
        refine ⟨i, (List.getElem?_eq_some_iff.1 h1).1, ?_⟩
        rw [List.getD_eq_getElem?_getD, List.getD_eq_getElem?_getD, h1, h2]
        simp only [Option.getD_some]
        rw [hi]
        simpa using hs
def c44 : FC G := FC.sp [.s .i64] fun (n, _) => .flt (bif decide (n ≥ 0) then 9218868437227405312 else 18442240474082181120)
theorem ok44 : FcOk Try.prog 44 c44 := sp0 L103ok Try.func44 (by kernel_rfl) (by kernel_rfl) (by kernel_rfl) fun (n, _) K => (show xfn (EV L103 []) Try.f44 [] (encs [.s .i64] (n, ())) [] K = (bif decide (n ≥ 0) then K (.flt 9218868437227405312) [] [] else K (.flt 18442240474082181120) [] []) from by kernel_rfl).trans (show (bif decide (n ≥ 0) then K (.flt 9218868437227405312) [] [] else K (.flt 18442240474082181120) [] []) = K (.flt (bif decide (n ≥ 0) then 9218868437227405312 else 18442240474082181120)) [] [] from by cases decide (n ≥ 0) <;> rfl)
def L44 : Ctr := (44, c44) :: L103
theorem L44ok : AllOk L44 := .cons ok44 L103ok
def c72 : FC G := FC.sp [] fun _ => .tuple [encR .row ⟨0, 1, ⟨0, 13830554455654793216⟩, ⟨0, 4607182418800017408⟩, 0, 0, 0, 0, 9218868437227405312, 0, -1, 0⟩, encR .still ⟨4607182418800017408, 4602678819172646912, ⟨0, 13835058055282163712⟩, 0⟩]
theorem ok72 : FcOk Try.prog 72 c72 := sp0 L44ok Try.func72 (by kernel_rfl) (by kernel_rfl) (by kernel_rfl) fun _ K => by kernel_rfl
def L72 : Ctr := (72, c72) :: L44
theorem L72ok : AllOk L72 := .cons ok72 L44ok
def c75 : FC G := FC.sp [.s .part, .s .part] fun (a, b, _) => .tuple [.flt ((FloatKind.f64.format.sqrt (fmul a.Friction b.Friction)).getD qnan), .flt (fmost a.Bounce b.Bounce)]
theorem ok75 : FcOk Try.prog 75 c75 := sp0 L72ok Try.func75 (by kernel_rfl) (by kernel_rfl) (by kernel_rfl) fun (a, b, _) K => by kernel_rfl
def L75 : Ctr := (75, c75) :: L72
theorem L75ok : AllOk L75 := .cons ok75 L72ok
def c15 : FC G := FC.sp [] fun _ => .bool true
theorem ok15 : FcOk Try.prog 15 c15 := sp0 L75ok Try.func15 (by kernel_rfl) (by kernel_rfl) (by kernel_rfl) fun _ K => by kernel_rfl
def L15 : Ctr := (15, c15) :: L75
theorem L15ok : AllOk L15 := .cons ok15 L75ok
def c190 : FC G := FC.sp [.s .i64] fun (n, _) => .bool (partOk n)
theorem ok190 : FcOk Try.prog 190 c190 := sp0 L15ok Try.func190 (by kernel_rfl) (by kernel_rfl) (by kernel_rfl) fun (n, _) K => by kernel_rfl
def L190 : Ctr := (190, c190) :: L15
theorem L190ok : AllOk L190 := .cons ok190 L15ok
def c145 : FC G := FC.sp [.s .pair] fun (p, _) => .bool (pairOk p)
theorem ok145 : FcOk Try.prog 145 c145 := sp0 L190ok Try.func145 (by kernel_rfl) (by kernel_rfl) (by kernel_rfl) fun (p, _) K => (show xfn (EV L190 []) Try.f145 [] (encs [.s .pair] (p, ())) [] K = (bif ((decide (p.A ≥ 0) && decide (p.B ≥ 0)) && (p.A != p.B)) then (bif (true && partOk p.PartA) then K (.bool (true && partOk p.PartB)) [] [] else K (.bool false) [] []) else K (.bool false) [] []) from by kernel_rfl).trans (show (bif ((decide (p.A ≥ 0) && decide (p.B ≥ 0)) && (p.A != p.B)) then (bif (true && partOk p.PartA) then K (.bool (true && partOk p.PartB)) [] [] else K (.bool false) [] []) else K (.bool false) [] []) = K (.bool (pairOk p)) [] [] from by unfold pairOk; cases ((decide (p.A ≥ 0) && decide (p.B ≥ 0)) && (p.A != p.B)) <;> cases partOk p.PartA <;> cases partOk p.PartB <;> rfl)
def L145 : Ctr := (145, c145) :: L190
theorem L145ok : AllOk L145 := .cons ok145 L190ok
def c149 : FC G := FC.sp [.s .pair] fun (p, _) => .bool (pairOk p)
theorem ok149 : FcOk Try.prog 149 c149 := sp0 L145ok Try.func149 (by kernel_rfl) (by kernel_rfl) (by kernel_rfl) fun (p, _) K => (show xfn (EV L145 []) Try.f149 [] (encs [.s .pair] (p, ())) [] K = (K (.bool ((((((( decide (p.A ≥ 0) && decide (p.B ≥ 0)) && (p.A != p.B)) && decide (p.PartA ≥ 0)) && decide (p.PartA < 8)) && decide (p.PartB ≥ 0)) && decide (p.PartB < 8)))) [] []) from by kernel_rfl).trans (show (K (.bool ((((((( decide (p.A ≥ 0) && decide (p.B ≥ 0)) && (p.A != p.B)) && decide (p.PartA ≥ 0)) && decide (p.PartA < 8)) && decide (p.PartB ≥ 0)) && decide (p.PartB < 8)))) [] []) = K (.bool (pairOk p)) [] [] from by congr 2; unfold pairOk partOk; ac_rfl)
def L149 : Ctr := (149, c149) :: L145
theorem L149ok : AllOk L149 := .cons ok149 L145ok
def c146 : FC G := FC.sp [.s .vec] fun (a, _) => .bool (vunit a)
theorem ok146 : FcOk Try.prog 146 c146 := sp0 L149ok Try.func146 (by kernel_rfl) (by kernel_rfl) (by kernel_rfl) fun (a, _) K => by kernel_rfl
def L146 : Ctr := (146, c146) :: L149
theorem L146ok : AllOk L146 := .cons ok146 L149ok
def c150 : FC G := FC.sp [.s .vec] fun (a, _) => .bool (vunit a)
theorem ok150 : FcOk Try.prog 150 c150 := sp0 L146ok Try.func150 (by kernel_rfl) (by kernel_rfl) (by kernel_rfl) fun (a, _) K => by kernel_rfl
def L150 : Ctr := (150, c150) :: L146
theorem L150ok : AllOk L150 := .cons ok150 L146ok
def c79 : FC G := FC.sp [.s .f64] fun (a, _) => .flt (freal a)
theorem ok79 : FcOk Try.prog 79 c79 := sp0 L150ok Try.func79 (by kernel_rfl) (by kernel_rfl) (by kernel_rfl) fun (a, _) K => (show xfn (EV L150 []) Try.f79 [] (encs [.s .f64] (a, ())) [] K = (bif fwithin a 4787326403894837248 then K (.flt a) [] [] else K (.flt 0) [] []) from by kernel_rfl).trans (show (bif fwithin a 4787326403894837248 then K (.flt a) [] [] else K (.flt 0) [] []) = K (.flt (freal a)) [] [] from by unfold freal; cases fwithin a 4787326403894837248 <;> rfl)
def L79 : Ctr := (79, c79) :: L150
theorem L79ok : AllOk L79 := .cons ok79 L150ok
def c82 : FC G := FC.sp [.s .f64] fun (a, _) => .flt (freal a)
theorem ok82 : FcOk Try.prog 82 c82 := sp0 L79ok Try.func82 (by kernel_rfl) (by kernel_rfl) (by kernel_rfl) fun (a, _) K => (show xfn (EV L79 []) Try.f82 [] (encs [.s .f64] (a, ())) [] K = (bif fle 14010698440749613056 a && fle a 4787326403894837248 then K (.flt a) [] [] else K (.flt 0) [] []) from by kernel_rfl).trans (show (bif fle 14010698440749613056 a && fle a 4787326403894837248 then K (.flt a) [] [] else K (.flt 0) [] []) = K (.flt (freal a)) [] [] from by unfold freal fwithin; rw [show fneg 4787326403894837248 = 14010698440749613056 by decide]; cases fle 14010698440749613056 a && fle a 4787326403894837248 <;> rfl)
def L82 : Ctr := (82, c82) :: L79
theorem L82ok : AllOk L82 := .cons ok82 L79ok
def c147 : FC G := FC.sp [.s .point, .p .point] fun (q, p, _) => .bool (q.ID == p.ID)
theorem ok147 : FcOk Try.prog 147 c147 := sp0 L82ok Try.func147 (by kernel_rfl) (by kernel_rfl) (by kernel_rfl) fun (q, p, _) K => by kernel_rfl
def L147 : Ctr := (147, c147) :: L82
theorem L147ok : AllOk L147 := .cons ok147 L82ok
def lc191 : LC G := ⟨hdFind, fun vs bs K => match vs, bs with
  | [.rslice .point xs, .func 147 [.rptr cs 0], .int .i64 0, .int .i64 n, .int .i64 i], [] => match decG .point cs with
    | some p => bif i == 0 && (n == (xs.length : Int) && decide (xs.length < 9223372036854775808)) then
      (bif xs.any (fun q => q.ID == p.ID) then K .ret [.rslice .point xs, .func 147 [.rptr cs 0], .int .i64 (xs.findIdx (fun q => q.ID == p.ID) : Nat), .int .i64 n, .int .i64 (xs.findIdx (fun q => q.ID == p.ID) : Nat)] []
       else K (.exit 0) [.rslice .point xs, .func 147 [.rptr cs 0], .int .i64 0, .int .i64 n, .int .i64 (xs.length : Nat)] []) else none
    | none => none
  | _, _ => none⟩
theorem step191 (p : TD .point) (xs : List (TD .point)) (n : Nat) (i : Int) (K) : iter (EV L147 [(2, lc191)]) hdFind (lpBody Try.f191 0) (n + 1) [.rslice .point xs, .func 147 [.rptr (encG .point p) 0], .int .i64 0, .int .i64 xs.length, .int .i64 i] [] K =
    bif decide (i < (xs.length : Int)) then (getI xs i).bind fun x => bif (fun q => q.ID == p.ID) x then K .ret [.rslice .point xs, .func 147 [.rptr (encG .point p) 0], .int .i64 i, .int .i64 xs.length, .int .i64 i] [] else
      iter (EV L147 [(2, lc191)]) hdFind (lpBody Try.f191 0) n [.rslice .point xs, .func 147 [.rptr (encG .point p) 0], .int .i64 0, .int .i64 xs.length, .int .i64 (IntKind.i64.wrap (i + 1))] [] K
    else K (.exit 0) [.rslice .point xs, .func 147 [.rptr (encG .point p) 0], .int .i64 0, .int .i64 xs.length, .int .i64 i] [] := by kernel_rfl
theorem lp191 : LpOk (EV L147 [(2, lc191)]) [] (lpBody Try.f191 0) lc191 := lpOk_of (by kernel_rfl) fun vs bs K o h => by
  simp only [lc191] at h
  split at h
  · rename_i xs cs n i
    split at h
    · rename_i p hq
      obtain ⟨hc, h2⟩ := cond_none h
      simp only [Bool.and_eq_true, beq_iff_eq, decide_eq_true_eq] at hc
      obtain ⟨rfl, rfl, hc⟩ := hc
      have e := decG_inv191 hq
      subst e
      exact ⟨_, (find_loop (F := fun n i => iter (EV L147 [(2, lc191)]) hdFind (lpBody Try.f191 0) n [.rslice .point xs, .func 147 [.rptr (encG .point p) 0], .int .i64 0, .int .i64 xs.length, .int .i64 i] [] K) (R := fun i => K .ret [.rslice .point xs, .func 147 [.rptr (encG .point p) 0], .int .i64 i, .int .i64 xs.length, .int .i64 i] []) (X := fun i => K (.exit 0) [.rslice .point xs, .func 147 [.rptr (encG .point p) 0], .int .i64 0, .int .i64 xs.length, .int .i64 i] []) (fun n i => step191 p xs n i K) hc).trans h2⟩
    · cases h
  · cases h
def c191 : FC G := FC.sp [.l .point, .fp 147 .point] fun (xs, p, _) => .int .i64 (bif xs.any (fun q => q.ID == p.ID) then (xs.findIdx (fun q => q.ID == p.ID) : Nat) else -1)
theorem ok191 : FcOk Try.prog 191 c191 := sp_wf L147ok Try.func191 (by kernel_rfl) [(2, lc191)] (lps1 (i := 2) (by kernel_rfl) rfl lp191) (by kernel_rfl) fun (xs, p, _) ⟨hx, _⟩ K => (show xfn (EV L147 [(2, lc191)]) Try.f191 [] (encs [.l .point, .fp 147 .point] (xs, p, ())) [] K = (bif (0 : Int) == 0 && ((xs.length : Int) == (xs.length : Int) && decide (xs.length < 9223372036854775808)) then (bif xs.any (fun q => q.ID == p.ID) then K (.int .i64 (xs.findIdx (fun q => q.ID == p.ID) : Nat)) [] [] else K (.int .i64 (-1)) [] []) else none) from by kernel_rfl).trans (show (bif (0 : Int) == 0 && ((xs.length : Int) == (xs.length : Int) && decide (xs.length < 9223372036854775808)) then (bif xs.any (fun q => q.ID == p.ID) then K (.int .i64 (xs.findIdx (fun q => q.ID == p.ID) : Nat)) [] [] else K (.int .i64 (-1)) [] []) else none) = K (.int .i64 (bif xs.any (fun q => q.ID == p.ID) then (xs.findIdx (fun q => q.ID == p.ID) : Nat) else -1)) [] [] from by have hx : xs.length < 9223372036854775808 := hx; simp only [BEq.rfl, hx, decide_true, Bool.and_self, cond_true]; cases xs.any (fun q => q.ID == p.ID) <;> rfl)
def L191 : Ctr := (191, c191) :: L147
theorem L191ok : AllOk L191 := .cons ok191 L147ok
def c148 : FC G := FC.sp [.l .point, .fp 147 .point] fun (xs, p, _) => .bool (xs.any (fun q => q.ID == p.ID))
theorem ok148 : FcOk Try.prog 148 c148 := sp0 L191ok Try.func148 (by kernel_rfl) (by kernel_rfl) (by kernel_rfl) fun (xs, p, _) K => (show xfn (EV L191 []) Try.f148 [] (encs [.l .point, .fp 147 .point] (xs, p, ())) [] K = (K (.bool (decide ((bif xs.any (fun q => q.ID == p.ID) then ((xs.findIdx (fun q => q.ID == p.ID) : Nat) : Int) else -1) ≥ 0))) [] []) from by kernel_rfl).trans (by rw [idx_ge])
def L148 : Ctr := (148, c148) :: L191
theorem L148ok : AllOk L148 := .cons ok148 L191ok
def c85 : FC G := FC.sp [.s .row, .s .row] fun (a, b, _) => .bool (rsame a b)
theorem ok85 : FcOk Try.prog 85 c85 := sp0 L148ok Try.func85 (by kernel_rfl) (by kernel_rfl) (by kernel_rfl) fun (a, b, _) K => by kernel_rfl
def L85 : Ctr := (85, c85) :: L148
theorem L85ok : AllOk L85 := .cons ok85 L148ok
def hdSame : LH G := ⟨[0, 1, 4, 5], [], []⟩
def V21 (xs ys : List (TD .row)) : List (RV G) := [.rslice .row xs, .rslice .row ys, .bool false, .int .i64 0]
def W21 (xs ys : List (TD .row)) (b : Bool) (i : Int) : List (RV G) := [.rslice .row xs, .rslice .row ys, .bool b, .int .i64 i]
def OUT21 (xs ys : List (TD .row)) (K : XE → List (RV G) → List (Blk G) → Ans G) : Ans G := bif (List.range xs.length).any (fun i => !rsame (xs.getD i row0) (ys.getD i row0)) then K .ret (W21 xs ys false ((List.range xs.length).findIdx (fun i => !rsame (xs.getD i row0) (ys.getD i row0)) : Nat)) [] else K (.exit 0) (W21 xs ys false (xs.length : Nat)) []
theorem step21 (xs ys : List (TD .row)) (n : Nat) (i : Int) (K) : iter (EV L85 [(4, lcOf hdSame (V21 xs ys) [] (OUT21 xs ys))]) hdSame (lpBody Try.f21 0) (n + 1) (W21 xs ys false i) [] K = bif decide (i < (xs.length : Int)) then (getI xs i).bind fun x => (getI ys i).bind fun y => bif !rsame x y then K .ret (W21 xs ys false i) [] else iter (EV L85 [(4, lcOf hdSame (V21 xs ys) [] (OUT21 xs ys))]) hdSame (lpBody Try.f21 0) n (W21 xs ys false (IntKind.i64.wrap (i + 1))) [] K else K (.exit 0) (W21 xs ys false i) [] := by kernel_rfl
theorem lp21 (xs ys : List (TD .row)) (hl : xs.length = ys.length) (hx : xs.length < 9223372036854775808) : LpOk (EV L85 [(4, lcOf hdSame (V21 xs ys) [] (OUT21 xs ys))]) [] (lpBody Try.f21 0) (lcOf hdSame (V21 xs ys) [] (OUT21 xs ys)) := lcOf_ok (by kernel_rfl) fun K => ⟨_, idx_loop (N := xs.length) (p := fun i => !rsame (xs.getD i row0) (ys.getD i row0)) (F := fun n i => iter (EV L85 [(4, lcOf hdSame (V21 xs ys) [] (OUT21 xs ys))]) hdSame (lpBody Try.f21 0) n (W21 xs ys false i) [] K) (R := fun i => K .ret (W21 xs ys false i) []) (X := fun i => K (.exit 0) (W21 xs ys false i) [])
  (fun n i hi => by
    rw [step21, decide_eq_true (show (i : Int) < (xs.length : Int) by omega), cond_true]
    simp only [getI_at hi, getI_at (show i < ys.length by omega), Option.bind_some, wrap_succ (show i + 1 < 9223372036854775808 by omega)]
    simp only [List.getD_eq_getElem?_getD, List.getElem?_eq_getElem hi, List.getElem?_eq_getElem (show i < ys.length by omega), Option.getD_some])
  (fun n => by rw [step21, decide_eq_false (by omega)]; rfl)⟩
def c21 : FC G := FC.sp [.l .row, .l .row] fun (xs, ys, _) => .bool (lsame rsame xs ys)
theorem x21 (xs ys : List (TD .row)) (K) : xfn (EV L85 [(4, lcOf hdSame (V21 xs ys) [] (OUT21 xs ys))]) Try.f21 [] (encs [.l .row, .l .row] (xs, ys, ())) [] K = K (.bool (lsame rsame xs ys)) [] [] := (show _ = (bif (xs.length : Int) != (ys.length : Int) then K (.bool false) [] [] else gate (V21 xs ys = V21 xs ys ∧ ([] : List (Blk G)) = []) (bif (List.range xs.length).any (fun i => !rsame (xs.getD i row0) (ys.getD i row0)) then K (.bool false) [] [] else K (.bool true) [] [])) from by kernel_rfl).trans (by
  unfold lsame
  rw [gate_pos ⟨rfl, rfl⟩]
  by_cases h : xs.length = ys.length
  · rw [zip_any row0 h]
    simp only [h, bne_self_eq_false, BEq.rfl, Bool.true_and, cond_false]
    cases (List.zipWith rsame xs ys).all id <;> rfl
  · have h1 : ((xs.length : Int) != (ys.length : Int)) = true := by rw [bne_iff_ne]; omega
    have h2 : (xs.length == ys.length) = false := by simpa using h
    rw [h1, h2]
    rfl)
theorem xn21 (xs ys : List (TD .row)) (h : xs.length ≠ ys.length) (K) : xfn (EV L85 []) Try.f21 [] (encs [.l .row, .l .row] (xs, ys, ())) [] K = K (.bool (lsame rsame xs ys)) [] [] := (show _ = (bif (xs.length : Int) != (ys.length : Int) then K (.bool false) [] [] else none) from by kernel_rfl).trans (by
  have h1 : ((xs.length : Int) != (ys.length : Int)) = true := by rw [bne_iff_ne]; omega
  have h2 : (xs.length == ys.length) = false := by simpa using h
  unfold lsame
  rw [h1, h2]
  rfl)
theorem ok21 : FcOk Try.prog 21 c21 := sp_lp L85ok Try.func21 (by kernel_rfl) (by kernel_rfl) fun (xs, ys, _) ⟨hx, _, _⟩ => by
  by_cases h : xs.length = ys.length
  · exact ⟨[(4, lcOf hdSame (V21 xs ys) [] (OUT21 xs ys))], lps1 (i := 4) (by kernel_rfl) rfl (lp21 xs ys h hx), fun K => x21 xs ys K⟩
  · exact ⟨[], LpsOk.of _ fun i b lc _ hi => (by cases hi), fun K => xn21 xs ys h K⟩
def L21 : Ctr := (21, c21) :: L85
theorem L21ok : AllOk L21 := .cons ok21 L85ok
end Go.SX

/- slices.Clone: whether what comes in is nil or not. No statement of the seat is proved here. -/
namespace Go.SX
open Go.Proofs
set_option maxRecDepth 20000

theorem CallPost.nil_own {cx : Cx} {w w' : World} {v : Value} {c : TC} (h : CallPost cx [] w (.nilslice : RV G) [] [] v w') : CallPost cx [] w (.own 0 c 0 : RV G) [] [.rows c []] v w' := by
  obtain ⟨φr, St', hr, hs, hf, hm, hfr⟩ := h
  cases hr
  refine ⟨fun j => if j = 0 then some ⟨none, 0, 0⟩ else none, St', .own0 rfl, hs, ⟨fun j hj => ?_, fun j x hx => ?_, fun j j' l l' k h1 h2 h3 h4 => ?_⟩, hm, hfr⟩
  · cases j with
    | zero => simp at hj
    | succ j => rfl
  · cases j with
    | zero =>
      simp only [List.getElem?_cons_zero, Option.some.injEq] at hx
      subst hx
      exact ⟨rfl, _, rfl, ⟨rfl, rfl⟩, fun k hk => by cases hk⟩
    | succ j => simp at hx
  · split at h1
    · cases h1; cases h3
    · cases h1

theorem clone_ok {L : Ctr} (hL : AllOk L) {f : Nat} {fn : Func} (hf : Try.prog.funcs[f]? = some fn) (ho : fnOK fn = true) (hl : loops (bodyD fn) = []) (hn : Nat.ble 1 fn.ntmps = true) {c : TC} {b : Nat}
    (e1 : ∀ x r K, xfn (EV L []) fn [] [.rslice c (x :: r)] [] K = bif decide ((x :: r).length * b ≤ 2 ^ 47) then K (.own 0 c (x :: r).length) [] [.rows c (x :: r)] else none)
    (e2 : ∀ K, xfn (EV L []) fn [] [.nilslice] [] K = K .nilslice [] []) (e3 : ∀ K, xfn (EV L []) fn [] [.eslice] [] K = bif decide (0 * b ≤ 2 ^ 47) then K (.own 0 c 0) [] [.rows c []] else none) :
    FcOk Try.prog f (FC.rn [.l c] fun (xs, _) K => bif decide (xs.length * b ≤ 2 ^ 47) then K (.own 0 c xs.length) [] [.rows c xs] else none) where
  pure _ _ h := by cases h
  run vs bs K o hr := by
    simp only [FC.rn, FC.ofRun] at hr
    split at hr
    · rename_i x hx
      obtain ⟨xs, ⟨⟩⟩ := x
      obtain ⟨o1, o2, o3⟩ := fnOK_spec ho
      have hn' := Nat.le_of_ble_eq_true hn
      have m2 : muIds [] vs = [] := by simp [muIds, mutsOf_nil]
      obtain ⟨hb, hr⟩ := cond_none hr
      have go : ∀ (a : RV G) (r : RV G) (bs' fr : List (Blk G)), xfn (EV L []) fn [] [a] [] (fun r bs fr => some (r, bs, fr)) = some (r, bs', fr) → ∀ (cx : Cx) (w : World) (us : Array Value), ArgsRel cx.φ cx.St us [a] → Inv w.heap.size (Mof cx []) cx (startM [] []) w → CallsTo Try.prog f us w (CallPost cx [] w r bs' fr) := fun a r bs' fr hx cx w us ha hi => by
        obtain ⟨r1, b1, f1, h1, h2⟩ := fn_ok (EV_ok hL []) mixed hf o1 o2 o3 (.none hl) (by exact hn') (by simp [muIds, mutsOf_nil]) hx
        cases h1
        exact h2 cx w us [] (by simp [muIds, mutsOf_nil]) rfl ha (fun x hx => by simp at hx) hi
      refine ⟨_, _, _, hr, fun cx w us ids hids hl ha hal hi => ?_⟩
      have : ids = [] := by rw [hids]; exact m2
      subst this
      have hb0 : bs = [] := by cases bs with
        | nil => rfl
        | cons _ _ => simp at hl
      subst hb0
      have ha1 := decs'_rel hx ha
      cases xs with
      | cons x r => exact go (.rslice c (x :: r)) _ _ _ ((e1 x r _).trans (by rw [show decide ((x :: r).length * b ≤ 2 ^ 47) = true from hb]; rfl)) cx w us ha1 hi
      | nil =>
        obtain ⟨v, rfl, hv⟩ := ha1.one
        have mk : ∀ a : RV G, RVal cx.φ cx.St v a → ArgsRel cx.φ cx.St #[v] [a] := fun a h => ⟨rfl, fun j u r hu hr => by
          cases j with
          | zero => cases hu; cases hr; exact h
          | succ j => simp at hr⟩
        have hsplit : RVal cx.φ cx.St v (.nilslice : RV G) ∨ RVal cx.φ cx.St v (.eslice : RV G) := by
          cases hv with
          | rslice hn' hk hc => cases hn'; exact .inr .eslice
          | @rslice0 _ a cap h0 => cases a with
            | none => rw [h0 rfl]; exact .inl .nilslice
            | some a => exact .inr .eslice
        rcases hsplit with h | h
        · exact (go _ _ _ _ (e2 _) cx w _ (mk _ h) hi).mono fun v w' hp => hp.nil_own
        · exact go _ _ _ _ (by rw [e3, Nat.zero_mul]; rfl) cx w _ (mk _ h) hi
    · cases hr

def c78 : FC G := FC.rn [.l .point] fun (xs, _) K => bif decide (xs.length * 48 ≤ 2 ^ 47) then K (.own 0 .point xs.length) [] [.rows .point xs] else none
theorem ok78 : FcOk Try.prog 78 c78 := clone_ok L21ok Try.func78 (by kernel_rfl) (by kernel_rfl) (by kernel_rfl) (fun x r K => by kernel_rfl) (fun K => by kernel_rfl) (fun K => by kernel_rfl)
def L78 : Ctr := (78, c78) :: L21
theorem L78ok : AllOk L78 := .cons ok78 L21ok
def c88 : FC G := FC.rn [.l .row] fun (xs, _) K => bif decide (xs.length * 112 ≤ 2 ^ 47) then K (.own 0 .row xs.length) [] [.rows .row xs] else none
theorem ok88 : FcOk Try.prog 88 c88 := clone_ok L78ok Try.func88 (by kernel_rfl) (by kernel_rfl) (by kernel_rfl) (fun x r K => by kernel_rfl) (fun K => by kernel_rfl) (fun K => by kernel_rfl)
def L88 : Ctr := (88, c88) :: L78
theorem L88ok : AllOk L88 := .cons ok88 L78ok
def c89 : FC G := FC.rn [.l .still] fun (xs, _) K => bif decide (xs.length * 40 ≤ 2 ^ 47) then K (.own 0 .still xs.length) [] [.rows .still xs] else none
theorem ok89 : FcOk Try.prog 89 c89 := clone_ok L88ok Try.func89 (by kernel_rfl) (by kernel_rfl) (by kernel_rfl) (fun x r K => by kernel_rfl) (fun K => by kernel_rfl) (fun K => by kernel_rfl)
def L89 : Ctr := (89, c89) :: L88
theorem L89ok : AllOk L89 := .cons ok89 L88ok
end Go.SX

/- PRINTED BY A PROGRAM OF THIS SEAT: contracts, batch j: touches held against each other. No statement of the seat is proved here. -/
namespace Go.SX
open Go.Proofs
set_option maxRecDepth 20000
def V84 (xs ys : List (TD .point)) : List (RV G) := [.rslice .point xs, .rslice .point ys, .bool false, .int .i64 0]
def W84 (xs ys : List (TD .point)) (b : Bool) (i : Int) : List (RV G) := [.rslice .point xs, .rslice .point ys, .bool b, .int .i64 i]
def OUT84 (xs ys : List (TD .point)) (K : XE → List (RV G) → List (Blk G) → Ans G) : Ans G := bif (List.range xs.length).any (fun i => !psame (xs.getD i point0) (ys.getD i point0)) then K .ret (W84 xs ys false ((List.range xs.length).findIdx (fun i => !psame (xs.getD i point0) (ys.getD i point0)) : Nat)) [] else K (.exit 0) (W84 xs ys false (xs.length : Nat)) []
theorem step84 (xs ys : List (TD .point)) (n : Nat) (i : Int) (K) : iter (EV L89 [(4, lcOf hdSame (V84 xs ys) [] (OUT84 xs ys))]) hdSame (lpBody Try.f84 0) (n + 1) (W84 xs ys false i) [] K = bif decide (i < (xs.length : Int)) then (getI xs i).bind fun p => (getI ys i).bind fun q => bif !vsame p.At q.At then K .ret (W84 xs ys false i) [] else (getI xs i).bind fun p => (getI ys i).bind fun q => bif (false || (p.ID != q.ID)) then K .ret (W84 xs ys false i) [] else (getI xs i).bind fun p => (getI ys i).bind fun q => bif (false || !fis p.Depth q.Depth) then K .ret (W84 xs ys false i) [] else (getI xs i).bind fun p => (getI ys i).bind fun q => bif (false || !fis p.Push q.Push) then K .ret (W84 xs ys false i) [] else (getI xs i).bind fun p => (getI ys i).bind fun q => bif (false || !fis p.Drag q.Drag) then K .ret (W84 xs ys false i) [] else iter (EV L89 [(4, lcOf hdSame (V84 xs ys) [] (OUT84 xs ys))]) hdSame (lpBody Try.f84 0) n (W84 xs ys false (IntKind.i64.wrap (i + 1))) [] K else K (.exit 0) (W84 xs ys false i) [] := by kernel_rfl
theorem lp84 (xs ys : List (TD .point)) (hl : xs.length = ys.length) (hx : xs.length < 9223372036854775808) : LpOk (EV L89 [(4, lcOf hdSame (V84 xs ys) [] (OUT84 xs ys))]) [] (lpBody Try.f84 0) (lcOf hdSame (V84 xs ys) [] (OUT84 xs ys)) := lcOf_ok (by kernel_rfl) fun K => ⟨_, idx_loop (N := xs.length) (p := fun i => !psame (xs.getD i point0) (ys.getD i point0)) (F := fun n i => iter (EV L89 [(4, lcOf hdSame (V84 xs ys) [] (OUT84 xs ys))]) hdSame (lpBody Try.f84 0) n (W84 xs ys false i) [] K) (R := fun i => K .ret (W84 xs ys false i) []) (X := fun i => K (.exit 0) (W84 xs ys false i) [])
  (fun n i hi => by
    rw [step84, decide_eq_true (show (i : Int) < (xs.length : Int) by omega), cond_true]
    simp only [getI_at hi, getI_at (show i < ys.length by omega), Option.bind_some, wrap_succ (show i + 1 < 9223372036854775808 by omega)]
    simp only [List.getD_eq_getElem?_getD, List.getElem?_eq_getElem hi, List.getElem?_eq_getElem (show i < ys.length by omega), Option.getD_some]
    generalize xs[i] = p
    generalize ys[i]'(by omega) = q
    unfold psame
    rw [show (p.ID != q.ID) = !(p.ID == q.ID) from rfl]
    cases vsame p.At q.At <;> cases p.ID == q.ID <;> cases fis p.Depth q.Depth <;> cases fis p.Push q.Push <;> cases fis p.Drag q.Drag <;> rfl)
  (fun n => by rw [step84, decide_eq_false (by omega)]; rfl)⟩
def c84 : FC G := FC.sp [.l .point, .l .point] fun (xs, ys, _) => .bool (lsame psame xs ys)
theorem x84 (xs ys : List (TD .point)) (K) : xfn (EV L89 [(4, lcOf hdSame (V84 xs ys) [] (OUT84 xs ys))]) Try.f84 [] (encs [.l .point, .l .point] (xs, ys, ())) [] K = K (.bool (lsame psame xs ys)) [] [] := (show _ = (bif (xs.length : Int) != (ys.length : Int) then K (.bool false) [] [] else gate (V84 xs ys = V84 xs ys ∧ ([] : List (Blk G)) = []) (bif (List.range xs.length).any (fun i => !psame (xs.getD i point0) (ys.getD i point0)) then K (.bool false) [] [] else K (.bool true) [] [])) from by kernel_rfl).trans (by
  unfold lsame
  rw [gate_pos ⟨rfl, rfl⟩]
  by_cases h : xs.length = ys.length
  · rw [zip_any point0 h]
    simp only [h, bne_self_eq_false, BEq.rfl, Bool.true_and, cond_false]
    cases (List.zipWith psame xs ys).all id <;> rfl
  · have h1 : ((xs.length : Int) != (ys.length : Int)) = true := by rw [bne_iff_ne]; omega
    have h2 : (xs.length == ys.length) = false := by simpa using h
    rw [h1, h2]
    rfl)
theorem xn84 (xs ys : List (TD .point)) (h : xs.length ≠ ys.length) (K) : xfn (EV L89 []) Try.f84 [] (encs [.l .point, .l .point] (xs, ys, ())) [] K = K (.bool (lsame psame xs ys)) [] [] := (show _ = (bif (xs.length : Int) != (ys.length : Int) then K (.bool false) [] [] else none) from by kernel_rfl).trans (by
  have h1 : ((xs.length : Int) != (ys.length : Int)) = true := by rw [bne_iff_ne]; omega
  have h2 : (xs.length == ys.length) = false := by simpa using h
  unfold lsame
  rw [h1, h2]
  rfl)
theorem ok84 : FcOk Try.prog 84 c84 := sp_lp L89ok Try.func84 (by kernel_rfl) (by kernel_rfl) fun (xs, ys, _) ⟨hx, _, _⟩ => by
  by_cases h : xs.length = ys.length
  · exact ⟨[(4, lcOf hdSame (V84 xs ys) [] (OUT84 xs ys))], lps1 (i := 4) (by kernel_rfl) rfl (lp84 xs ys h hx), fun K => x84 xs ys K⟩
  · exact ⟨[], LpsOk.of _ fun i b lc _ hi => (by cases hi), fun K => xn84 xs ys h K⟩
def L84 : Ctr := (84, c84) :: L89
theorem L84ok : AllOk L84 := .cons ok84 L89ok
def c19 : FC G := FC.sp [.s .touch, .s .touch] fun (a, b, _) => .bool (tsame a b)
theorem ok19 : FcOk Try.prog 19 c19 := sp0 L84ok Try.func19 (by kernel_rfl) (by kernel_rfl) (by kernel_rfl) fun (a, b, _) K => by kernel_rfl
def L19 : Ctr := (19, c19) :: L84
theorem L19ok : AllOk L19 := .cons ok19 L84ok
def touchOwn (t : GTouch) (n : Nat) : RV G := .agg [.int .i64 t.Pair.A, .int .i64 t.Pair.PartA, .int .i64 t.Pair.B, .int .i64 t.Pair.PartB, .bool t.Sensor, .flt t.Normal.X, .flt t.Normal.Y, .own 0 .point n]
def c81 : FC G := FC.rn [.s .touch] fun (t, _) K => bif decide (t.Points.length * 48 ≤ 2 ^ 47) then K (touchOwn t t.Points.length) [] [.rows .point t.Points] else none
theorem ok81 : FcOk Try.prog 81 c81 := rn0 L19ok Try.func81 (by kernel_rfl) (by kernel_rfl) (by kernel_rfl) fun (t, _) K => by kernel_rfl
def L81 : Ctr := (81, c81) :: L19
theorem L81ok : AllOk L81 := .cons ok81 L19ok
end Go.SX

/- touch.Check and the reference's. No statement of the seat is proved here. -/
namespace Go.SX
open Go.Proofs
set_option maxRecDepth 20000

/-! ### bounds, by the sign and without -/
theorem neg_fabs (a : Nat) : neg? (fabs a) = false ∧ rung (fabs a) = rung a := by
  have : fabs a < 9223372036854775808 := by unfold fabs; omega
  refine ⟨by unfold neg?; rw [Nat.div_eq_of_lt this]; rfl, by unfold rung fabs; omega⟩
theorem isNan_fabs (a : Nat) : isNan (fabs a) = isNan a := by rw [isNan_rung, isNan_rung, (neg_fabs a).2]
theorem val_fabs (a : Nat) : val (fabs a) = (mg (rung a) : Int) := by unfold val; rw [(neg_fabs a).1, (neg_fabs a).2]; rfl
theorem val_cases (a : Nat) : val a = (mg (rung a) : Int) ∨ val a = -(mg (rung a) : Int) := by
  unfold val sg
  split
  · exact .inr rfl
  · exact .inl rfl
theorem within_abs {a m : Nat} (h1 : isNan m = false) (h2 : isNan (fneg m) = false) (h3 : val (fneg m) = -val m) : fwithin a m = fawithin a m := by
  unfold fwithin fawithin
  cases h : isNan a with
  | true => rw [fle_nan (.inr h), fle_nan (.inl ((isNan_fabs a).trans h))]; rfl
  | false =>
    rw [fle_val h2 h, fle_val h h1, fle_val ((isNan_fabs a).trans h) h1, val_fabs, h3, Bool.eq_iff_iff]
    simp only [Bool.and_eq_true, decide_eq_true_eq]
    have := val_cases a
    omega
theorem within_far (a : Nat) : fwithin a 4796333603149578240 = fawithin a 4796333603149578240 := within_abs (by decide) (by decide) (by decide)
theorem within_max (a : Nat) : fwithin a 4787326403894837248 = fawithin a 4787326403894837248 := within_abs (by decide) (by decide) (by decide)
theorem within_two (a : Nat) : fwithin a 4611686018427387904 = fawithin a 4611686018427387904 := within_abs (by decide) (by decide) (by decide)
theorem within_low (a : Nat) : (fwithin a 4796333603149578240 && !flt a 0) = (fle 0 a && fle a 4796333603149578240) := by
  have h0 : isNan 0 = false := by decide
  have h1 : isNan 4796333603149578240 = false := by decide
  have h2 : isNan (fneg 4796333603149578240) = false := by decide
  have h3 : val (fneg 4796333603149578240) = -val 4796333603149578240 := by decide
  have h4 : 0 ≤ val 4796333603149578240 := by decide
  have h5 : val 0 = 0 := by decide
  unfold fwithin
  cases h : isNan a with
  | true => rw [fle_nan (.inr h), fle_nan (.inr h)]; rfl
  | false =>
    rw [fle_val h2 h, fle_val h h1, fle_val h0 h, flt_val h h0, h3, h5, Bool.eq_iff_iff]
    simp only [Bool.and_eq_true, decide_eq_true_eq, Bool.not_eq_true', decide_eq_false_iff_not]
    omega

/-! ### touch.Check -/
def hd77 : LH G := ⟨[1, 2, 35, 36, 37], [], [1]⟩
def W77 (t : GTouch) (e i : Int) : List (RV G) := [.ptr 1 0 0 0, .int .i64 e, .rslice .point t.Points, .int .i64 t.Points.length, .int .i64 i]
def B77 (t : GTouch) : List (Blk G) := [.cells (encG .touch t)]
def OUT77 (t : GTouch) (K : XE → List (RV G) → List (Blk G) → Ans G) : Ans G :=
  bif (List.range t.Points.length).any (badAt t.Points) then K .ret (W77 t 2 ((List.range t.Points.length).findIdx (badAt t.Points) : Nat)) (B77 t) else K (.exit 0) (W77 t 0 (t.Points.length : Nat)) (B77 t)
noncomputable def E77 (t : GTouch) : List (Nat × LC G) := [(4, lcOf hd77 (W77 t 0 0) (B77 t) (OUT77 t))]
theorem step77 (t : GTouch) (n : Nat) (i : Int) (K) : iter (EV L81 (E77 t)) hd77 (lpBody Try.f77 0) (n + 1) (W77 t 0 i) (B77 t) K = bif decide (i < (t.Points.length : Int)) then (getI t.Points i).bind fun p =>
    bif ((((!vwithin p.At 4796333603149578240 || !fwithin p.Depth 4796333603149578240) || flt p.Depth 0) || !fwithin p.Push 4787326403894837248) || !fwithin p.Drag 4787326403894837248) then K .ret (W77 t 2 i) (B77 t)
    else bif decide (0 ≤ i ∧ i ≤ (t.Points.length : Int)) then
      bif (false || (t.Points.take i.toNat).any fun q => q.ID == p.ID) then K .ret (W77 t 2 i) (B77 t) else iter (EV L81 (E77 t)) hd77 (lpBody Try.f77 0) n (W77 t 0 (IntKind.i64.wrap (i + 1))) (B77 t) K
    else none
  else K (.exit 0) (W77 t 0 i) (B77 t) := by kernel_rfl
theorem lp77 (t : GTouch) (hx : t.Points.length < 9223372036854775808) : LpOk (EV L81 (E77 t)) [] (lpBody Try.f77 0) (lcOf hd77 (W77 t 0 0) (B77 t) (OUT77 t)) := lcOf_ok (by kernel_rfl) fun K => ⟨_, idx_loop (N := t.Points.length) (p := badAt t.Points)
  (F := fun n i => iter (EV L81 (E77 t)) hd77 (lpBody Try.f77 0) n (W77 t 0 i) (B77 t) K) (R := fun i => K .ret (W77 t 2 i) (B77 t)) (X := fun i => K (.exit 0) (W77 t 0 i) (B77 t))
  (fun n i hi => by
    rw [step77, decide_eq_true (show (i : Int) < (t.Points.length : Int) by omega), cond_true]
    simp only [getI_at hi, Option.bind_some, wrap_succ (show i + 1 < 9223372036854775808 by omega)]
    rw [decide_eq_true (show 0 ≤ (i : Int) ∧ (i : Int) ≤ (t.Points.length : Int) by omega), cond_true, Int.toNat_natCast]
    unfold badAt twiceAt
    simp only [List.getD_eq_getElem?_getD, List.getElem?_eq_getElem hi, Option.getD_some]
    generalize t.Points[i] = p
    generalize (List.take i t.Points).any (fun q => q.ID == p.ID) = z
    unfold pointOk
    cases vwithin p.At 4796333603149578240 <;> cases fwithin p.Depth 4796333603149578240 <;> cases flt p.Depth 0 <;> cases fwithin p.Push 4787326403894837248 <;> cases fwithin p.Drag 4787326403894837248 <;> cases z <;> rfl)
  (fun n => by rw [step77, decide_eq_false (by omega)]; rfl)⟩
def c77 : FC G := FC.sp [.s .touch] fun (t, _) => .int .i64 (tcheck t)
theorem x77 (t : GTouch) (K) : xfn (EV L81 (E77 t)) Try.f77 [] (encs [.s .touch] (t, ())) [] K = K (.int .i64 (tcheck t)) [] [] :=
  (show _ = (bif ((((!pairOk t.Pair || !vunit t.Normal) || !vwithin t.Normal 4611686018427387904) || ((t.Points.length : Int) == 0)) || decide ((t.Points.length : Int) > 8)) then K (.int .i64 2) [] [] else
    gate (W77 t 0 0 = W77 t 0 0 ∧ B77 t = B77 t) (bif (List.range t.Points.length).any (badAt t.Points) then K (.int .i64 2) [] [] else K (.int .i64 0) [] [])) from by kernel_rfl).trans (by
  rw [gate_pos ⟨rfl, rfl⟩]
  have e1 : ((t.Points.length : Int) == 0) = !decide (0 < t.Points.length) := by rw [Bool.eq_iff_iff]; simp only [beq_iff_eq, Bool.not_eq_true', decide_eq_false_iff_not]; omega
  have e2 : decide ((t.Points.length : Int) > 8) = !decide (t.Points.length ≤ 8) := by rw [Bool.eq_iff_iff]; simp only [decide_eq_true_eq, Bool.not_eq_true', decide_eq_false_iff_not]; omega
  rw [e1, e2]
  unfold tcheck headOk
  cases pairOk t.Pair <;> cases vunit t.Normal <;> cases vwithin t.Normal 4611686018427387904 <;> cases decide (0 < t.Points.length) <;> cases decide (t.Points.length ≤ 8) <;> cases (List.range t.Points.length).any (badAt t.Points) <;> rfl)
theorem ok77 : FcOk Try.prog 77 c77 := sp_lp L81ok Try.func77 (by kernel_rfl) (by kernel_rfl) fun (t, _) ⟨hx, _⟩ => ⟨E77 t, lps1 (i := 4) (by kernel_rfl) rfl (lp77 t hx), fun K => x77 t K⟩
def L77 : Ctr := (77, c77) :: L81
theorem L77ok : AllOk L77 := .cons ok77 L81ok

/-! ### the reference's Check: a loop in a loop -/
theorem any_take {α : Type} (d : α) (p : α → Bool) : ∀ (l : List α) (i : Nat), i ≤ l.length → (List.range i).any (fun k => p (l.getD k d)) = (l.take i).any p := by
  intro l i hi
  rw [Bool.eq_iff_iff]
  simp only [List.any_eq_true, List.mem_range]
  constructor
  · rintro ⟨k, hk, hp⟩
    refine ⟨l[k]'(by omega), ?_, ?_⟩
    · rw [List.mem_take_iff_getElem]
      exact ⟨k, by omega, rfl⟩
    · rw [List.getD_eq_getElem?_getD, List.getElem?_eq_getElem (by omega)] at hp
      exact hp
  · rintro ⟨x, hx, hp⟩
    rw [List.mem_take_iff_getElem] at hx
    obtain ⟨k, hk, rfl⟩ := hx
    exact ⟨k, by omega, by rw [List.getD_eq_getElem?_getD, List.getElem?_eq_getElem (by omega)]; exact hp⟩

def hd80o : LH G := ⟨[1, 2, 6], [], [1]⟩
def hd80i : LH G := ⟨[1, 2, 6, 7, 10], [], [1, 7]⟩
def VI (e i j : Int) : List (RV G) := [.ptr 1 0 0 0, .int .i64 e, .int .i64 i, .ptr 7 0 0 0, .int .i64 j]
def BI (t : GTouch) (p : GPoint) : List (Blk G) := [.cells (encG .touch t), .cells (encG .point p)]
def sameId (t : GTouch) (p : GPoint) (k : Nat) : Bool := (t.Points.getD k point0).ID == p.ID
def OUTI (t : GTouch) (p : GPoint) (i : Int) (K : XE → List (RV G) → List (Blk G) → Ans G) : Ans G :=
  bif (List.range i.toNat).any (sameId t p) then K .ret (VI 2 i ((List.range i.toNat).findIdx (sameId t p) : Nat)) (BI t p) else K (.exit 2) (VI 0 i (i.toNat : Nat)) (BI t p)
noncomputable def lcIn (t : GTouch) : LC G := ⟨hd80i, fun vs bs K => match vs, bs with
  | [.ptr 1 0 0 0, .int .i64 0, .int .i64 i, .ptr 7 0 0 0, .int .i64 0], [.cells ct, .cells cs] => match decG .point cs with
    | some p => gate (ct = encG .touch t ∧ 0 ≤ i ∧ i ≤ (t.Points.length : Int) ∧ (t.Points.length < 9223372036854775808)) (OUTI t p i K)
    | none => none
  | _, _ => none⟩
def V80 (e i : Int) : List (RV G) := [.ptr 1 0 0 0, .int .i64 e, .int .i64 i]
def badR (t : GTouch) (i : Nat) : Bool := ((!vawithin (t.Points.getD i point0).At 4796333603149578240 || !(fawithin (t.Points.getD i point0).Push 4787326403894837248 && fawithin (t.Points.getD i point0).Drag 4787326403894837248)) || !(fle 0 (t.Points.getD i point0).Depth && fle (t.Points.getD i point0).Depth 4796333603149578240)) || (List.range i).any (sameId t (t.Points.getD i point0))
def OUT80 (t : GTouch) (K : XE → List (RV G) → List (Blk G) → Ans G) : Ans G :=
  bif (List.range t.Points.length).any (badR t) then K .ret (V80 2 ((List.range t.Points.length).findIdx (badR t) : Nat)) (B77 t) else K (.exit 0) (V80 0 (t.Points.length : Nat)) (B77 t)
noncomputable def E80i (t : GTouch) : List (Nat × LC G) := [(15, lcIn t)]
noncomputable def E80 (t : GTouch) : List (Nat × LC G) := [(15, lcIn t), (7, lcOf hd80o (V80 0 0) (B77 t) (OUT80 t))]
theorem step80i (t : GTouch) (p : GPoint) (i : Int) (n : Nat) (j : Int) (K) : iter (EV L77 (E80 t)) hd80i (lpBody Try.f80 1) (n + 1) (VI 0 i j) (BI t p) K = bif decide (j < i) then (getI t.Points j).bind fun q =>
    bif (q.ID == p.ID) then K .ret (VI 2 i j) (BI t p) else iter (EV L77 (E80 t)) hd80i (lpBody Try.f80 1) n (VI 0 i (IntKind.i64.wrap (j + 1))) (BI t p) K
  else K (.exit 2) (VI 0 i j) (BI t p) := by kernel_rfl
theorem lp80i (t : GTouch) : LpOk (EV L77 (E80 t)) [] (lpBody Try.f80 1) (lcIn t) := lpOk_of (by kernel_rfl) fun vs bs K o h => by
  simp only [lcIn] at h
  split at h
  · rename_i i ct cs
    split at h
    · rename_i p hp
      obtain ⟨⟨rfl, h0, h1, h2⟩, g⟩ := gate_some h
      have := decG_inv191 hp
      subst this
      obtain ⟨m, rfl⟩ := Int.eq_ofNat_of_zero_le h0
      unfold OUTI at g
      rw [Int.toNat_natCast] at g
      exact ⟨_, (idx_loop (N := m) (p := sameId t p) (F := fun n j => iter (EV L77 (E80 t)) hd80i (lpBody Try.f80 1) n (VI 0 m j) (BI t p) K) (R := fun j => K .ret (VI 2 m j) (BI t p)) (X := fun j => K (.exit 2) (VI 0 m j) (BI t p))
        (fun n k hk => by
          rw [step80i, decide_eq_true (show (k : Int) < (m : Int) by omega), cond_true]
          simp only [getI_at (show k < t.Points.length by omega), Option.bind_some, wrap_succ (show k + 1 < 9223372036854775808 by omega)]
          unfold sameId
          simp only [List.getD_eq_getElem?_getD, List.getElem?_eq_getElem (show k < t.Points.length by omega), Option.getD_some])
        (fun n => by rw [step80i, decide_eq_false (by omega)]; rfl)).trans g⟩
    · cases h
  · cases h
theorem step80 (t : GTouch) (n : Nat) (i : Int) (K) : iter (EV L77 (E80 t)) hd80o (lpBody Try.f80 0) (n + 1) (V80 0 i) (B77 t) K = bif decide (i < (t.Points.length : Int)) then (getI t.Points i).bind fun p =>
    bif ((!vawithin p.At 4796333603149578240 || !(fawithin p.Push 4787326403894837248 && fawithin p.Drag 4787326403894837248)) || !(fle 0 p.Depth && fle p.Depth 4796333603149578240)) then K .ret (V80 2 i) (B77 t)
    else gate (encG .touch t = encG .touch t ∧ 0 ≤ i ∧ i ≤ (t.Points.length : Int) ∧ (t.Points.length < 9223372036854775808)) (bif (List.range i.toNat).any (sameId t p) then K .ret (V80 2 i) (B77 t) else iter (EV L77 (E80 t)) hd80o (lpBody Try.f80 0) n (V80 0 (IntKind.i64.wrap (i + 1))) (B77 t) K)
  else K (.exit 0) (V80 0 i) (B77 t) := by kernel_rfl
theorem pointOk_ref (p : GPoint) : pointOk p = ((vawithin p.At 4796333603149578240 && (fawithin p.Push 4787326403894837248 && fawithin p.Drag 4787326403894837248)) && (fle 0 p.Depth && fle p.Depth 4796333603149578240)) := by
  unfold pointOk vwithin vawithin
  rw [← within_low, within_max, within_max, within_far, within_far, within_far]
  ac_rfl
theorem badR_eq (t : GTouch) {i : Nat} (hi : i < t.Points.length) : badR t i = badAt t.Points i := by
  unfold badR badAt twiceAt sameId
  rw [pointOk_ref, any_take (d := point0) (p := fun q : GPoint => q.ID == (t.Points.getD i point0).ID) t.Points i (by omega)]
  generalize t.Points.getD i point0 = p
  cases vawithin p.At 4796333603149578240 <;> cases fawithin p.Push 4787326403894837248 <;> cases fawithin p.Drag 4787326403894837248 <;> cases fle 0 p.Depth <;> cases fle p.Depth 4796333603149578240 <;> rfl
theorem any_range_congr {n : Nat} {p q : Nat → Bool} (h : ∀ i, i < n → p i = q i) : (List.range n).any p = (List.range n).any q := by
  rw [Bool.eq_iff_iff]
  simp only [List.any_eq_true, List.mem_range]
  exact ⟨fun ⟨i, hi, hp⟩ => ⟨i, hi, (h i hi) ▸ hp⟩, fun ⟨i, hi, hp⟩ => ⟨i, hi, (h i hi).symm ▸ hp⟩⟩
theorem lp80 (t : GTouch) (hx : t.Points.length < 9223372036854775808) : LpOk (EV L77 (E80 t)) [] (lpBody Try.f80 0) (lcOf hd80o (V80 0 0) (B77 t) (OUT80 t)) := lcOf_ok (by kernel_rfl) fun K => ⟨_, idx_loop (N := t.Points.length) (p := badR t)
  (F := fun n i => iter (EV L77 (E80 t)) hd80o (lpBody Try.f80 0) n (V80 0 i) (B77 t) K) (R := fun i => K .ret (V80 2 i) (B77 t)) (X := fun i => K (.exit 0) (V80 0 i) (B77 t))
  (fun n i hi => by
    rw [step80, decide_eq_true (show (i : Int) < (t.Points.length : Int) by omega), cond_true]
    simp only [getI_at hi, Option.bind_some, wrap_succ (show i + 1 < 9223372036854775808 by omega)]
    rw [gate_pos ⟨by trivial, by omega, by omega, hx⟩, Int.toNat_natCast]
    unfold badR
    simp only [List.getD_eq_getElem?_getD, List.getElem?_eq_getElem hi, Option.getD_some]
    generalize t.Points[i] = p
    generalize (List.range i).any (sameId t p) = z
    cases vawithin p.At 4796333603149578240 <;> cases fawithin p.Push 4787326403894837248 <;> cases fawithin p.Drag 4787326403894837248 <;> cases fle 0 p.Depth <;> cases fle p.Depth 4796333603149578240 <;> cases z <;> rfl)
  (fun n => by rw [step80, decide_eq_false (by omega)]; rfl)⟩
def c80 : FC G := FC.sp [.s .touch] fun (t, _) => .int .i64 (tcheck t)
theorem x80 (t : GTouch) (K) : xfn (EV L77 (E80 t)) Try.f80 [] (encs [.s .touch] (t, ())) [] K = K (.int .i64 (tcheck t)) [] [] :=
  (show _ = (bif ((((!pairOk t.Pair || !vunit t.Normal) || !vawithin t.Normal 4611686018427387904) || decide ((t.Points.length : Int) < 1)) || decide ((t.Points.length : Int) > 8)) then K (.int .i64 2) [] [] else
    gate (V80 0 0 = V80 0 0 ∧ B77 t = B77 t) (bif (List.range t.Points.length).any (badR t) then K (.int .i64 2) [] [] else K (.int .i64 0) [] [])) from by kernel_rfl).trans (by
  rw [gate_pos ⟨rfl, rfl⟩]
  have e1 : decide ((t.Points.length : Int) < 1) = !decide (0 < t.Points.length) := by rw [Bool.eq_iff_iff]; simp only [decide_eq_true_eq, Bool.not_eq_true', decide_eq_false_iff_not]; omega
  have e2 : decide ((t.Points.length : Int) > 8) = !decide (t.Points.length ≤ 8) := by rw [Bool.eq_iff_iff]; simp only [decide_eq_true_eq, Bool.not_eq_true', decide_eq_false_iff_not]; omega
  have e3 : vawithin t.Normal 4611686018427387904 = vwithin t.Normal 4611686018427387904 := by unfold vawithin vwithin; rw [within_two, within_two]
  rw [e1, e2, e3, any_range_congr fun i hi => badR_eq t hi]
  unfold tcheck headOk
  cases pairOk t.Pair <;> cases vunit t.Normal <;> cases vwithin t.Normal 4611686018427387904 <;> cases decide (0 < t.Points.length) <;> cases decide (t.Points.length ≤ 8) <;> cases (List.range t.Points.length).any (badAt t.Points) <;> rfl)
theorem ok80 : FcOk Try.prog 80 c80 := sp_lp L77ok Try.func80 (by kernel_rfl) (by kernel_rfl) fun (t, _) ⟨hx, _⟩ => ⟨E80 t, lps2 (i := 7) (j := 15) (by kernel_rfl) rfl (lp80 t hx) rfl (lp80i t), fun K => x80 t K⟩
def L80 : Ctr := (80, c80) :: L77
theorem L80ok : AllOk L80 := .cons ok80 L77ok
end Go.SX

/- Keep, of the program and of the reference. No statement of the seat is proved here. -/
namespace Go.SX
open Go.Proofs
set_option maxRecDepth 20000

/-- Rounds that carry a state. -/
theorem fold_loop {β σ : Type} {N : Nat} {g : σ → Nat → σ} {F : Nat → Int → σ → Option β} {X : σ → Option β} {s0 : σ} (I : Nat → σ → Prop) (h0 : I 0 s0)
    (hs : ∀ n i s, i < N → I i s → F (n + 1) (i : Int) s = F n ((i + 1 : Nat) : Int) (g s i)) (hI : ∀ i s, i < N → I i s → I (i + 1) (g s i)) (hx : ∀ n s, I N s → F (n + 1) (N : Int) s = X s) :
    F (N + 1) 0 s0 = X ((List.range N).foldl g s0) := by
  have main : ∀ d i s, i + d = N → I i s → F (d + 1) (i : Int) s = X ((List.range' i d).foldl g s) := by
    intro d
    induction d with
    | zero =>
      intro i s hi h
      have : i = N := by omega
      subst this
      rw [hx _ _ h]
      rfl
    | succ d ih =>
      intro i s hi h
      rw [hs _ _ _ (by omega) h, ih (i + 1) _ (by omega) (hI _ _ (by omega) h)]
      rw [List.range'_succ]
      rfl
  have := main N 0 s0 (by omega) h0
  rw [List.range_eq_range']
  simpa using this
theorem fold_inv {σ : Type} {N : Nat} {g : σ → Nat → σ} (P : σ → Prop) (hI : ∀ i s, i < N → P s → P (g s i)) {s0 : σ} (h0 : P s0) : P ((List.range N).foldl g s0) := by
  induction N with
  | zero => exact h0
  | succ N ih =>
    rw [List.range_succ, List.foldl_append]
    exact hI N _ (by omega) (ih fun i s hi => hI i s (by omega))
/-- The point of a touch with the impulses of its two rows. -/
def keptAt (rows : List GRow) (ps : List GPoint) (i : Nat) : GPoint := { ps.getD i point0 with Push := freal (rows.getD (2 * i + 1) row0).Push, Drag := freal (rows.getD (2 * i) row0).Push }
def keepN (rows : List GRow) (N : Nat) (ps : List GPoint) : List GPoint := (List.range N).foldl (fun s i => s.set i (keptAt rows s i)) ps
def hd17 : LH G := ⟨[1, 2, 4, 5, 7, 32, 33], [], [2, 4, 4125]⟩
def cells2 (t : GTouch) (n : Nat) : List (RV G) := [.int .i64 t.Pair.A, .int .i64 t.Pair.PartA, .int .i64 t.Pair.B, .int .i64 t.Pair.PartB, .bool t.Sensor, .flt t.Normal.X, .flt t.Normal.Y, .own 4125 .point n]
def cells0 : List (RV G) := [.int .i64 0, .int .i64 0, .int .i64 0, .int .i64 0, .bool false, .flt 0, .flt 0, .nilslice]
def W17 (rows : List GRow) (want N i : Int) : List (RV G) := [.rslice .row rows, .ptr 2 0 0 0, .ptr 4 0 0 0, .int .i64 0, .int .i64 want, .int .i64 N, .int .i64 i]
def B17 (t : GTouch) (ps : List GPoint) : List (Blk G) := [.cells (cells2 t ps.length), .cells cells0, .rows .point ps]
noncomputable def lc17 (t : GTouch) (rows : List GRow) : LC G := ⟨hd17, fun vs bs K => match vs, bs with
  | [.rslice .row rs, .ptr 2 0 0 0, .ptr 4 0 0 0, .int .i64 0, .int .i64 want, .int .i64 N, .int .i64 i], [.cells c2, .cells c4, .rows .point ps] =>
    gate (rs = rows ∧ i = 0 ∧ 0 ≤ N ∧ N ≤ (ps.length : Int) ∧ 2 * N ≤ (rows.length : Int) ∧ c2 = cells2 t ps.length ∧ c4 = cells0 ∧ ps.length < 1000 ∧ rows.length < 1000)
      (K (.exit 0) (W17 rows want N N) (B17 t (keepN rows N.toNat ps)))
  | _, _ => none⟩
noncomputable def E17 (t : GTouch) (rows : List GRow) : List (Nat × LC G) := [(11, lc17 t rows)]
theorem step17 (t : GTouch) (rows : List GRow) (want N : Int) (n : Nat) (i : Int) (ps : List GPoint) (K) : iter (EV L80 (E17 t rows)) hd17 (lpBody Try.f17 0) (n + 1) (W17 rows want N i) (B17 t ps) K = bif decide (i < N) then
    bif decide (0 ≤ i ∧ i < (ps.length : Int)) then (getI rows (IntKind.i64.wrap (2 * i))).bind fun r => (getI rows (IntKind.i64.wrap (IntKind.i64.wrap (2 * i) + 1))).bind fun q =>
      (ps[i.toNat]?).bind fun p => ((ps.set i.toNat { p with Drag := freal r.Push })[i.toNat]?).bind fun p1 =>
        iter (EV L80 (E17 t rows)) hd17 (lpBody Try.f17 0) n (W17 rows want N (IntKind.i64.wrap (i + 1))) (B17 t ((ps.set i.toNat { p with Drag := freal r.Push }).set i.toNat { p1 with Push := freal q.Push })) K
    else none
  else K (.exit 0) (W17 rows want N i) (B17 t ps) := by kernel_rfl

theorem keepN_len (rows : List GRow) (N : Nat) (ps : List GPoint) : (keepN rows N ps).length = ps.length :=
  fold_inv (P := fun s : List GPoint => s.length = ps.length) (fun i s _ h => by rw [List.length_set]; exact h) rfl
theorem lp17 (t : GTouch) (rows : List GRow) : LpOk (EV L80 (E17 t rows)) [] (lpBody Try.f17 0) (lc17 t rows) := lpOk_of (by kernel_rfl) fun vs bs K o h => by
  simp only [lc17] at h
  split at h
  · rename_i rs want N i c2 c4 ps
    obtain ⟨⟨rfl, rfl, h0, h1, h2, rfl, rfl, h3, h4⟩, g⟩ := gate_some h
    obtain ⟨m, rfl⟩ := Int.eq_ofNat_of_zero_le h0
    rw [Int.toNat_natCast] at g
    exact ⟨_, (fold_loop (N := m) (g := fun (s : List GPoint) (i : Nat) => s.set i (keptAt rs s i)) (F := fun n i (s : List GPoint) => iter (EV L80 (E17 t rs)) hd17 (lpBody Try.f17 0) n (W17 rs want m i) (B17 t s) K) (X := fun (s : List GPoint) => K (.exit 0) (W17 rs want m m) (B17 t s)) (s0 := ps) (fun _ (s : List GPoint) => s.length = ps.length) rfl
      (fun n i s hi hs => by
        rw [step17, decide_eq_true (show (i : Int) < (m : Int) by omega), cond_true, decide_eq_true (show 0 ≤ (i : Int) ∧ (i : Int) < (s.length : Int) by omega), cond_true]
        have e1 : IntKind.i64.wrap (2 * (i : Int)) = ((2 * i : Nat) : Int) := by rw [IntKind.wrap_i64]; omega
        rw [e1, wrap_succ (show 2 * i + 1 < 9223372036854775808 by omega), wrap_succ (show i + 1 < 9223372036854775808 by omega), getI_at (show 2 * i < rs.length by omega), getI_at (show 2 * i + 1 < rs.length by omega)]
        have hi' : i < s.length := by omega
        simp only [Option.bind_some, Int.toNat_natCast, List.getElem?_eq_getElem hi', List.getElem?_set_self hi', List.set_set]
        unfold keptAt
        simp only [List.getD_eq_getElem?_getD, List.getElem?_eq_getElem hi', List.getElem?_eq_getElem (show 2 * i < rs.length by omega), List.getElem?_eq_getElem (show 2 * i + 1 < rs.length by omega), Option.getD_some])
      (fun i s _ hs => by rw [List.length_set]; exact hs) (fun n s hs => by rw [step17, decide_eq_false (by omega)]; rfl)).trans g⟩
  · cases h

def keepWant (t : GTouch) : Int := bif t.Sensor then 0 else 2 * (t.Points.length : Int)
def cellsK (t : GTouch) (n : Nat) : List (RV G) := [.int .i64 t.Pair.A, .int .i64 t.Pair.PartA, .int .i64 t.Pair.B, .int .i64 t.Pair.PartB, .bool t.Sensor, .flt t.Normal.X, .flt t.Normal.Y, .own 0 .point n]
def runKeep (t : GTouch) (rows : List GRow) (K : RV G → List (Blk G) → List (Blk G) → Ans G) : Ans G :=
  bif tcheck t != 0 then K (.tuple [.agg cells0, .int .i64 (tcheck t)]) [] [] else bif (rows.length : Int) != keepWant t then K (.tuple [.agg cells0, .int .i64 200]) [] []
  else K (.tuple [.agg (cellsK t (keepN rows (keepWant t / 2).toNat t.Points).length), .int .i64 0]) [] [.rows .point (keepN rows (keepWant t / 2).toNat t.Points)]
theorem tcheck_ok {t : GTouch} (h : tcheck t = 0) : 0 < t.Points.length ∧ t.Points.length ≤ 8 := by
  unfold tcheck headOk at h
  cases h1 : decide (0 < t.Points.length) with
  | false => rw [h1] at h; simp at h
  | true => cases h2 : decide (t.Points.length ≤ 8) with
    | false => rw [h2] at h; simp at h
    | true => exact ⟨of_decide_eq_true h1, of_decide_eq_true h2⟩
noncomputable def G17 (t : GTouch) (rows : List GRow) (N : Int) (K : RV G → List (Blk G) → List (Blk G) → Ans G) : Ans G :=
  bif decide (t.Points.length * 48 ≤ 2 ^ 47) then gate (rows = rows ∧ (0 : Int) = 0 ∧ 0 ≤ N ∧ N ≤ (t.Points.length : Int) ∧ 2 * N ≤ (rows.length : Int) ∧ cells2 t t.Points.length = cells2 t t.Points.length ∧ cells0 = cells0 ∧ t.Points.length < 1000 ∧ rows.length < 1000)
    (K (.tuple [.agg (cellsK t (keepN rows N.toNat t.Points).length), .int .i64 0]) [] [.rows .point (keepN rows N.toNat t.Points)]) else none
theorem x17 (t : GTouch) (rows : List GRow) (K) : xfn (EV L80 (E17 t rows)) Try.f17 [] (encs [.s .touch, .l .row] (t, rows, ())) [] K = runKeep t rows K :=
  (show _ = (bif tcheck t != 0 then K (.tuple [.agg cells0, .int .i64 (tcheck t)]) [] [] else bif t.Sensor then
    (bif (rows.length : Int) != 0 then K (.tuple [.agg cells0, .int .i64 200]) [] [] else G17 t rows (IntKind.i64.wrap ((0 : Int).tdiv 2)) K)
    else (bif (rows.length : Int) != IntKind.i64.wrap (2 * (t.Points.length : Int)) then K (.tuple [.agg cells0, .int .i64 200]) [] [] else G17 t rows (IntKind.i64.wrap ((IntKind.i64.wrap (2 * (t.Points.length : Int))).tdiv 2)) K)) from by kernel_rfl).trans (by
  unfold runKeep
  by_cases hc : tcheck t = 0
  · have ⟨h1, h2⟩ := tcheck_ok hc
    rw [show (tcheck t != 0) = false by simp [hc]]
    simp only [cond_false]
    unfold keepWant
    have e1 : IntKind.i64.wrap (2 * (t.Points.length : Int)) = 2 * (t.Points.length : Int) := by rw [IntKind.wrap_i64]; omega
    cases t.Sensor with
    | true =>
      simp only [cond_true]
      by_cases hr : (rows.length : Int) = 0
      · rw [show ((rows.length : Int) != 0) = false by simp [hr]]
        simp only [cond_false]
        unfold G17
        have e : IntKind.i64.wrap ((0 : Int).tdiv 2) = 0 := by decide
        rw [e, decide_eq_true (show t.Points.length * 48 ≤ 2 ^ 47 by omega), cond_true, gate_pos ⟨rfl, rfl, by omega, by omega, by omega, rfl, rfl, by omega, by omega⟩]
        rfl
      · rw [show ((rows.length : Int) != 0) = true by rw [bne_iff_ne]; exact hr]
        rfl
    | false =>
      simp only [cond_false]
      rw [e1]
      by_cases hr : (rows.length : Int) = 2 * (t.Points.length : Int)
      · rw [show ((rows.length : Int) != 2 * (t.Points.length : Int)) = false by simp [hr]]
        simp only [cond_false]
        unfold G17
        have e : IntKind.i64.wrap ((2 * (t.Points.length : Int)).tdiv 2) = (t.Points.length : Int) := by rw [Int.mul_tdiv_cancel_left _ (by decide), IntKind.wrap_i64]; omega
        have e2 : (2 * (t.Points.length : Int)) / 2 = (t.Points.length : Int) := by omega
        rw [e, e2, decide_eq_true (show t.Points.length * 48 ≤ 2 ^ 47 by omega), cond_true, gate_pos ⟨rfl, rfl, by omega, by omega, by omega, rfl, rfl, by omega, by omega⟩]
      · rw [show ((rows.length : Int) != 2 * (t.Points.length : Int)) = true by rw [bne_iff_ne]; exact hr]
        rfl
  · rw [show (tcheck t != 0) = true by rw [bne_iff_ne]; exact hc]
    rfl)
theorem runKeep_K (t : GTouch) (rows : List GRow) (K) (o) (h : runKeep t rows K = some o) : ∃ r bs fr, K r bs fr = some o := by
  unfold runKeep at h
  cases h1 : tcheck t != 0 with
  | true => rw [h1] at h; exact ⟨_, _, _, h⟩
  | false => cases h2 : (rows.length : Int) != keepWant t with
    | true => rw [h1, h2] at h; exact ⟨_, _, _, h⟩
    | false => rw [h1, h2] at h; exact ⟨_, _, _, h⟩
def c17 : FC G := FC.rn [.s .touch, .l .row] fun (t, rows, _) K => runKeep t rows K
theorem ok17 : FcOk Try.prog 17 c17 := rn_lp L80ok Try.func17 (by kernel_rfl) (by kernel_rfl) (fun (t, rows, _) K o h => runKeep_K t rows K o h) fun (t, rows, _) _ => ⟨E17 t rows, lps1 (i := 11) (by kernel_rfl) rfl (lp17 t rows), fun K o h => (x17 t rows K).trans h⟩
def L17 : Ctr := (17, c17) :: L80
theorem L17ok : AllOk L17 := .cons ok17 L80ok
end Go.SX

/- The reference's Keep; what the law lends and holds against. No statement of the seat is proved here. -/
namespace Go.SX
open Go.Proofs
set_option maxRecDepth 20000
def hd18 : LH G := ⟨[1, 4, 5, 7, 8, 9], [], [4, 8, 4124]⟩
def cells8 (t : GTouch) (n : Nat) : List (RV G) := [.int .i64 t.Pair.A, .int .i64 t.Pair.PartA, .int .i64 t.Pair.B, .int .i64 t.Pair.PartB, .bool t.Sensor, .flt t.Normal.X, .flt t.Normal.Y, .own 4124 .point n]
def W18 (rows : List GRow) (want i : Int) : List (RV G) := [.rslice .row rows, .ptr 4 0 0 0, .int .i64 0, .int .i64 want, .ptr 8 0 0 0, .int .i64 i]
def B18 (t : GTouch) (ps : List GPoint) : List (Blk G) := [.cells cells0, .cells (cells8 t ps.length), .rows .point ps]
noncomputable def lc18 (t : GTouch) (rows : List GRow) : LC G := ⟨hd18, fun vs bs K => match vs, bs with
  | [.rslice .row rs, .ptr 4 0 0 0, .int .i64 0, .int .i64 want, .ptr 8 0 0 0, .int .i64 i], [.cells c4, .cells c8, .rows .point ps] =>
    gate (rs = rows ∧ i = 0 ∧ 0 ≤ want ∧ want / 2 ≤ (ps.length : Int) ∧ want ≤ (rows.length : Int) ∧ c4 = cells0 ∧ c8 = cells8 t ps.length ∧ ps.length < 1000 ∧ rows.length < 1000)
      (K (.exit 0) (W18 rows want (want / 2)) (B18 t (keepN rows (want / 2).toNat ps)))
  | _, _ => none⟩
noncomputable def E18 (t : GTouch) (rows : List GRow) : List (Nat × LC G) := [(11, lc18 t rows)]
theorem step18 (t : GTouch) (rows : List GRow) (want : Int) (n : Nat) (i : Int) (ps : List GPoint) (K) : iter (EV L17 (E18 t rows)) hd18 (lpBody Try.f18 0) (n + 1) (W18 rows want i) (B18 t ps) K = bif decide (i < IntKind.i64.wrap (want.tdiv 2)) then
    (getI rows (IntKind.i64.wrap (2 * i))).bind fun r => bif decide (0 ≤ i ∧ i < (ps.length : Int)) then (ps[i.toNat]?).bind fun p =>
      (getI rows (IntKind.i64.wrap (IntKind.i64.wrap (2 * i) + 1))).bind fun q => bif decide (0 ≤ i ∧ i < (ps.length : Int)) then ((ps.set i.toNat { p with Drag := freal r.Push })[i.toNat]?).bind fun p1 =>
        iter (EV L17 (E18 t rows)) hd18 (lpBody Try.f18 0) n (W18 rows want (IntKind.i64.wrap (i + 1))) (B18 t ((ps.set i.toNat { p with Drag := freal r.Push }).set i.toNat { p1 with Push := freal q.Push })) K
      else none
    else none
  else K (.exit 0) (W18 rows want i) (B18 t ps) := by kernel_rfl
theorem lp18 (t : GTouch) (rows : List GRow) : LpOk (EV L17 (E18 t rows)) [] (lpBody Try.f18 0) (lc18 t rows) := lpOk_of (by kernel_rfl) fun vs bs K o h => by
  simp only [lc18] at h
  split at h
  · rename_i rs want i c4 c8 ps
    obtain ⟨⟨rfl, rfl, h0, h1, h2, rfl, rfl, h3, h4⟩, g⟩ := gate_some h
    obtain ⟨w, rfl⟩ := Int.eq_ofNat_of_zero_le h0
    obtain ⟨m, hm⟩ : ∃ m : Nat, (w : Int) / 2 = (m : Int) := ⟨w / 2, by omega⟩
    rw [hm] at g h1
    rw [Int.toNat_natCast] at g
    have ew : IntKind.i64.wrap ((w : Int).tdiv 2) = (m : Int) := by rw [Int.tdiv_eq_ediv_of_nonneg (by omega), hm, IntKind.wrap_i64]; omega
    exact ⟨_, (fold_loop (N := m) (g := fun (s : List GPoint) (i : Nat) => s.set i (keptAt rs s i)) (F := fun n i (s : List GPoint) => iter (EV L17 (E18 t rs)) hd18 (lpBody Try.f18 0) n (W18 rs w i) (B18 t s) K) (X := fun (s : List GPoint) => K (.exit 0) (W18 rs w m) (B18 t s)) (s0 := ps) (fun _ (s : List GPoint) => s.length = ps.length) rfl
      (fun n i s hi hs => by
        rw [step18, ew, decide_eq_true (show (i : Int) < (m : Int) by omega), cond_true, decide_eq_true (show 0 ≤ (i : Int) ∧ (i : Int) < (s.length : Int) by omega)]
        have e1 : IntKind.i64.wrap (2 * (i : Int)) = ((2 * i : Nat) : Int) := by rw [IntKind.wrap_i64]; omega
        rw [e1, wrap_succ (show 2 * i + 1 < 9223372036854775808 by omega), wrap_succ (show i + 1 < 9223372036854775808 by omega), getI_at (show 2 * i < rs.length by omega), getI_at (show 2 * i + 1 < rs.length by omega)]
        have hi' : i < s.length := by omega
        simp only [Option.bind_some, cond_true, Int.toNat_natCast, List.getElem?_eq_getElem hi', List.getElem?_set_self hi', List.set_set]
        unfold keptAt
        simp only [List.getD_eq_getElem?_getD, List.getElem?_eq_getElem hi', List.getElem?_eq_getElem (show 2 * i < rs.length by omega), List.getElem?_eq_getElem (show 2 * i + 1 < rs.length by omega), Option.getD_some])
      (fun i s _ hs => by rw [List.length_set]; exact hs) (fun n s hs => by rw [step18, ew, decide_eq_false (by omega)]; rfl)).trans g⟩
  · cases h
noncomputable def G18 (t : GTouch) (rows : List GRow) (want : Int) (K : RV G → List (Blk G) → List (Blk G) → Ans G) : Ans G :=
  bif decide (t.Points.length * 48 ≤ 2 ^ 47) then gate (rows = rows ∧ (0 : Int) = 0 ∧ 0 ≤ want ∧ want / 2 ≤ (t.Points.length : Int) ∧ want ≤ (rows.length : Int) ∧ cells0 = cells0 ∧ cells8 t t.Points.length = cells8 t t.Points.length ∧ t.Points.length < 1000 ∧ rows.length < 1000)
    (K (.tuple [.agg (cellsK t (keepN rows (want / 2).toNat t.Points).length), .int .i64 0]) [] [.rows .point (keepN rows (want / 2).toNat t.Points)]) else none
theorem x18 (t : GTouch) (rows : List GRow) (K) : xfn (EV L17 (E18 t rows)) Try.f18 [] (encs [.s .touch, .l .row] (t, rows, ())) [] K = runKeep t rows K :=
  (show _ = (bif tcheck t != 0 then K (.tuple [.agg cells0, .int .i64 (tcheck t)]) [] [] else bif t.Sensor then
    (bif (rows.length : Int) != 0 then K (.tuple [.agg cells0, .int .i64 200]) [] [] else G18 t rows 0 K)
    else (bif (rows.length : Int) != IntKind.i64.wrap (2 * (t.Points.length : Int)) then K (.tuple [.agg cells0, .int .i64 200]) [] [] else G18 t rows (IntKind.i64.wrap (2 * (t.Points.length : Int))) K)) from by kernel_rfl).trans (by
  unfold runKeep
  by_cases hc : tcheck t = 0
  · have ⟨h1, h2⟩ := tcheck_ok hc
    rw [show (tcheck t != 0) = false by simp [hc]]
    simp only [cond_false]
    unfold keepWant
    have e1 : IntKind.i64.wrap (2 * (t.Points.length : Int)) = 2 * (t.Points.length : Int) := by rw [IntKind.wrap_i64]; omega
    cases t.Sensor with
    | true =>
      simp only [cond_true]
      by_cases hr : (rows.length : Int) = 0
      · rw [show ((rows.length : Int) != 0) = false by simp [hr]]
        simp only [cond_false]
        unfold G18
        rw [decide_eq_true (show t.Points.length * 48 ≤ 2 ^ 47 by omega), cond_true, gate_pos ⟨rfl, rfl, by omega, by omega, by omega, rfl, rfl, by omega, by omega⟩]
      · rw [show ((rows.length : Int) != 0) = true by rw [bne_iff_ne]; exact hr]
        rfl
    | false =>
      simp only [cond_false]
      rw [e1]
      by_cases hr : (rows.length : Int) = 2 * (t.Points.length : Int)
      · rw [show ((rows.length : Int) != 2 * (t.Points.length : Int)) = false by simp [hr]]
        simp only [cond_false]
        unfold G18
        rw [decide_eq_true (show t.Points.length * 48 ≤ 2 ^ 47 by omega), cond_true, gate_pos ⟨rfl, rfl, by omega, by omega, by omega, rfl, rfl, by omega, by omega⟩]
      · rw [show ((rows.length : Int) != 2 * (t.Points.length : Int)) = true by rw [bne_iff_ne]; exact hr]
        rfl
  · rw [show (tcheck t != 0) = true by rw [bne_iff_ne]; exact hc]
    rfl)
def c18 : FC G := FC.rn [.s .touch, .l .row] fun (t, rows, _) K => runKeep t rows K
theorem ok18 : FcOk Try.prog 18 c18 := rn_lp L17ok Try.func18 (by kernel_rfl) (by kernel_rfl) (fun (t, rows, _) K o h => runKeep_K t rows K o h) fun (t, rows, _) _ => ⟨E18 t rows, lps1 (i := 11) (by kernel_rfl) rfl (lp18 t rows), fun K o h => (x18 t rows K).trans h⟩
def L18 : Ctr := (18, c18) :: L17
theorem L18ok : AllOk L18 := .cons ok18 L17ok

/-! ### lent, and back -/
def mark : GPoint := ⟨⟨0, 0⟩, 0, 77, 0, 0⟩
def cellsS (t : GTouch) (n : Nat) : List (RV G) := [.int .i64 t.Pair.A, .int .i64 t.Pair.PartA, .int .i64 t.Pair.B, .int .i64 t.Pair.PartB, .bool t.Sensor, .flt t.Normal.X, .flt t.Normal.Y, .slice 0 .point 0 n]
end Go.SX

/- The law RowKeeps: what it lends, what it holds against each other. No statement of the seat is proved here. -/
namespace Go.SX
open Go.Proofs
set_option maxRecDepth 20000

/-- A contract that answers less often. -/
theorem FcOk.sub {f : Nat} {fc fc' : FC G} (h : FcOk Try.prog f fc) (hm : fc'.mu = fc.mu) (hp : ∀ a, fc'.pure a = none) (hr : ∀ a bs K o, fc'.run a bs K = some o → fc.run a bs K = some o) : FcOk Try.prog f fc' where
  pure a r e := by rw [hp] at e; cases e
  run a bs K o e := by
    obtain ⟨r, bs', fr, h1, h2⟩ := h.run a bs K o (hr a bs K o e)
    exact ⟨r, bs', fr, h1, fun cx w vs ids hids => h2 cx w vs ids (by rw [← hm]; exact hids)⟩

/-- A contract told for one input. -/
noncomputable def FC.at (ks : List AK) (x0 : dens ks) (r : RV G) (fr : List (Blk G)) : FC G := FC.rn ks fun x K => gate (x = x0) (K r [] fr)
theorem at_ok {f : Nat} {ks : List AK} {run : dens ks → (RV G → List (Blk G) → List (Blk G) → Ans G) → Ans G} (h : FcOk Try.prog f (FC.rn ks run)) {x0 : dens ks} {r : RV G} {fr : List (Blk G)} (hr : ∀ K, run x0 K = K r [] fr) : FcOk Try.prog f (FC.at ks x0 r fr) :=
  h.sub rfl (fun _ => rfl) fun a bs K o e => by
    simp only [FC.at, FC.rn, FC.ofRun] at e ⊢
    split at e
    · obtain ⟨hx, e2⟩ := gate_some e
      subst hx
      rw [hr]
      exact e2
    · cases e

section
variable {f : Nat} {fn : Func} (hf : Try.prog.funcs[f]? = some fn) (ho : fnOK fn = true)
include hf ho
/-- A contract proved input by input, each with contracts and loops of its own. -/
theorem sp_any {ks : List AK} {res : dens ks → RV G} (hn : Nat.ble ks.length fn.ntmps = true)
    (h : ∀ (x : dens ks), wfs ks x → ∃ L lp, AllOk L ∧ LpsOk (EV L lp) [] (bodyD fn) ∧ ∀ K, xfn (EV L lp) fn [] (encs ks x) [] K = K (res x) [] []) : FcOk Try.prog f (FC.sp ks res) where
  pure vs r hr K := by
    simp only [FC.sp, FC.ofPure] at hr ⊢
    split at hr
    · cases hr; rfl
    · cases hr
  run vs bs K o hr := by
    simp only [FC.sp, FC.ofPure] at hr
    split at hr
    · rename_i r hr'
      split at hr'
      · rename_i x hx
        cases hr'
        by_cases hw : wfs ks x
        · obtain ⟨L, lp, hL, hlp, h⟩ := h x hw
          have h1 : FcOk Try.prog f (FC.at ks x (res x) []) := rn_ok hL hf ho lp hlp hn fun y K o hk => by
            obtain ⟨rfl, hk⟩ := gate_some hk
            rw [h]
            exact hk
          refine h1.run vs bs K o ?_
          simp only [FC.at, FC.rn, FC.ofRun, hx]
          rw [gate_pos trivial]
          exact hr
        · refine ⟨_, _, _, hr, fun cx w us ids hids hl ha hal hi => absurd ?_ hw⟩
          obtain ⟨g1, g2⟩ := decs'_rel hx ha
          exact wfs_rel (vs := us.toList) (by rw [Array.length_toList, g1, encs_len]) fun j u r hu hr => g2 j u r (by simpa using hu) hr
      · cases hr'
    · cases hr
end

/-! ### lent -/
def run16 (t : GTouch) (K : RV G → List (Blk G) → List (Blk G) → Ans G) : Ans G :=
  bif decide (t.Points.length * 48 ≤ 2 ^ 47) then bif decide ((t.Points ++ [mark]).length * 48 ≤ 2 ^ 47) then bif decide ((0 : Int) ≤ 0 ∧ (0 : Int) ≤ (t.Points.length : Int) ∧ (t.Points.length : Int) ≤ ((t.Points ++ [mark]).length : Int)) then
    K (.agg (cellsS t ((t.Points.length : Int) - 0).toNat)) [] [.rows .point (t.Points ++ [mark])] else none else none else none
theorem ok16 : FcOk Try.prog 16 (FC.rn [.s .touch] fun (t, _) K => run16 t K) := rn0 L18ok Try.func16 (by kernel_rfl) (by kernel_rfl) (by kernel_rfl) fun (t, _) K => by kernel_rfl
theorem run16_at (t : GTouch) (h : t.Points.length ≤ 70) (K) : run16 t K = K (.agg (cellsS t t.Points.length)) [] [.rows .point (t.Points ++ [mark])] := by
  unfold run16
  rw [decide_eq_true (by omega), cond_true, decide_eq_true (by rw [List.length_append]; simp; omega), cond_true, decide_eq_true (by rw [List.length_append]; simp; omega), cond_true]
  simp
def run20 (u : GTouch × Nat) (t : GTouch) (K : RV G → List (Blk G) → List (Blk G) → Ans G) : Ans G :=
  bif decide (0 ≤ IntKind.i64.wrap ((u.2 : Int) + 1) ∧ IntKind.i64.wrap ((u.2 : Int) + 1) ≤ (u.1.Points.length : Int) ∧ IntKind.i64.wrap ((u.2 : Int) + 1) < 9223372036854775808) then
    bif tsame { u.1 with Points := u.1.Points.take u.2 } t then
      bif decide ((t.Points.length : Int) < ((IntKind.i64.wrap ((u.2 : Int) + 1)).toNat : Int)) then (getI u.1.Points (t.Points.length : Int)).bind fun q => K (.bool (true && (q.ID == 77))) [] [] else none
    else K (.bool false) [] []
  else none
theorem ok20 : FcOk Try.prog 20 (FC.rn [.tc, .s .touch] fun (u, t, _) K => run20 u t K) := rn0 L18ok Try.func20 (by kernel_rfl) (by kernel_rfl) (by kernel_rfl) fun (u, t, _) K => by kernel_rfl

theorem run20_at (t : GTouch) (h : t.Points.length ≤ 70) (ht : tsame t t = true) (K) : run20 ({ t with Points := t.Points ++ [mark] }, t.Points.length) t K = K (.bool true) [] [] := by
  unfold run20
  have e1 : IntKind.i64.wrap ((t.Points.length : Int) + 1) = ((t.Points.length + 1 : Nat) : Int) := wrap_succ (by omega)
  simp only [e1]
  rw [decide_eq_true (by rw [List.length_append]; simp; omega), cond_true, List.take_left, ht, cond_true, decide_eq_true (by omega), cond_true, getI_at (by rw [List.length_append]; simp)]
  simp [mark]

/-! ### what is the same as itself -/
theorem fis_self (x : Nat) : fis x x = true := by simp [fis]
theorem vsame_self (a : GVec) : vsame a a = true := by simp [vsame, fis_self]
theorem psame_self (p : GPoint) : psame p p = true := by simp [psame, fis_self, vsame_self]
theorem rsame_self (r : GRow) : rsame r r = true := by simp [rsame, fis_self, vsame_self]
theorem lsame_self {α : Type} {same : α → α → Bool} (h : ∀ x, same x x = true) (xs : List α) : lsame same xs xs = true := by
  unfold lsame
  simp only [BEq.rfl, Bool.true_and, List.all_eq_true, id_eq]
  intro b hb
  obtain ⟨i, hi⟩ := List.mem_iff_getElem?.1 hb
  rw [List.getElem?_zipWith] at hi
  cases hx : xs[i]? with
  | none => rw [hx] at hi; simp at hi
  | some x =>
    rw [hx] at hi
    simp only [Option.some.injEq] at hi
    rw [← hi]
    exact h x
theorem tsame_self (t : GTouch) : tsame t t = true := by simp [tsame, vsame_self, lsame_self psame_self, pairEq]

/-! ### the law -/
/-- What Keep comes to, with the rows that it makes. -/
inductive KeepRes where
  | fails (e : Int)
  | keeps (ps : List GPoint)
def KeepRes.r (t : GTouch) : KeepRes → RV G
  | .fails e => .tuple [.agg cells0, .int .i64 e]
  | .keeps ps => .tuple [.agg (cellsK t ps.length), .int .i64 0]
def KeepRes.fr : KeepRes → List (Blk G)
  | .fails _ => []
  | .keeps ps => [.rows .point ps]
theorem runKeep_res (t : GTouch) (rows : List GRow) : ∃ q : KeepRes, (∀ ps, q = .keeps ps → ps.length = t.Points.length) ∧ ∀ K, runKeep t rows K = K (q.r t) [] q.fr := by
  unfold runKeep
  cases h1 : tcheck t != 0 with
  | true => exact ⟨.fails (tcheck t), fun ps h => (by cases h), fun K => rfl⟩
  | false => cases h2 : (rows.length : Int) != keepWant t with
    | true => exact ⟨.fails 200, fun ps h => (by cases h), fun K => rfl⟩
    | false => exact ⟨.keeps _, fun ps h => (by cases h; exact keepN_len _ _ _), fun K => rfl⟩
def lentT (t : GTouch) : GTouch := { t with Points := ((t.Points ++ [mark]).drop 0).take t.Points.length }
theorem lentT_eq (t : GTouch) : lentT t = t := by unfold lentT; simp

noncomputable def cLent (t : GTouch) : FC G := FC.at [.s .touch] (t, ()) (.agg (cellsS t t.Points.length)) [.rows .point (t.Points ++ [mark])]
noncomputable def cKeep (t : GTouch) (l : List GRow) (q : KeepRes) : FC G := FC.at [.s .touch, .l .row] (t, l, ()) (q.r t) q.fr
noncomputable def cBack (t : GTouch) : FC G := FC.at [.tc, .s .touch] (({ t with Points := t.Points ++ [mark] }, t.Points.length), t, ()) (.bool true) []
noncomputable def LK (t : GTouch) (l : List GRow) (q : KeepRes) : Ctr := (16, cLent t) :: (20, cBack t) :: (17, cKeep t l q) :: (18, cKeep t l q) :: L80
theorem LK_ok (t : GTouch) (l : List GRow) (q : KeepRes) (h : t.Points.length ≤ 70) (hq : ∀ K, runKeep t l K = K (q.r t) [] q.fr) : AllOk (LK t l q) :=
  .cons (at_ok ok16 fun K => run16_at t h K) (.cons (at_ok ok20 fun K => run20_at t h (tsame_self t) K) (.cons (at_ok ok17 hq) (.cons (at_ok ok18 hq) L80ok)))
end Go.SX

/- What the functions of 'solve' and of its reference come to; a float that is finite. No statement of the seat is proved here. -/
namespace Go.SX
open Ieee

theorem signed_self (s : Bool) (m k : Nat) : signed s m k + signed (!s) m k = 0 := by
  rw [signed_sg, signed_sg]
  unfold sg
  cases s <;> simp <;> omega
theorem fsub_self {x : Nat} (h : rung x < 9218868437227405312) : fsub x x = 0 := by
  obtain ⟨m, k, e, _⟩ := read_fin h
  unfold fsub Format.sub
  rw [e]
  simp only [Datum.opposite, Datum.sum, Int.min_self, Int.sub_self, Int.toNat_zero, signed_self, if_true, Option.map_some, Option.getD_some, Int.natAbs_zero]
  cases neg? x <;> rfl
theorem ffin_rung (x : Nat) : ffin x = decide (rung x < 9218868437227405312) := by
  unfold ffin
  by_cases h : rung x < 9218868437227405312
  · rw [fsub_self h, decide_eq_true h]
    decide
  · rw [decide_eq_false h]
    have e : fsub x x = qnan := by
      unfold fsub Format.sub
      rw [read_eq, if_neg (by omega), if_neg h]
      split
      · simp only [Datum.opposite, Datum.sum]
        cases neg? x <;> rfl
      · rfl
    rw [e]
    exact feq_nan (.inl isNan_qnan)
/-- A float that is a number, finite, and not below nought. -/
def fpos (x : Nat) : Bool := ffin x && fle 0 x
theorem fpos_max (x : Nat) : fpos x = (fle 0 x && fle x 9218868437227405311) := by
  unfold fpos
  rw [ffin_rung]
  have h0 : isNan 0 = false := by decide
  have h1 : isNan 9218868437227405311 = false := by decide
  have v0 : val 0 = 0 := by decide
  have v1 : val 9218868437227405311 = (mg 9218868437227405311 : Int) := (val_pos (by decide)).1
  cases h : isNan x with
  | true => rw [fle_nan (.inr h), fle_nan (.inl h)]; simp
  | false =>
    rw [fle_val h0 h, fle_val h h1, v0, v1, Bool.eq_iff_iff]
    simp only [Bool.and_eq_true, decide_eq_true_eq]
    have hr : rung x ≤ 9218868437227405312 := by rw [isNan_rung, decide_eq_false_iff_not] at h; omega
    have hc : val x = (mg (rung x) : Int) ∨ val x = -(mg (rung x) : Int) := by
      unfold val sg
      split
      · exact .inr rfl
      · exact .inl rfl
    have hm := mg_lt_iff (r := rung x) (s := 9218868437227405312)
    have hs : mg 9218868437227405312 > mg 9218868437227405311 := mg_lt (by decide)
    have hi := mg_lt_iff (r := 9218868437227405311) (s := rung x)
    have hz := mg_zero (r := rung x)
    constructor
    · rintro ⟨a, b⟩
      refine ⟨b, ?_⟩
      rcases hc with hc | hc <;> omega
    · rintro ⟨a, b⟩
      refine ⟨?_, a⟩
      rcases hc with hc | hc <;> omega

/-! ### solve -/
def smay (s : GStill) : Bool := ((ffin s.Mass && fle 0 s.Mass) && ffin s.Inertia) && fle 0 s.Inertia
def rbad (n m : Int) (r : GRow) : Bool := rcheck r n m != 0
def sasked (rows : List GRow) (bodies : List GStill) : Int :=
  bif decide ((rows.length : Int) > 1048576) || decide ((bodies.length : Int) > 1024) then 4
  else bif rows.any (rbad rows.length bodies.length) then 200 else bif bodies.any (fun s => !smay s) then 200 else 0
def getR (l : List GRow) (i : Nat) : GRow := l.getD i row0
def getS (l : List GStill) (i : Int) : GStill := l.getD i.toNat still0
/-- A row's ends, of the row that it hangs on. -/
def endsOf (l : List GRow) (i : Nat) : GRow :=
  bif decide ((getR l i).Of ≥ 0) then
    { getR l i with Low := fsub 0 (bif !flt 0 (fmul (getR l i).Ratio (getR l (getR l i).Of.toNat).Push) then 0 else fmul (getR l i).Ratio (getR l (getR l i).Of.toNat).Push),
                    High := bif !flt 0 (fmul (getR l i).Ratio (getR l (getR l i).Of.toNat).Push) then 0 else fmul (getR l i).Ratio (getR l (getR l i).Of.toNat).Push }
  else getR l i
/-- One row's turn: the rows, the stills. -/
def turn1 (q : List GRow × List GStill) (i : Nat) : List GRow × List GStill :=
  let x := endsOf q.1 i
  let a := getS q.2 x.A
  let b := getS q.2 x.B
  bif rok x a b then (q.1.set i (rone x a b), (q.2.set x.A.toNat (roneA x a b)).set x.B.toNat (roneB x a b)) else (q.1.set i x, q.2)
def warm1 (l : List GRow) (s : List GStill) (i : Nat) : List GStill :=
  (s.set (getR l i).A.toNat (rwarmA (getR l i) (getS s (getR l i).A) (getS s (getR l i).B))).set (getR l i).B.toNat (rwarmB (getR l i) (getS s (getR l i).A) (getS s (getR l i).B))
def warmAll (l : List GRow) (s : List GStill) : List GStill := (List.range l.length).foldl (warm1 l) s
def round1 (q : List GRow × List GStill) : List GRow × List GStill := (List.range q.1.length).foldl turn1 q
def rounds (n : Nat) (q : List GRow × List GStill) : List GRow × List GStill := (List.range n).foldl (fun q _ => round1 q) q
def solved (l : List GRow) (s : List GStill) (n : Nat) : List GRow × List GStill := rounds n (l, warmAll l s)
end Go.SX

/- PRINTED BY A PROGRAM OF THIS SEAT: contracts, batch Ja: masses. No statement of the seat is proved here. -/
namespace Go.SX
open Go.Proofs
set_option maxRecDepth 20000
/-- Contracts of one function, each for its own kinds of arguments. -/
def FC.alt {ks : List AK} (run : dens ks → (RV G → List (Blk G) → List (Blk G) → Ans G) → Ans G) (rest : FC G) : FC G := FC.ofRun [] fun vs bs K => match decs' ks vs with | some x => run x K | none => rest.run vs bs K
theorem FcOk.alt {f : Nat} {ks : List AK} {run : dens ks → (RV G → List (Blk G) → List (Blk G) → Ans G) → Ans G} {rest : FC G} (h : FcOk Try.prog f (FC.rn ks run)) (g : FcOk Try.prog f rest) (hm : rest.mu = []) : FcOk Try.prog f (FC.alt run rest) where
  pure _ _ h := by cases h
  run vs bs K o e := by
    simp only [FC.alt, FC.ofRun] at e
    split at e
    · rename_i x hx
      refine h.run vs bs K o ?_
      simp only [FC.rn, FC.ofRun, hx]
      exact e
    · have := g.run vs bs K o e
      rw [hm] at this
      exact this
theorem rn_of_sp {f : Nat} {ks : List AK} {res : dens ks → RV G} (h : FcOk Try.prog f (FC.sp ks res)) : FcOk Try.prog f (FC.rn ks fun x K => K (res x) [] []) := h.sub rfl (fun _ => rfl) fun a bs K o e => by
  simp only [FC.rn, FC.ofRun, FC.sp, FC.ofPure] at e ⊢
  split at e
  · exact e
  · cases e
/-! ### masses -/
def mass0 : GMass := ⟨0, 0, ⟨0, 0⟩⟩
def mok (m : GMass) : Bool := (fpos m.Mass && fpos m.Inertia) && vwithin m.Centre 4787326403894837248
def merr (m : GMass) : Int := bif mok m then 0 else 80
def mchk (m : GMass) : GMass := bif mok m then m else mass0
def mabout (m : GMass) (p : GVec) : Nat := fadd m.Inertia (fmul m.Mass (vsq (vsub p m.Centre)))
def fover (a : Nat) : Nat := bif ffin (fdiv 4607182418800017408 a) then fdiv 4607182418800017408 a else 0
def msame (a b : GMass) : Bool := (fis a.Mass b.Mass && fis a.Inertia b.Inertia) && vsame a.Centre b.Centre
theorem vwithin_max (a : GVec) : vwithin a 4787326403894837248 = vawithin a 4787326403894837248 := by unfold vwithin vawithin; rw [within_max, within_max]
def c123 : FC G := FC.sp [.s .f64] fun (a, _) => .bool (fpos a)
theorem ok123 : FcOk Try.prog 123 c123 := sp0 L44ok Try.func123 (by kernel_rfl) (by kernel_rfl) (by kernel_rfl) fun (a, _) K => by kernel_rfl
def L123 : Ctr := (123, c123) :: L44
theorem L123ok : AllOk L123 := .cons ok123 L44ok
def c124 : FC G := FC.sp [.s .f64] fun (a, _) => .bool (fpos a)
theorem ok124 : FcOk Try.prog 124 c124 := sp0 L123ok Try.func124 (by kernel_rfl) (by kernel_rfl) (by kernel_rfl) fun (a, _) K => (show xfn (EV L123 []) Try.f124 [] (encs [.s .f64] (a, ())) [] K = (K (.bool (fle 0 a && feq (fsub a a) 0)) [] []) from by kernel_rfl).trans (show (K (.bool (fle 0 a && feq (fsub a a) 0)) [] []) = K (.bool (fpos a)) [] [] from by unfold fpos ffin; rw [Bool.and_comm])
def L124 : Ctr := (124, c124) :: L123
theorem L124ok : AllOk L124 := .cons ok124 L123ok
def c57 : FC G := FC.sp [.s .mass] fun (m, _) => .int .i64 (merr m)
theorem ok57 : FcOk Try.prog 57 c57 := sp0 L124ok Try.func57 (by kernel_rfl) (by kernel_rfl) (by kernel_rfl) fun (m, _) K => (show xfn (EV L124 []) Try.f57 [] (encs [.s .mass] (m, ())) [] K = (bif ((!fpos m.Mass || !fpos m.Inertia) || !vwithin m.Centre 4787326403894837248) then K (.int .i64 80) [] [] else K (.int .i64 0) [] []) from by kernel_rfl).trans (show (bif ((!fpos m.Mass || !fpos m.Inertia) || !vwithin m.Centre 4787326403894837248) then K (.int .i64 80) [] [] else K (.int .i64 0) [] []) = K (.int .i64 (merr m)) [] [] from by unfold merr mok; cases fpos m.Mass <;> cases fpos m.Inertia <;> cases vwithin m.Centre 4787326403894837248 <;> rfl)
def L57 : Ctr := (57, c57) :: L124
theorem L57ok : AllOk L57 := .cons ok57 L124ok
def c58 : FC G := FC.sp [.s .mass] fun (m, _) => .int .i64 (merr m)
theorem ok58 : FcOk Try.prog 58 c58 := sp0 L57ok Try.func58 (by kernel_rfl) (by kernel_rfl) (by kernel_rfl) fun (m, _) K => (show xfn (EV L57 []) Try.f58 [] (encs [.s .mass] (m, ())) [] K = (bif ((!fpos m.Mass || !fpos m.Inertia) || !vawithin m.Centre 4787326403894837248) then K (.int .i64 80) [] [] else K (.int .i64 0) [] []) from by kernel_rfl).trans (show (bif ((!fpos m.Mass || !fpos m.Inertia) || !vawithin m.Centre 4787326403894837248) then K (.int .i64 80) [] [] else K (.int .i64 0) [] []) = K (.int .i64 (merr m)) [] [] from by rw [← vwithin_max]; unfold merr mok; cases fpos m.Mass <;> cases fpos m.Inertia <;> cases vwithin m.Centre 4787326403894837248 <;> rfl)
def L58 : Ctr := (58, c58) :: L57
theorem L58ok : AllOk L58 := .cons ok58 L57ok
def c52 : FC G := FC.sp [.s .mass, .s .mass] fun (a, b, _) => .bool (msame a b)
theorem ok52 : FcOk Try.prog 52 c52 := sp0 L58ok Try.func52 (by kernel_rfl) (by kernel_rfl) (by kernel_rfl) fun (a, b, _) K => by kernel_rfl
def L52 : Ctr := (52, c52) :: L58
theorem L52ok : AllOk L52 := .cons ok52 L58ok
def c114 : FC G := FC.sp [.s .mass, .s .vec] fun (m, p, _) => .flt (mabout m p)
theorem ok114 : FcOk Try.prog 114 c114 := sp0 L52ok Try.func114 (by kernel_rfl) (by kernel_rfl) (by kernel_rfl) fun (m, p, _) K => by kernel_rfl
def L114 : Ctr := (114, c114) :: L52
theorem L114ok : AllOk L114 := .cons ok114 L52ok
def c53 : FC G := FC.sp [.s .mass, .s .vec] fun (m, p, _) => .tuple [.flt (bif mok m && vwithin p 4787326403894837248 then mabout m p else 0), .int .i64 (bif !mok m then 80 else bif !vwithin p 4787326403894837248 then 5 else 0)]
theorem ok53 : FcOk Try.prog 53 c53 := sp0 L114ok Try.func53 (by kernel_rfl) (by kernel_rfl) (by kernel_rfl) fun (m, p, _) K => (show xfn (EV L114 []) Try.f53 [] (encs [.s .mass, .s .vec] (m, p, ())) [] K = (bif merr m != 0 then K (.tuple [.flt 0, .int .i64 (merr m)]) [] [] else bif !vwithin p 4787326403894837248 then K (.tuple [.flt 0, .int .i64 5]) [] [] else K (.tuple [.flt (mabout m p), .int .i64 0]) [] []) from by kernel_rfl).trans (show (bif merr m != 0 then K (.tuple [.flt 0, .int .i64 (merr m)]) [] [] else bif !vwithin p 4787326403894837248 then K (.tuple [.flt 0, .int .i64 5]) [] [] else K (.tuple [.flt (mabout m p), .int .i64 0]) [] []) = K (.tuple [.flt (bif mok m && vwithin p 4787326403894837248 then mabout m p else 0), .int .i64 (bif !mok m then 80 else bif !vwithin p 4787326403894837248 then 5 else 0)]) [] [] from by unfold merr; cases mok m <;> cases vwithin p 4787326403894837248 <;> rfl)
def L53 : Ctr := (53, c53) :: L114
theorem L53ok : AllOk L53 := .cons ok53 L114ok
def c54 : FC G := FC.sp [.s .mass, .s .vec] fun (m, p, _) => .tuple [.flt (bif mok m && vwithin p 4787326403894837248 then mabout m p else 0), .int .i64 (bif !mok m then 80 else bif !vwithin p 4787326403894837248 then 5 else 0)]
theorem ok54 : FcOk Try.prog 54 c54 := sp0 L53ok Try.func54 (by kernel_rfl) (by kernel_rfl) (by kernel_rfl) fun (m, p, _) K => (show xfn (EV L53 []) Try.f54 [] (encs [.s .mass, .s .vec] (m, p, ())) [] K = (bif merr m != 0 then K (.tuple [.flt 0, .int .i64 80]) [] [] else bif !vawithin p 4787326403894837248 then K (.tuple [.flt 0, .int .i64 5]) [] [] else K (.tuple [.flt (mabout m p), .int .i64 0]) [] []) from by kernel_rfl).trans (show (bif merr m != 0 then K (.tuple [.flt 0, .int .i64 80]) [] [] else bif !vawithin p 4787326403894837248 then K (.tuple [.flt 0, .int .i64 5]) [] [] else K (.tuple [.flt (mabout m p), .int .i64 0]) [] []) = K (.tuple [.flt (bif mok m && vwithin p 4787326403894837248 then mabout m p else 0), .int .i64 (bif !mok m then 80 else bif !vwithin p 4787326403894837248 then 5 else 0)]) [] [] from by rw [← vwithin_max]; unfold merr; cases mok m <;> cases vwithin p 4787326403894837248 <;> rfl)
def L54 : Ctr := (54, c54) :: L53
theorem L54ok : AllOk L54 := .cons ok54 L53ok
def c121 : FC G := FC.sp [.s .f64] fun (a, _) => .flt (fover a)
theorem ok121 : FcOk Try.prog 121 c121 := sp0 L54ok Try.func121 (by kernel_rfl) (by kernel_rfl) (by kernel_rfl) fun (a, _) K => (show xfn (EV L54 []) Try.f121 [] (encs [.s .f64] (a, ())) [] K = (bif ffin (fdiv 4607182418800017408 a) then K (.flt (fdiv 4607182418800017408 a)) [] [] else K (.flt 0) [] []) from by kernel_rfl).trans (show (bif ffin (fdiv 4607182418800017408 a) then K (.flt (fdiv 4607182418800017408 a)) [] [] else K (.flt 0) [] []) = K (.flt (fover a)) [] [] from by unfold fover; cases ffin (fdiv 4607182418800017408 a) <;> rfl)
def L121 : Ctr := (121, c121) :: L54
theorem L121ok : AllOk L121 := .cons ok121 L54ok
def c122 : FC G := FC.sp [.s .f64] fun (a, _) => .flt (fover a)
theorem ok122 : FcOk Try.prog 122 c122 := sp0 L121ok Try.func122 (by kernel_rfl) (by kernel_rfl) (by kernel_rfl) fun (a, _) K => (show xfn (EV L121 []) Try.f122 [] (encs [.s .f64] (a, ())) [] K = (bif !ffin (fdiv 4607182418800017408 a) then K (.flt 0) [] [] else K (.flt (fdiv 4607182418800017408 a)) [] []) from by kernel_rfl).trans (show (bif !ffin (fdiv 4607182418800017408 a) then K (.flt 0) [] [] else K (.flt (fdiv 4607182418800017408 a)) [] []) = K (.flt (fover a)) [] [] from by unfold fover; cases ffin (fdiv 4607182418800017408 a) <;> rfl)
def L122 : Ctr := (122, c122) :: L121
theorem L122ok : AllOk L122 := .cons ok122 L121ok
def c55 : FC G := FC.sp [.s .mass] fun (m, _) => .tuple [.flt (bif mok m then fover m.Mass else 0), .flt (bif mok m then fover m.Inertia else 0), .int .i64 (merr m)]
theorem ok55 : FcOk Try.prog 55 c55 := sp0 L122ok Try.func55 (by kernel_rfl) (by kernel_rfl) (by kernel_rfl) fun (m, _) K => (show xfn (EV L122 []) Try.f55 [] (encs [.s .mass] (m, ())) [] K = (bif merr m != 0 then K (.tuple [.flt 0, .flt 0, .int .i64 (merr m)]) [] [] else K (.tuple [.flt (fover m.Mass), .flt (fover m.Inertia), .int .i64 0]) [] []) from by kernel_rfl).trans (show (bif merr m != 0 then K (.tuple [.flt 0, .flt 0, .int .i64 (merr m)]) [] [] else K (.tuple [.flt (fover m.Mass), .flt (fover m.Inertia), .int .i64 0]) [] []) = K (.tuple [.flt (bif mok m then fover m.Mass else 0), .flt (bif mok m then fover m.Inertia else 0), .int .i64 (merr m)]) [] [] from by unfold merr; cases mok m <;> rfl)
def L55 : Ctr := (55, c55) :: L122
theorem L55ok : AllOk L55 := .cons ok55 L122ok
def c56 : FC G := FC.sp [.s .mass] fun (m, _) => .tuple [.flt (bif mok m then fover m.Mass else 0), .flt (bif mok m then fover m.Inertia else 0), .int .i64 (merr m)]
theorem ok56 : FcOk Try.prog 56 c56 := sp0 L55ok Try.func56 (by kernel_rfl) (by kernel_rfl) (by kernel_rfl) fun (m, _) K => (show xfn (EV L55 []) Try.f56 [] (encs [.s .mass] (m, ())) [] K = (bif merr m != 0 then K (.tuple [.flt 0, .flt 0, .int .i64 80]) [] [] else K (.tuple [.flt (fover m.Mass), .flt (fover m.Inertia), .int .i64 0]) [] []) from by kernel_rfl).trans (show (bif merr m != 0 then K (.tuple [.flt 0, .flt 0, .int .i64 80]) [] [] else K (.tuple [.flt (fover m.Mass), .flt (fover m.Inertia), .int .i64 0]) [] []) = K (.tuple [.flt (bif mok m then fover m.Mass else 0), .flt (bif mok m then fover m.Inertia else 0), .int .i64 (merr m)]) [] [] from by unfold merr; cases mok m <;> rfl)
def L56 : Ctr := (56, c56) :: L55
theorem L56ok : AllOk L56 := .cons ok56 L55ok
def c115 : FC G := FC.sp [.s .mass] fun (m, _) => .tuple [encR .mass (mchk m), .int .i64 (merr m)]
theorem ok115 : FcOk Try.prog 115 c115 := sp0 L56ok Try.func115 (by kernel_rfl) (by kernel_rfl) (by kernel_rfl) fun (m, _) K => (show xfn (EV L56 []) Try.f115 [] (encs [.s .mass] (m, ())) [] K = (bif merr m != 0 then K (.tuple [encR .mass mass0, .int .i64 (merr m)]) [] [] else K (.tuple [encR .mass m, .int .i64 0]) [] []) from by kernel_rfl).trans (show (bif merr m != 0 then K (.tuple [encR .mass mass0, .int .i64 (merr m)]) [] [] else K (.tuple [encR .mass m, .int .i64 0]) [] []) = K (.tuple [encR .mass (mchk m), .int .i64 (merr m)]) [] [] from by unfold mchk merr; cases mok m <;> rfl)
def L115 : Ctr := (115, c115) :: L56
theorem L115ok : AllOk L115 := .cons ok115 L56ok
def c119 : FC G := FC.sp [.s .mass] fun (m, _) => .tuple [encR .mass (mchk m), .int .i64 (merr m)]
theorem ok119 : FcOk Try.prog 119 c119 := sp0 L115ok Try.func119 (by kernel_rfl) (by kernel_rfl) (by kernel_rfl) fun (m, _) K => (show xfn (EV L115 []) Try.f119 [] (encs [.s .mass] (m, ())) [] K = (bif merr m != 0 then K (.tuple [encR .mass mass0, .int .i64 (merr m)]) [] [] else K (.tuple [encR .mass m, .int .i64 0]) [] []) from by kernel_rfl).trans (show (bif merr m != 0 then K (.tuple [encR .mass mass0, .int .i64 (merr m)]) [] [] else K (.tuple [encR .mass m, .int .i64 0]) [] []) = K (.tuple [encR .mass (mchk m), .int .i64 (merr m)]) [] [] from by unfold mchk merr; cases mok m <;> rfl)
def L119 : Ctr := (119, c119) :: L115
theorem L119ok : AllOk L119 := .cons ok119 L115ok
def c110 : FC G := FC.sp [.s .mass] fun (m, _) => .flt m.Mass
theorem ok110 : FcOk Try.prog 110 c110 := sp0 L119ok Try.func110 (by kernel_rfl) (by kernel_rfl) (by kernel_rfl) fun (m, _) K => by kernel_rfl
def L110 : Ctr := (110, c110) :: L119
theorem L110ok : AllOk L110 := .cons ok110 L119ok
def c111 : FC G := FC.sp [.s .mass] fun (m, _) => .flt (fmul m.Mass m.Centre.X)
theorem ok111 : FcOk Try.prog 111 c111 := sp0 L110ok Try.func111 (by kernel_rfl) (by kernel_rfl) (by kernel_rfl) fun (m, _) K => by kernel_rfl
def L111 : Ctr := (111, c111) :: L110
theorem L111ok : AllOk L111 := .cons ok111 L110ok
def c112 : FC G := FC.sp [.s .mass] fun (m, _) => .flt (fmul m.Mass m.Centre.Y)
theorem ok112 : FcOk Try.prog 112 c112 := sp0 L111ok Try.func112 (by kernel_rfl) (by kernel_rfl) (by kernel_rfl) fun (m, _) K => by kernel_rfl
def L112 : Ctr := (112, c112) :: L111
theorem L112ok : AllOk L112 := .cons ok112 L111ok
def c113 : FC G := FC.sp [.s .mass, .p .vec] fun (m, c, _) => .flt (mabout m c)
theorem ok113 : FcOk Try.prog 113 c113 := sp0 L112ok Try.func113 (by kernel_rfl) (by kernel_rfl) (by kernel_rfl) fun (m, c, _) K => by kernel_rfl
def L113 : Ctr := (113, c113) :: L112
theorem L113ok : AllOk L113 := .cons ok113 L112ok
end Go.SX

/- PRINTED BY A PROGRAM OF THIS SEAT: contracts, batch Ga: may rows and stills be. No statement of the seat is proved here. -/
namespace Go.SX
open Go.Proofs
set_option maxRecDepth 20000
def c153 : FC G := FC.sp [.s .still] fun (s, _) => .bool (smay s)
theorem ok153 : FcOk Try.prog 153 c153 := sp0 L89ok Try.func153 (by kernel_rfl) (by kernel_rfl) (by kernel_rfl) fun (s, _) K => by kernel_rfl
def L153 : Ctr := (153, c153) :: L89
theorem L153ok : AllOk L153 := .cons ok153 L89ok
def c154 : FC G := FC.sp [.s .still] fun (s, _) => .bool (smay s)
theorem ok154 : FcOk Try.prog 154 c154 := sp0 L153ok Try.func154 (by kernel_rfl) (by kernel_rfl) (by kernel_rfl) fun (s, _) K => (show xfn (EV L153 []) Try.f154 [] (encs [.s .still] (s, ())) [] K = (K (.bool (((fle 0 s.Mass && fle s.Mass 9218868437227405311) && fle 0 s.Inertia) && fle s.Inertia 9218868437227405311)) [] []) from by kernel_rfl).trans (show (K (.bool (((fle 0 s.Mass && fle s.Mass 9218868437227405311) && fle 0 s.Inertia) && fle s.Inertia 9218868437227405311)) [] []) = K (.bool (smay s)) [] [] from by congr 2; rw [← fpos_max, Bool.and_assoc, ← fpos_max]; unfold smay fpos; ac_rfl)
def L154 : Ctr := (154, c154) :: L153
theorem L154ok : AllOk L154 := .cons ok154 L153ok
def c152 : FC G := FC.sp [.s .still] fun (s, _) => .bool (!smay s)
theorem ok152 : FcOk Try.prog 152 c152 := sp0 L154ok Try.func152 (by kernel_rfl) (by kernel_rfl) (by kernel_rfl) fun (s, _) K => by kernel_rfl
def L152 : Ctr := (152, c152) :: L154
theorem L152ok : AllOk L152 := .cons ok152 L154ok
def lc192 : LC G := ⟨hdFind, fun vs bs K => match vs, bs with
  | [.rslice .still xs, .func 152 [], .int .i64 0, .int .i64 n, .int .i64 i], [] => bif i == 0 && (n == (xs.length : Int) && decide (xs.length < 9223372036854775808)) then
      (bif xs.any (fun s => !smay s) then K .ret [.rslice .still xs, .func 152 [], .int .i64 (xs.findIdx (fun s => !smay s) : Nat), .int .i64 n, .int .i64 (xs.findIdx (fun s => !smay s) : Nat)] []
       else K (.exit 0) [.rslice .still xs, .func 152 [], .int .i64 0, .int .i64 n, .int .i64 (xs.length : Nat)] []) else none
  | _, _ => none⟩
theorem step192 (xs : List (TD .still)) (n : Nat) (i : Int) (K) : iter (EV L152 [(2, lc192)]) hdFind (lpBody Try.f192 0) (n + 1) [.rslice .still xs, .func 152 [], .int .i64 0, .int .i64 xs.length, .int .i64 i] [] K =
    bif decide (i < (xs.length : Int)) then (getI xs i).bind fun x => bif (fun s => !smay s) x then K .ret [.rslice .still xs, .func 152 [], .int .i64 i, .int .i64 xs.length, .int .i64 i] [] else
      iter (EV L152 [(2, lc192)]) hdFind (lpBody Try.f192 0) n [.rslice .still xs, .func 152 [], .int .i64 0, .int .i64 xs.length, .int .i64 (IntKind.i64.wrap (i + 1))] [] K
    else K (.exit 0) [.rslice .still xs, .func 152 [], .int .i64 0, .int .i64 xs.length, .int .i64 i] [] := by kernel_rfl
theorem lp192 : LpOk (EV L152 [(2, lc192)]) [] (lpBody Try.f192 0) lc192 := lpOk_of (by kernel_rfl) fun vs bs K o h => by
  simp only [lc192] at h
  split at h
  · rename_i xs n i
    obtain ⟨hc, h2⟩ := cond_none h
    simp only [Bool.and_eq_true, beq_iff_eq, decide_eq_true_eq] at hc
    obtain ⟨rfl, rfl, hc⟩ := hc
    exact ⟨_, (find_loop (F := fun n i => iter (EV L152 [(2, lc192)]) hdFind (lpBody Try.f192 0) n [.rslice .still xs, .func 152 [], .int .i64 0, .int .i64 xs.length, .int .i64 i] [] K) (R := fun i => K .ret [.rslice .still xs, .func 152 [], .int .i64 i, .int .i64 xs.length, .int .i64 i] []) (X := fun i => K (.exit 0) [.rslice .still xs, .func 152 [], .int .i64 0, .int .i64 xs.length, .int .i64 i] []) (fun n i => step192 xs n i K) hc).trans h2⟩
  · cases h
def c192 : FC G := FC.sp [.l .still, .f 152] fun (xs, _, _) => .int .i64 (bif xs.any (fun s => !smay s) then (xs.findIdx (fun s => !smay s) : Nat) else -1)
theorem ok192 : FcOk Try.prog 192 c192 := sp_wf L152ok Try.func192 (by kernel_rfl) [(2, lc192)] (lps1 (i := 2) (by kernel_rfl) rfl lp192) (by kernel_rfl) fun (xs, _, _) ⟨hx, _⟩ K => (show xfn (EV L152 [(2, lc192)]) Try.f192 [] (encs [.l .still, .f 152] (xs, (), ())) [] K = (bif (0 : Int) == 0 && ((xs.length : Int) == (xs.length : Int) && decide (xs.length < 9223372036854775808)) then (bif xs.any (fun s => !smay s) then K (.int .i64 (xs.findIdx (fun s => !smay s) : Nat)) [] [] else K (.int .i64 (-1)) [] []) else none) from by kernel_rfl).trans (show (bif (0 : Int) == 0 && ((xs.length : Int) == (xs.length : Int) && decide (xs.length < 9223372036854775808)) then (bif xs.any (fun s => !smay s) then K (.int .i64 (xs.findIdx (fun s => !smay s) : Nat)) [] [] else K (.int .i64 (-1)) [] []) else none) = K (.int .i64 (bif xs.any (fun s => !smay s) then (xs.findIdx (fun s => !smay s) : Nat) else -1)) [] [] from by have hx : xs.length < 9223372036854775808 := hx; simp only [BEq.rfl, hx, decide_true, Bool.and_self, cond_true]; cases xs.any (fun s => !smay s) <;> rfl)
def L192 : Ctr := (192, c192) :: L152
theorem L192ok : AllOk L192 := .cons ok192 L152ok
def c151 : FC G := FC.sp [.l .still, .f 152] fun (xs, _, _) => .bool (xs.any (fun s => !smay s))
theorem ok151 : FcOk Try.prog 151 c151 := sp0 L192ok Try.func151 (by kernel_rfl) (by kernel_rfl) (by kernel_rfl) fun (xs, _, _) K => (show xfn (EV L192 []) Try.f151 [] (encs [.l .still, .f 152] (xs, (), ())) [] K = (K (.bool (decide ((bif xs.any (fun s => !smay s) then ((xs.findIdx (fun s => !smay s) : Nat) : Int) else -1) ≥ 0))) [] []) from by kernel_rfl).trans (by rw [idx_ge])
def L151 : Ctr := (151, c151) :: L192
theorem L151ok : AllOk L151 := .cons ok151 L192ok
theorem rcheck_two (r : GRow) (n m : Int) : rcheck r n m = 0 ∨ rcheck r n m = 200 := by
  unfold rcheck
  cases (rfits r && !(decide (r.A ≥ m) || decide (r.B ≥ m))) && !decide (r.Of ≥ n)
  · exact .inr rfl
  · exact .inl rfl
theorem rbad_K {β : Type} (r : GRow) (n m : Int) (f : Int → β) (x : β) : (bif rcheck r n m != 0 then f (rcheck r n m) else x) = bif rbad n m r then f 200 else x := by
  unfold rbad
  rcases rcheck_two r n m with h | h <;> rw [h] <;> rfl
def hd87 : LH G := ⟨[0, 1, 4, 16, 17, 18], [], []⟩
def W87 (l : List GRow) (b : List GStill) (e i : Int) : List (RV G) := [.rslice .row l, .rslice .still b, .int .i64 e, .rslice .row l, .int .i64 l.length, .int .i64 i]
def OUT87 (l : List GRow) (b : List GStill) (K : XE → List (RV G) → List (Blk G) → Ans G) : Ans G := bif l.any (rbad l.length b.length) then K .ret (W87 l b 200 (l.findIdx (rbad l.length b.length) : Nat)) [] else K (.exit 0) (W87 l b 0 (l.length : Nat)) []
noncomputable def E87 (l : List GRow) (b : List GStill) : List (Nat × LC G) := [(4, lcOf hd87 (W87 l b 0 0) [] (OUT87 l b))]
theorem step87 (l : List GRow) (b : List GStill) (n : Nat) (i : Int) (K) : iter (EV L151 (E87 l b)) hd87 (lpBody Try.f87 0) (n + 1) (W87 l b 0 i) [] K = bif decide (i < (l.length : Int)) then (getI l i).bind fun r =>
    bif rcheck r l.length b.length != 0 then K .ret (W87 l b (rcheck r l.length b.length) i) [] else iter (EV L151 (E87 l b)) hd87 (lpBody Try.f87 0) n (W87 l b 0 (IntKind.i64.wrap (i + 1))) [] K
  else K (.exit 0) (W87 l b 0 i) [] := by kernel_rfl
theorem lp87 (l : List GRow) (b : List GStill) (hx : l.length < 9223372036854775808) : LpOk (EV L151 (E87 l b)) [] (lpBody Try.f87 0) (lcOf hd87 (W87 l b 0 0) [] (OUT87 l b)) := lcOf_ok (by kernel_rfl) fun K => ⟨_, find_loop (xs := l) (p := rbad l.length b.length) (F := fun n i => iter (EV L151 (E87 l b)) hd87 (lpBody Try.f87 0) n (W87 l b 0 i) [] K)
  (R := fun i => K .ret (W87 l b 200 i) []) (X := fun i => K (.exit 0) (W87 l b 0 i) []) (fun n i => by
    rw [step87]
    congr 1
    congr 1
    funext r
    exact rbad_K r _ _ (fun e => K .ret (W87 l b e i) []) _) hx⟩
def c87 : FC G := FC.sp [.l .row, .l .still] fun (l, b, _) => .int .i64 (sasked l b)
theorem x87 (l : List GRow) (b : List GStill) (K) : xfn (EV L151 (E87 l b)) Try.f87 [] (encs [.l .row, .l .still] (l, b, ())) [] K = K (.int .i64 (sasked l b)) [] [] :=
  (show _ = (bif decide ((l.length : Int) > 1048576) || decide ((b.length : Int) > 1024) then K (.int .i64 4) [] [] else gate (W87 l b 0 0 = W87 l b 0 0 ∧ ([] : List (Blk G)) = []) (bif l.any (rbad l.length b.length) then K (.int .i64 200) [] [] else bif !b.any (fun s => !smay s) then K (.int .i64 0) [] [] else K (.int .i64 200) [] [])) from by kernel_rfl).trans (by
  rw [gate_pos ⟨rfl, rfl⟩]
  unfold sasked
  cases decide ((l.length : Int) > 1048576) || decide ((b.length : Int) > 1024) <;> cases l.any (rbad l.length b.length) <;> cases b.any (fun s => !smay s) <;> rfl)
theorem ok87 : FcOk Try.prog 87 c87 := sp_lp L151ok Try.func87 (by kernel_rfl) (by kernel_rfl) fun (l, b, _) ⟨hx, _, _⟩ => ⟨E87 l b, lps1 (i := 4) (by kernel_rfl) rfl (lp87 l b hx), fun K => x87 l b K⟩
def L87 : Ctr := (87, c87) :: L151
theorem L87ok : AllOk L87 := .cons ok87 L151ok
def hd92a : LH G := ⟨[0, 1, 4, 5], [], []⟩
def hd92b : LH G := ⟨[0, 1, 4, 6], [], []⟩
def W92 (l : List GRow) (b : List GStill) (e i : Int) : List (RV G) := [.rslice .row l, .rslice .still b, .int .i64 e, .int .i64 i]
def OUT92a (l : List GRow) (b : List GStill) (K : XE → List (RV G) → List (Blk G) → Ans G) : Ans G := bif l.any (rbad l.length b.length) then K .ret (W92 l b 200 (l.findIdx (rbad l.length b.length) : Nat)) [] else K (.exit 0) (W92 l b 0 (l.length : Nat)) []
def OUT92b (l : List GRow) (b : List GStill) (K : XE → List (RV G) → List (Blk G) → Ans G) : Ans G := bif b.any (fun s => !smay s) then K .ret (W92 l b 200 (b.findIdx (fun s => !smay s) : Nat)) [] else K (.exit 2) (W92 l b 0 (b.length : Nat)) []
noncomputable def E92 (l : List GRow) (b : List GStill) : List (Nat × LC G) := [(4, lcOf hd92a (W92 l b 0 0) [] (OUT92a l b)), (9, lcOf hd92b (W92 l b 0 0) [] (OUT92b l b))]
theorem step92a (l : List GRow) (b : List GStill) (n : Nat) (i : Int) (K) : iter (EV L87 (E92 l b)) hd92a (lpBody Try.f92 0) (n + 1) (W92 l b 0 i) [] K = bif decide (i < (l.length : Int)) then (getI l i).bind fun r =>
    bif rcheck r l.length b.length != 0 then K .ret (W92 l b 200 i) [] else iter (EV L87 (E92 l b)) hd92a (lpBody Try.f92 0) n (W92 l b 0 (IntKind.i64.wrap (i + 1))) [] K
  else K (.exit 0) (W92 l b 0 i) [] := by kernel_rfl
theorem step92b (l : List GRow) (b : List GStill) (n : Nat) (i : Int) (K) : iter (EV L87 (E92 l b)) hd92b (lpBody Try.f92 1) (n + 1) (W92 l b 0 i) [] K = bif decide (i < (b.length : Int)) then (getI b i).bind fun s =>
    bif !smay s then K .ret (W92 l b 200 i) [] else iter (EV L87 (E92 l b)) hd92b (lpBody Try.f92 1) n (W92 l b 0 (IntKind.i64.wrap (i + 1))) [] K
  else K (.exit 2) (W92 l b 0 i) [] := by kernel_rfl
theorem lp92a (l : List GRow) (b : List GStill) (hx : l.length < 9223372036854775808) : LpOk (EV L87 (E92 l b)) [] (lpBody Try.f92 0) (lcOf hd92a (W92 l b 0 0) [] (OUT92a l b)) := lcOf_ok (by kernel_rfl) fun K => ⟨_, find_loop (xs := l) (p := rbad l.length b.length) (F := fun n i => iter (EV L87 (E92 l b)) hd92a (lpBody Try.f92 0) n (W92 l b 0 i) [] K)
  (R := fun i => K .ret (W92 l b 200 i) []) (X := fun i => K (.exit 0) (W92 l b 0 i) []) (fun n i => step92a l b n i K) hx⟩
theorem lp92b (l : List GRow) (b : List GStill) (hx : b.length < 9223372036854775808) : LpOk (EV L87 (E92 l b)) [] (lpBody Try.f92 1) (lcOf hd92b (W92 l b 0 0) [] (OUT92b l b)) := lcOf_ok (by kernel_rfl) fun K => ⟨_, find_loop (xs := b) (p := fun s => !smay s) (F := fun n i => iter (EV L87 (E92 l b)) hd92b (lpBody Try.f92 1) n (W92 l b 0 i) [] K)
  (R := fun i => K .ret (W92 l b 200 i) []) (X := fun i => K (.exit 2) (W92 l b 0 i) []) (fun n i => step92b l b n i K) hx⟩
def c92 : FC G := FC.sp [.l .row, .l .still] fun (l, b, _) => .int .i64 (sasked l b)
theorem x92 (l : List GRow) (b : List GStill) (K) : xfn (EV L87 (E92 l b)) Try.f92 [] (encs [.l .row, .l .still] (l, b, ())) [] K = K (.int .i64 (sasked l b)) [] [] :=
  (show _ = (bif decide ((l.length : Int) > 1048576) || decide ((b.length : Int) > 1024) then K (.int .i64 4) [] [] else gate (W92 l b 0 0 = W92 l b 0 0 ∧ ([] : List (Blk G)) = []) (bif l.any (rbad l.length b.length) then K (.int .i64 200) [] [] else
    gate (W92 l b 0 0 = W92 l b 0 0 ∧ ([] : List (Blk G)) = []) (bif b.any (fun s => !smay s) then K (.int .i64 200) [] [] else K (.int .i64 0) [] []))) from by kernel_rfl).trans (by
  rw [gate_pos ⟨rfl, rfl⟩, gate_pos ⟨rfl, rfl⟩]
  unfold sasked
  cases decide ((l.length : Int) > 1048576) || decide ((b.length : Int) > 1024) <;> cases l.any (rbad l.length b.length) <;> cases b.any (fun s => !smay s) <;> rfl)
theorem ok92 : FcOk Try.prog 92 c92 := sp_lp L87ok Try.func92 (by kernel_rfl) (by kernel_rfl) fun (l, b, _) ⟨hx, hy, _⟩ => ⟨E92 l b, lps2 (i := 4) (j := 9) (by kernel_rfl) rfl (lp92a l b hx) rfl (lp92b l b hy), fun K => x92 l b K⟩
def L92 : Ctr := (92, c92) :: L87
theorem L92ok : AllOk L92 := .cons ok92 L87ok
end Go.SX

/- Contracts of functions that write their caller's rows. No statement of the seat is proved here. -/
namespace Go.SX
open Go.Proofs
section
variable {L : Ctr} (hL : AllOk L) {f : Nat} {fn : Func} (hf : Try.prog.funcs[f]? = some fn) (ho : fnOK fn = true)
include hL hf ho

/-- Rows are written and handed back. -/
theorem mu_ok (lp : List (Nat × LC G)) {mu : List Nat} (hlp : LpsOk (EV L lp) mu (bodyD fn)) {run : List (RV G) → List (Blk G) → (RV G → List (Blk G) → List (Blk G) → Ans G) → Ans G}
    (h : ∀ vs bs K o, run vs bs K = some o → vs.length ≤ fn.ntmps ∧ muIds mu vs = mu ∧ xfn (EV L lp) fn mu vs bs K = some o) : FcOk Try.prog f (FC.ofRun mu run) where
  pure _ _ h := by cases h
  run vs bs K o hr := by
    obtain ⟨h1, h2, h3⟩ := h vs bs K o hr
    obtain ⟨o1, o2, o3⟩ := fnOK_spec ho
    exact fn_ok (EV_ok hL lp) mixed hf o1 o2 o3 hlp h1 h2 h3

/-- Rows are given up: what is behind the call is not told. -/
theorem dead_ok (lp : List (Nat × LC G)) {mu : List Nat} (hlp : LpsOk (EV L lp) [] (bodyD fn)) (hres : fn.results = #[]) {ok : List (RV G) → List (Blk G) → Prop}
    (h : ∀ vs bs, ok vs bs → vs.length ≤ fn.ntmps ∧ ∃ out, xcode (EV L lp) (bodyD fn) ⟨startT vs, startM (muIds mu vs) bs⟩ (fun e _ => match e with | .exit _ => none | _ => some (.tuple [], [], [])) = some out)
    {run : List (RV G) → List (Blk G) → (RV G → List (Blk G) → List (Blk G) → Ans G) → Ans G}
    (hk : ∀ vs bs K o, run vs bs K = some o → ok vs bs ∧ bs.length = (muIds mu vs).length ∧ K (.tuple []) (bs.map fun _ => .dead) [] = some o) : FcOk Try.prog f (FC.ofRun mu run) where
  pure _ _ h := by cases h
  run vs bs K o hr := by
    obtain ⟨h0, hbl, hK⟩ := hk vs bs K o hr
    obtain ⟨h1, out, h2⟩ := h vs bs h0
    obtain ⟨o1, o2, o3⟩ := fnOK_spec ho
    obtain ⟨e, s1, g1, g2⟩ := xcode_fine (N := fn.ntmps) (mu := []) (EV_ok hL lp) mixed (bodyD fn) _ _ _ o3 hlp h2
    have hne : e = .normal ∨ e = .ret := by
      cases e with
      | normal => exact .inl rfl
      | exit i => cases g1
      | ret => exact .inr rfl
    refine ⟨_, _, _, hK, fun cx w us ids hids hl ha hal hi => ?_⟩
    have hids' : ids = muIds mu vs := hids
    subst hids'
    have hcall : (callFunc f us).run Try.prog w = .ok (.enter f us) w := by
      have hn : ¬ (fn.name = "runtime.NumGoroutine") := by simpa using o1
      simp [callFunc, program, Sem.run, hf, hn, o2]
    unfold CallsTo
    rw [hcall]
    refine calls_of_wp hf o2 (wp_mono (g2 _ _ cx _ w (start_rel h1 ha hi)) fun x a' w' ⟨hx, cx', x1, f1, r1⟩ => ?_)
    obtain ⟨v, hv, hrel⟩ := run_results (EV_ok hL lp).toEnvTy r1 (fn := fn) (rs := []) (by rw [hres]; rfl)
    have hpost : CallPost cx (muIds mu vs) w (.tuple [] : RV G) (bs.map fun _ => .dead) [] v w' := by
      refine ⟨fun _ => none, cx.St, ?_, ⟨Le.refl _, fun k ob hk => r1.rel.inv.stable k ob (x1.St k ob hk), fun k ob hk => .inl ⟨ob, hk⟩⟩, ⟨fun _ _ => rfl, fun j x h => by simp at h, fun j j' l l' k h => by cases h⟩, ⟨by simp [hbl], fun i id x _ hx l _ => ?_⟩,
        ⟨f1.size, fun k hk hn => f1.same k hk fun h => h.elim hn fun h => by omega, f1.os, f1.tape, f1.output⟩⟩
      · have : RVal cx'.φ cx'.St v (.tuple [] : RV G) := hrel
        cases this with
        | tuple hn g => exact .tuple hn fun j u r _ hr => by simp at hr
      · rw [List.getElem?_map] at hx
        obtain ⟨_, _, rfl⟩ := Option.map_eq_some_iff.1 hx
        trivial
    subst hx
    rcases hne with rfl | rfl
    · exact ⟨r1.rel.defers, v, hv, hpost⟩
    · exact ⟨r1.rel.defers, v, hv, hpost⟩
end
end Go.SX

/- One row's turn (solve.turn): it writes its caller's rows and stills. No statement of the seat is proved here. -/
namespace Go.SX
open Go.Proofs
set_option maxRecDepth 20000
/-- The turn's second half, once the ends stand. -/
def tail91 (r : List GRow) (s : List GStill) (m : Nat) (i : Int) (K : RV G → List (Blk G) → List (Blk G) → Ans G) : Ans G :=
  (r[i.toNat]?).bind fun w => (r[i.toNat]?).bind fun w2 => bif decide (0 ≤ w2.A ∧ w2.A < (m : Int)) then (s[w2.A.toNat]?).bind fun a => (r[i.toNat]?).bind fun w3 => bif decide (0 ≤ w3.B ∧ w3.B < (m : Int)) then (s[w3.B.toNat]?).bind fun b =>
    bif rerr w a b == 0 then
      (r[i.toNat]?).bind fun w4 => (r[i.toNat]?).bind fun w5 => (r[i.toNat]?).bind fun _ => bif decide (0 ≤ w4.A ∧ w4.A < (m : Int)) then (s[w4.A.toNat]?).bind fun _ => bif decide (0 ≤ w5.B ∧ w5.B < (m : Int)) then
        ((s.set w4.A.toNat (roneA w a b))[w5.B.toNat]?).bind fun _ => K (.tuple []) [.rows .row (r.set i.toNat (rone w a b)), .rows .still ((s.set w4.A.toNat (roneA w a b)).set w5.B.toNat (roneB w a b))] []
      else none else none
    else K (.tuple []) [.rows .row r, .rows .still s] []
  else none else none
def ends91 (r : List GRow) (i : Int) (m : Nat) (K : List GRow → Ans G) : Ans G :=
  (r[i.toNat]?).bind fun z1 => ((r.set i.toNat { z1 with Low := fsub 0 m })[i.toNat]?).bind fun z2 => K ((r.set i.toNat { z1 with Low := fsub 0 m }).set i.toNat { z2 with High := m })
theorem x91 (r : List GRow) (s : List GStill) (n m : Nat) (i : Int) (K) : xfn (EV L92 []) Try.f91 [0, 2] [.own 0 .row n, .int .i64 i, .own 2 .still m] [.rows .row r, .rows .still s] K =
    bif decide (0 ≤ i ∧ i < (n : Int)) then (r[i.toNat]?).bind fun x => bif decide (x.Of ≥ 0) then
      (r[i.toNat]?).bind fun x1 => (r[i.toNat]?).bind fun x2 => bif decide (0 ≤ x2.Of ∧ x2.Of < (n : Int)) then (r[x2.Of.toNat]?).bind fun y =>
        bif !flt 0 (fmul x1.Ratio y.Push) then ends91 r i 0 (fun r' => tail91 r' s m i K) else ends91 r i (fmul x1.Ratio y.Push) (fun r' => tail91 r' s m i K)
      else none
    else tail91 r s m i K else none := by kernel_rfl

/-- Where a row's stills lie, and the row that it hangs on. -/
structure FitAt (r : List GRow) (m : Nat) (k : Nat) : Prop where
  lt : k < r.length
  a0 : 0 ≤ (getR r k).A
  a1 : (getR r k).A < (m : Int)
  b0 : 0 ≤ (getR r k).B
  b1 : (getR r k).B < (m : Int)
  of_ : (getR r k).Of < (r.length : Int)

theorem getR_at {r : List GRow} {k : Nat} (h : k < r.length) : r[k]? = some (getR r k) := by
  unfold getR
  rw [List.getD_eq_getElem?_getD, List.getElem?_eq_getElem h]; rfl
theorem getS_at {s : List GStill} {i : Int} (h0 : 0 ≤ i) (h1 : i < (s.length : Int)) : s[i.toNat]? = some (getS s i) := by
  unfold getS
  rw [List.getD_eq_getElem?_getD, List.getElem?_eq_getElem (by omega)]; rfl

theorem rerr_zero (x : GRow) (a b : GStill) : (rerr x a b == 0) = rok x a b := by unfold rerr; cases rok x a b <;> rfl

theorem tail_at {r : List GRow} {s : List GStill} {k : Nat} {x : GRow} (hx : r[k]? = some x) (a0 : 0 ≤ x.A) (a1 : x.A < (s.length : Int)) (b0 : 0 ≤ x.B) (b1 : x.B < (s.length : Int)) (K) :
    tail91 r s s.length (k : Int) K = bif rok x (getS s x.A) (getS s x.B) then K (.tuple []) [.rows .row (r.set k (rone x (getS s x.A) (getS s x.B))), .rows .still ((s.set x.A.toNat (roneA x (getS s x.A) (getS s x.B))).set x.B.toNat (roneB x (getS s x.A) (getS s x.B)))] []
      else K (.tuple []) [.rows .row r, .rows .still s] [] := by
  unfold tail91
  simp only [Int.toNat_natCast, hx, Option.bind_some]
  rw [decide_eq_true ⟨a0, a1⟩, decide_eq_true ⟨b0, b1⟩]
  simp only [cond_true, getS_at a0 a1, getS_at b0 b1, Option.bind_some, rerr_zero]
  rw [List.getElem?_eq_getElem (l := s.set x.A.toNat _) (by rw [List.length_set]; omega)]
  simp only [Option.bind_some]

theorem turn_at {r : List GRow} {s : List GStill} {k : Nat} (h : FitAt r s.length k) (K) : xfn (EV L92 []) Try.f91 [0, 2] [.own 0 .row r.length, .int .i64 (k : Int), .own 2 .still s.length] [.rows .row r, .rows .still s] K =
    K (.tuple []) [.rows .row (turn1 (r, s) k).1, .rows .still (turn1 (r, s) k).2] [] := by
  obtain ⟨hk, a0, a1, b0, b1, ho⟩ := h
  rw [x91, decide_eq_true (show 0 ≤ (k : Int) ∧ (k : Int) < (r.length : Int) by omega), cond_true, Int.toNat_natCast]
  have hx := getR_at hk
  simp only [hx, Option.bind_some]
  unfold turn1
  have hA : (endsOf r k).A = (getR r k).A ∧ (endsOf r k).B = (getR r k).B := by
    unfold endsOf
    cases decide ((getR r k).Of ≥ 0) <;> exact ⟨rfl, rfl⟩
  by_cases hof : (getR r k).Of ≥ 0
  · rw [decide_eq_true hof, cond_true, decide_eq_true (show 0 ≤ (getR r k).Of ∧ (getR r k).Of < (r.length : Int) by omega), cond_true, getR_at (show (getR r k).Of.toNat < r.length by omega)]
    simp only [Option.bind_some]
    have e : ∀ (m : Nat), ends91 r (k : Int) m (fun r' => tail91 r' s s.length (k : Int) K) = tail91 (r.set k { getR r k with Low := fsub 0 m, High := m }) s s.length (k : Int) K := fun m => by
      unfold ends91
      simp only [Int.toNat_natCast, hx, Option.bind_some, List.getElem?_set_self hk, List.set_set]
    have he : (bif !flt 0 (fmul (getR r k).Ratio (getR r (getR r k).Of.toNat).Push) then ends91 r (k : Int) 0 (fun r' => tail91 r' s s.length (k : Int) K) else ends91 r (k : Int) (fmul (getR r k).Ratio (getR r (getR r k).Of.toNat).Push) (fun r' => tail91 r' s s.length (k : Int) K)) = tail91 (r.set k (endsOf r k)) s s.length (k : Int) K := by
      unfold endsOf
      rw [decide_eq_true hof]
      cases flt 0 (fmul (getR r k).Ratio (getR r (getR r k).Of.toNat).Push) <;> exact e _
    rw [he, tail_at (List.getElem?_set_self hk) (by rw [hA.1]; exact a0) (by rw [hA.1]; exact a1) (by rw [hA.2]; exact b0) (by rw [hA.2]; exact b1), List.set_set]
    cases rok (endsOf r k) (getS s (endsOf r k).A) (getS s (endsOf r k).B) <;> rfl
  · rw [decide_eq_false hof, cond_false, tail_at hx a0 a1 b0 b1]
    have he : endsOf r k = getR r k := by unfold endsOf; rw [decide_eq_false hof]; rfl
    dsimp only
    rw [he]
    have hs : r.set k (getR r k) = r := by
      apply List.ext_getElem?
      intro j
      by_cases hj : k = j
      · subst hj
        rw [List.getElem?_set_self hk, hx]
      · rw [List.getElem?_set_ne hj]
    cases rok (getR r k) (getS s (getR r k).A) (getS s (getR r k).B) with
    | true => rfl
    | false => rw [cond_false, cond_false, hs]

noncomputable def c91 : FC G := FC.ofRun [0, 2] fun vs bs K => match vs, bs with
  | [.own 0 .row n, .int .i64 i, .own 2 .still m], [.rows .row r, .rows .still s] => gate (n = r.length ∧ m = s.length ∧ 0 ≤ i ∧ FitAt r s.length i.toNat) (K (.tuple []) [.rows .row (turn1 (r, s) i.toNat).1, .rows .still (turn1 (r, s) i.toNat).2] [])
  | _, _ => none
theorem ok91 : FcOk Try.prog 91 c91 := mu_ok L92ok Try.func91 (by kernel_rfl) [] (.none (by kernel_rfl)) fun vs bs K o h => by
  split at h
  · rename_i n i m r s
    obtain ⟨⟨rfl, rfl, h0, hf⟩, h2⟩ := gate_some h
    obtain ⟨k, rfl⟩ := Int.eq_ofNat_of_zero_le h0
    rw [Int.toNat_natCast] at hf h2
    exact ⟨Nat.le_of_ble_eq_true (by kernel_rfl), rfl, (turn_at hf K).trans h2⟩
  · cases h
noncomputable def L91 : Ctr := (91, c91) :: L92
theorem L91ok : AllOk L91 := .cons ok91 L92ok
end Go.SX

/- solve.All: warm, then round by round. No statement of the seat is proved here. -/
namespace Go.SX
open Go.Proofs
set_option maxRecDepth 20000
def hd26w : LH G := ⟨[0, 1, 2, 33, 34], [], [4125, 4127]⟩
def hd26o : LH G := ⟨[0, 1, 79, 80], [], [4125, 4127]⟩
def hd26i : LH G := ⟨[0, 1, 79, 80, 83, 84], [], [4125, 4127]⟩
def Ww (l : List GRow) (s : List GStill) (n i : Int) : List (RV G) := [.own 4125 .row l.length, .own 4127 .still s.length, .int .i64 n, .int .i64 l.length, .int .i64 i]
def Bq (q : List GRow × List GStill) : List (Blk G) := [.rows .row q.1, .rows .still q.2]
def Wo (q : List GRow × List GStill) (n i : Int) : List (RV G) := [.own 4125 .row q.1.length, .own 4127 .still q.2.length, .int .i64 n, .int .i64 i]
def Wi (q : List GRow × List GStill) (n j N i : Int) : List (RV G) := [.own 4125 .row q.1.length, .own 4127 .still q.2.length, .int .i64 n, .int .i64 j, .int .i64 N, .int .i64 i]
/-- All rows lie among the stills and one another. -/
def Fit (l : List GRow) (m : Nat) : Prop := ∀ k, k < l.length → FitAt l m k
noncomputable def lcIn26 : LC G := ⟨hd26i, fun vs bs K => match vs, bs with
  | [.own 4125 .row a, .own 4127 .still b, .int .i64 n, .int .i64 j, .int .i64 N, .int .i64 i], [.rows .row r, .rows .still s] =>
    gate (a = r.length ∧ b = s.length ∧ N = (r.length : Int) ∧ i = 0 ∧ r.length < 9223372036854775808 ∧ Fit r s.length) (K (.exit 4) (Wi (round1 (r, s)) n j r.length r.length) (Bq (round1 (r, s))))
  | _, _ => none⟩
noncomputable def E26 (l : List GRow) (s : List GStill) (n : Nat) : List (Nat × LC G) :=
  [(8, lcOf hd26w (Ww l s n 0) (Bq (l, s)) fun K => K (.exit 0) (Ww l (warmAll l s) n l.length) (Bq (l, warmAll l s))), (16, lcOf hd26o (Wo (l, warmAll l s) n 0) (Bq (l, warmAll l s)) fun K => K (.exit 2) (Wo (solved l s n) n n) (Bq (solved l s n))), (18, lcIn26)]
def stepW26 (l : List GRow) (s : List GStill) (i : Int) (next : List GStill → Ans G) : Ans G :=
  bif decide (0 ≤ i ∧ i < (l.length : Int)) then (l[i.toNat]?).bind fun x => (l[i.toNat]?).bind fun x1 => bif decide (0 ≤ x1.A ∧ x1.A < (s.length : Int)) then (s[x1.A.toNat]?).bind fun a => (l[i.toNat]?).bind fun x2 => bif decide (0 ≤ x2.B ∧ x2.B < (s.length : Int)) then (s[x2.B.toNat]?).bind fun b =>
    bif rerr x a b == 0 then (l[i.toNat]?).bind fun x3 => (l[i.toNat]?).bind fun x4 => bif decide (0 ≤ x3.A ∧ x3.A < (s.length : Int)) then (s[x3.A.toNat]?).bind fun _ => bif decide (0 ≤ x4.B ∧ x4.B < (s.length : Int)) then ((s.set x3.A.toNat (rwarmA x a b))[x4.B.toNat]?).bind fun _ =>
      next ((s.set x3.A.toNat (rwarmA x a b)).set x4.B.toNat (rwarmB x a b)) else none else none
    else next s
  else none else none else none
theorem step26w (l : List GRow) (s0 : List GStill) (m : Nat) (s : List GStill) (n : Nat) (i : Int) (K) : iter (EV L91 (E26 l s0 m)) hd26w (lpBody Try.f26 0) (n + 1) (Ww l s m i) (Bq (l, s)) K = bif decide (i < (l.length : Int)) then
    stepW26 l s i fun s' => iter (EV L91 (E26 l s0 m)) hd26w (lpBody Try.f26 0) n (Ww l s' m (IntKind.i64.wrap (i + 1))) (Bq (l, s')) K
  else K (.exit 0) (Ww l s m i) (Bq (l, s)) := by kernel_rfl
theorem step26i (l : List GRow) (s0 : List GStill) (m : Nat) (q : List GRow × List GStill) (n' j N : Int) (n : Nat) (i : Int) (K) : iter (EV L91 (E26 l s0 m)) hd26i (lpBody Try.f26 2) (n + 1) (Wi q n' j N i) (Bq q) K = bif decide (i < N) then
    gate (q.1.length = q.1.length ∧ q.2.length = q.2.length ∧ 0 ≤ i ∧ FitAt q.1 q.2.length i.toNat) (iter (EV L91 (E26 l s0 m)) hd26i (lpBody Try.f26 2) n (Wi (turn1 q i.toNat) n' j N (IntKind.i64.wrap (i + 1))) (Bq (turn1 q i.toNat)) K)
  else K (.exit 4) (Wi q n' j N i) (Bq q) := by kernel_rfl
theorem step26o (l : List GRow) (s0 : List GStill) (m : Nat) (q : List GRow × List GStill) (N : Int) (n : Nat) (i : Int) (K) : iter (EV L91 (E26 l s0 m)) hd26o (lpBody Try.f26 1) (n + 1) (Wo q N i) (Bq q) K = bif decide (i < N) then
    gate (q.1.length = q.1.length ∧ q.2.length = q.2.length ∧ (q.1.length : Int) = (q.1.length : Int) ∧ (0 : Int) = 0 ∧ q.1.length < 9223372036854775808 ∧ Fit q.1 q.2.length) (iter (EV L91 (E26 l s0 m)) hd26o (lpBody Try.f26 1) n (Wo (round1 q) N (IntKind.i64.wrap (i + 1))) (Bq (round1 q)) K)
  else K (.exit 2) (Wo q N i) (Bq q) := by kernel_rfl

/-! ### what stays -/
theorem endsOf_keeps (l : List GRow) (i : Nat) : (endsOf l i).A = (getR l i).A ∧ (endsOf l i).B = (getR l i).B ∧ (endsOf l i).Of = (getR l i).Of := by
  unfold endsOf
  cases decide ((getR l i).Of ≥ 0) <;> exact ⟨rfl, rfl, rfl⟩
theorem rone_keeps {x : GRow} {a b : GStill} (h : rok x a b = true) : (rone x a b).A = x.A ∧ (rone x a b).B = x.B ∧ (rone x a b).Of = x.Of := by
  unfold rone
  rw [h]
  cases rgo x a b <;> exact ⟨rfl, rfl, rfl⟩
theorem getR_set (l : List GRow) (i k : Nat) (x : GRow) : getR (l.set i x) k = if i = k ∧ k < l.length then x else getR l k := by
  unfold getR
  rw [List.getD_eq_getElem?_getD, List.getD_eq_getElem?_getD, List.getElem?_set]
  by_cases h : i = k
  · subst h
    by_cases hk : i < l.length
    · simp [hk]
    · simp [hk, List.getElem?_eq_none (Nat.le_of_not_lt hk)]
  · simp [h]
theorem turn1_len (q : List GRow × List GStill) (i : Nat) : (turn1 q i).1.length = q.1.length ∧ (turn1 q i).2.length = q.2.length := by
  unfold turn1
  dsimp only
  cases rok (endsOf q.1 i) (getS q.2 (endsOf q.1 i).A) (getS q.2 (endsOf q.1 i).B) <;> simp
theorem turn1_keeps (q : List GRow × List GStill) (i k : Nat) : (getR (turn1 q i).1 k).A = (getR q.1 k).A ∧ (getR (turn1 q i).1 k).B = (getR q.1 k).B ∧ (getR (turn1 q i).1 k).Of = (getR q.1 k).Of := by
  unfold turn1
  dsimp only
  obtain ⟨e1, e2, e3⟩ := endsOf_keeps q.1 i
  cases h : rok (endsOf q.1 i) (getS q.2 (endsOf q.1 i).A) (getS q.2 (endsOf q.1 i).B) with
  | true =>
    obtain ⟨r1, r2, r3⟩ := rone_keeps h
    simp only [cond_true, getR_set]
    split
    · rename_i hk
      obtain ⟨rfl, _⟩ := hk
      exact ⟨r1.trans e1, r2.trans e2, r3.trans e3⟩
    · exact ⟨rfl, rfl, rfl⟩
  | false =>
    simp only [cond_false, getR_set]
    split
    · rename_i hk
      obtain ⟨rfl, _⟩ := hk
      exact ⟨e1, e2, e3⟩
    · exact ⟨rfl, rfl, rfl⟩
theorem FitAt.same {l l' : List GRow} {m m' k : Nat} (h : FitAt l m k) (h1 : l'.length = l.length) (h2 : m' = m) (h3 : (getR l' k).A = (getR l k).A ∧ (getR l' k).B = (getR l k).B ∧ (getR l' k).Of = (getR l k).Of) : FitAt l' m' k := by
  obtain ⟨a, b, c⟩ := h3
  subst h2
  exact ⟨by rw [h1]; exact h.lt, by rw [a]; exact h.a0, by rw [a]; exact h.a1, by rw [b]; exact h.b0, by rw [b]; exact h.b1, by rw [c, h1]; exact h.of_⟩
theorem turn1_fit {q : List GRow × List GStill} (h : Fit q.1 q.2.length) (i : Nat) : Fit (turn1 q i).1 (turn1 q i).2.length := fun k hk =>
  (h k (by rw [← (turn1_len q i).1]; exact hk)).same (turn1_len q i).1 (turn1_len q i).2 (turn1_keeps q i k)
def Keeps (q q' : List GRow × List GStill) : Prop := q'.1.length = q.1.length ∧ q'.2.length = q.2.length ∧ (Fit q.1 q.2.length → Fit q'.1 q'.2.length)
theorem Keeps.refl (q : List GRow × List GStill) : Keeps q q := ⟨rfl, rfl, id⟩
theorem Keeps.turn {q q' : List GRow × List GStill} (h : Keeps q q') (i : Nat) : Keeps q (turn1 q' i) := ⟨(turn1_len q' i).1.trans h.1, (turn1_len q' i).2.trans h.2.1, fun g => turn1_fit (h.2.2 g) i⟩
theorem round1_keeps (q : List GRow × List GStill) : Keeps q (round1 q) := fold_inv (P := Keeps q) (fun i s _ h => h.turn i) (Keeps.refl q)
theorem Keeps.trans {a b c : List GRow × List GStill} (h : Keeps a b) (g : Keeps b c) : Keeps a c := ⟨g.1.trans h.1, g.2.1.trans h.2.1, fun f => g.2.2 (h.2.2 f)⟩
theorem rounds_keeps (n : Nat) (q : List GRow × List GStill) : Keeps q (rounds n q) := fold_inv (P := Keeps q) (fun i s _ h => h.trans (round1_keeps s)) (Keeps.refl q)

/-! ### warm -/
theorem srests_push (s : GStill) (way : GVec) (turn p : Nat) : srests (spush s way turn p) = srests s := rfl
theorem warm1_len (l : List GRow) (s : List GStill) (i : Nat) : (warm1 l s i).length = s.length := by unfold warm1; simp
def Rest (s : List GStill) : Prop := ∀ x ∈ s, srests x = true
theorem Rest.at {s : List GStill} (h : Rest s) {i : Int} (h0 : 0 ≤ i) (h1 : i < (s.length : Int)) : srests (getS s i) = true := h _ (List.mem_of_getElem? (getS_at h0 h1))
theorem Rest.set {s : List GStill} (h : Rest s) {x : GStill} (hx : srests x = true) (i : Nat) : Rest (s.set i x) := fun y hy => by
  rcases List.mem_or_eq_of_mem_set hy with h1 | h1
  · exact h y h1
  · rw [h1]; exact hx
/-- All rows may be. -/
def Fits (l : List GRow) : Prop := ∀ k, k < l.length → rfits (getR l k) = true
theorem warm1_rest {l : List GRow} {s : List GStill} (hl : Fit l s.length) (hf : Fits l) (h : Rest s) {i : Nat} (hi : i < l.length) : rok (getR l i) (getS s (getR l i).A) (getS s (getR l i).B) = true ∧ Rest (warm1 l s i) := by
  obtain ⟨_, a0, a1, b0, b1, _⟩ := hl i hi
  have ha := h.at a0 a1
  have hb := h.at b0 b1
  have hr : rok (getR l i) (getS s (getR l i).A) (getS s (getR l i).B) = true := by unfold rok; rw [hf i hi, ha, hb]; rfl
  refine ⟨hr, ?_⟩
  unfold warm1 rwarmA rwarmB
  rw [hr]
  exact (h.set (by simpa [srests_push] using ha) _).set (by simpa [srests_push] using hb) _
theorem stepW_at {l : List GRow} {s : List GStill} (hl : Fit l s.length) (hf : Fits l) (h : Rest s) {i : Nat} (hi : i < l.length) (next) : stepW26 l s (i : Int) next = next (warm1 l s i) := by
  obtain ⟨_, a0, a1, b0, b1, _⟩ := hl i hi
  have hr := (warm1_rest hl hf h hi).1
  unfold stepW26 warm1
  rw [decide_eq_true (show 0 ≤ (i : Int) ∧ (i : Int) < (l.length : Int) by omega)]
  simp only [cond_true, Int.toNat_natCast, getR_at hi, Option.bind_some]
  rw [decide_eq_true ⟨a0, a1⟩, decide_eq_true ⟨b0, b1⟩]
  simp only [cond_true, getS_at a0 a1, getS_at b0 b1, Option.bind_some, rerr_zero, hr]
  rw [List.getElem?_eq_getElem (l := s.set (getR l i).A.toNat _) (by rw [List.length_set]; omega)]
  rfl
theorem warmAll_keeps (l : List GRow) (s : List GStill) : (warmAll l s).length = s.length := fold_inv (P := fun t : List GStill => t.length = s.length) (fun i t _ h => (warm1_len l t i).trans h) rfl
theorem Keeps.warm {l : List GRow} {s : List GStill} (h : Fit l s.length) : Fit l (warmAll l s).length := by rw [warmAll_keeps]; exact h

/-! ### the loops -/
theorem lp26i (l : List GRow) (s0 : List GStill) (m : Nat) : LpOk (EV L91 (E26 l s0 m)) [] (lpBody Try.f26 2) lcIn26 := lpOk_of (by kernel_rfl) fun vs bs K o h => by
  simp only [lcIn26] at h
  split at h
  · rename_i a b n j N i r s
    obtain ⟨⟨rfl, rfl, rfl, rfl, h1, h2⟩, g⟩ := gate_some h
    exact ⟨_, (fold_loop (N := r.length) (g := turn1) (F := fun k i (q : List GRow × List GStill) => iter (EV L91 (E26 l s0 m)) hd26i (lpBody Try.f26 2) k (Wi q n j r.length i) (Bq q) K) (X := fun (q : List GRow × List GStill) => K (.exit 4) (Wi q n j r.length r.length) (Bq q)) (s0 := (r, s)) (fun _ q => Keeps (r, s) q) (Keeps.refl _)
      (fun k i q hi hq => by
        rw [step26i, decide_eq_true (by omega), cond_true, Int.toNat_natCast, gate_pos ⟨rfl, rfl, by omega, (hq.2.2 h2) i (by rw [hq.1]; exact hi)⟩, wrap_succ (by omega)])
      (fun i q _ hq => hq.turn i) (fun k q hq => by rw [step26i, decide_eq_false (by omega)]; rfl)).trans g⟩
  · cases h
theorem lp26o (l : List GRow) (s : List GStill) (n : Nat) (hn : n ≤ 64) (hl : l.length < 9223372036854775808) (hf : Fit l s.length) : LpOk (EV L91 (E26 l s n)) [] (lpBody Try.f26 1) (lcOf hd26o (Wo (l, warmAll l s) n 0) (Bq (l, warmAll l s)) fun K => K (.exit 2) (Wo (solved l s n) n n) (Bq (solved l s n))) :=
  lcOf_ok (by kernel_rfl) fun K => ⟨_, fold_loop (N := n) (g := fun q _ => round1 q) (F := fun k i (q : List GRow × List GStill) => iter (EV L91 (E26 l s n)) hd26o (lpBody Try.f26 1) k (Wo q n i) (Bq q) K) (X := fun (q : List GRow × List GStill) => K (.exit 2) (Wo q n n) (Bq q)) (s0 := (l, warmAll l s)) (fun _ q => Keeps (l, warmAll l s) q) (Keeps.refl _)
    (fun k i q hi hq => by
      rw [step26o, decide_eq_true (by omega), cond_true, gate_pos ⟨rfl, rfl, rfl, rfl, by rw [hq.1]; exact hl, hq.2.2 (Keeps.warm hf)⟩, wrap_succ (by omega)])
    (fun i q _ hq => hq.trans (round1_keeps q)) (fun k q hq => by rw [step26o, decide_eq_false (by omega)]; rfl)⟩
theorem lp26w (l : List GRow) (s : List GStill) (n : Nat) (hl : l.length < 9223372036854775808) (hf : Fit l s.length) (hg : Fits l) (hs : Rest s) : LpOk (EV L91 (E26 l s n)) [] (lpBody Try.f26 0) (lcOf hd26w (Ww l s n 0) (Bq (l, s)) fun K => K (.exit 0) (Ww l (warmAll l s) n l.length) (Bq (l, warmAll l s))) :=
  lcOf_ok (by kernel_rfl) fun K => ⟨_, fold_loop (N := l.length) (g := warm1 l) (F := fun k i (t : List GStill) => iter (EV L91 (E26 l s n)) hd26w (lpBody Try.f26 0) k (Ww l t n i) (Bq (l, t)) K) (X := fun (t : List GStill) => K (.exit 0) (Ww l t n l.length) (Bq (l, t))) (s0 := s) (fun _ t => t.length = s.length ∧ Rest t) ⟨rfl, hs⟩
    (fun k i t hi ht => by
      rw [step26w, decide_eq_true (by omega), cond_true, stepW_at (by rw [ht.1]; exact hf) hg ht.2 hi, wrap_succ (by omega)])
    (fun i t hi ht => ⟨(warm1_len l t i).trans ht.1, (warm1_rest (by rw [ht.1]; exact hf) hg ht.2 hi).2⟩) (fun k t ht => by rw [step26w, decide_eq_false (by omega)]; rfl)⟩
end Go.SX

/- solve.All, whole. No statement of the seat is proved here. -/
namespace Go.SX
open Go.Proofs
set_option maxRecDepth 20000
theorem lps3 {E : Env G} {mu : List Nat} {fn : Func} {i j k : Nat} {lc ld le : LC G} (hl : loops (bodyD fn) = [(some i, lpBody fn 0), (some j, lpBody fn 1), (some k, lpBody fn 2)]) (hlp : E.lp i = some lc) (h : LpOk E mu (lpBody fn 0) lc) (hlq : E.lp j = some ld) (h2 : LpOk E mu (lpBody fn 1) ld) (hlr : E.lp k = some le) (h3 : LpOk E mu (lpBody fn 2) le) : LpsOk E mu (bodyD fn) :=
  LpsOk.of _ fun q b lc' hb hj => by
    rw [hl] at hb
    simp only [List.mem_cons, Prod.mk.injEq, Option.some.injEq, List.not_mem_nil, or_false] at hb
    rcases hb with ⟨rfl, rfl⟩ | ⟨rfl, rfl⟩ | ⟨rfl, rfl⟩
    · rw [hlp] at hj; cases hj; exact h
    · rw [hlq] at hj; cases hj; exact h2
    · rw [hlr] at hj; cases hj; exact h3

/-- What the asking comes to when nothing is wrong. -/
structure Asked (l : List GRow) (b : List GStill) : Prop where
  rows : l.length ≤ 1048576
  bodies : b.length ≤ 1024
  fit : Fit l b.length
  fits : Fits l
  rest : Rest b
theorem smay_rests {s : GStill} : smay s = srests s := by
  unfold smay srests
  simp only [List.all_cons, List.all_nil, Bool.and_true]
  ac_rfl
theorem sasked_ok {l : List GRow} {b : List GStill} (h : (sasked l b != 0) = false) : Asked l b := by
  unfold sasked at h
  cases h1 : decide ((l.length : Int) > 1048576) || decide ((b.length : Int) > 1024) with
  | true => rw [h1] at h; simp at h
  | false =>
    cases h2 : l.any (rbad l.length b.length) with
    | true => rw [h1, h2] at h; simp at h
    | false =>
      cases h3 : b.any (fun s => !smay s) with
      | true => rw [h1, h2, h3] at h; simp at h
      | false =>
        simp only [Bool.or_eq_false_iff, decide_eq_false_iff_not] at h1
        rw [List.any_eq_false] at h2 h3
        have hr : ∀ k, k < l.length → ((rfits (getR l k) && !(decide ((getR l k).A ≥ (b.length : Int)) || decide ((getR l k).B ≥ (b.length : Int)))) && !decide ((getR l k).Of ≥ (l.length : Int))) = true := fun k hk => by
          have hm := h2 _ (List.mem_of_getElem? (getR_at hk))
          unfold rbad rcheck at hm
          cases e : (rfits (getR l k) && !(decide ((getR l k).A ≥ (b.length : Int)) || decide ((getR l k).B ≥ (b.length : Int)))) && !decide ((getR l k).Of ≥ (l.length : Int)) with
          | true => rfl
          | false => rw [e] at hm; exact absurd rfl hm
        refine ⟨by omega, by omega, fun k hk => ?_, fun k hk => ?_, fun x hx => ?_⟩
        · have e := hr k hk
          simp only [Bool.and_eq_true, Bool.not_eq_true', Bool.or_eq_false_iff, decide_eq_false_iff_not] at e
          obtain ⟨⟨f, a, b1⟩, o⟩ := e
          unfold rfits at f
          simp only [Bool.and_eq_true, decide_eq_true_eq] at f
          obtain ⟨⟨⟨⟨⟨⟨⟨⟨a0, b0⟩, _⟩, _⟩, _⟩, _⟩, _⟩, _⟩, _⟩ := f
          exact ⟨hk, a0, by omega, b0, by omega, by omega⟩
        · have e := hr k hk
          simp only [Bool.and_eq_true] at e
          exact e.1.1
        · have := h3 x hx
          rw [← smay_rests]
          simpa using this

/-- What All answers. -/
def runAll (l : List GRow) (b : List GStill) (n : Int) (K : RV G → List (Blk G) → List (Blk G) → Ans G) : Ans G :=
  bif sasked l b != 0 then K (.tuple [.nilslice, .nilslice, .int .i64 (sasked l b)]) [] []
  else bif decide (n < 0) || decide (n > 64) then K (.tuple [.nilslice, .nilslice, .int .i64 210]) [] []
  else K (.tuple [.own 0 .row (solved l b n.toNat).1.length, .own 1 .still (solved l b n.toNat).2.length, .int .i64 0]) [] [.rows .row (solved l b n.toNat).1, .rows .still (solved l b n.toNat).2]
theorem runAll_K (l : List GRow) (b : List GStill) (n : Int) (K) (o) (h : runAll l b n K = some o) : ∃ r bs fr, K r bs fr = some o := by
  unfold runAll at h
  cases h1 : sasked l b != 0 with
  | true => rw [h1] at h; exact ⟨_, _, _, h⟩
  | false =>
    rw [h1] at h
    cases h2 : decide (n < 0) || decide (n > 64) with
    | true => rw [h2] at h; exact ⟨_, _, _, h⟩
    | false => rw [h2] at h; exact ⟨_, _, _, h⟩
theorem x26 (l : List GRow) (b : List GStill) (m : Nat) (K) : xfn (EV L91 (E26 l b m)) Try.f26 [] (encs [.l .row, .l .still, .s .i64] (l, b, (m : Int), ())) [] K =
    bif sasked l b != 0 then K (.tuple [.nilslice, .nilslice, .int .i64 (sasked l b)]) [] []
    else bif decide ((m : Int) < 0) || decide ((m : Int) > 64) then K (.tuple [.nilslice, .nilslice, .int .i64 210]) [] []
    else bif decide (l.length * 112 ≤ 2 ^ 47) then bif decide (b.length * 40 ≤ 2 ^ 47) then gate (Ww l b m 0 = Ww l b m 0 ∧ Bq (l, b) = Bq (l, b)) (gate (Wo (l, warmAll l b) m 0 = Wo (l, warmAll l b) m 0 ∧ Bq (l, warmAll l b) = Bq (l, warmAll l b))
      (K (.tuple [.own 0 .row (solved l b m).1.length, .own 1 .still (solved l b m).2.length, .int .i64 0]) [] [.rows .row (solved l b m).1, .rows .still (solved l b m).2])) else none else none := by kernel_rfl
theorem x26n (l : List GRow) (b : List GStill) (n : Int) (K) : xfn (EV L91 []) Try.f26 [] (encs [.l .row, .l .still, .s .i64] (l, b, n, ())) [] K =
    bif sasked l b != 0 then K (.tuple [.nilslice, .nilslice, .int .i64 (sasked l b)]) [] []
    else bif decide (n < 0) || decide (n > 64) then K (.tuple [.nilslice, .nilslice, .int .i64 210]) [] []
    else bif decide (l.length * 112 ≤ 2 ^ 47) then bif decide (b.length * 40 ≤ 2 ^ 47) then none else none else none := by kernel_rfl
def c26 : FC G := FC.rn [.l .row, .l .still, .s .i64] fun (l, b, n, _) K => runAll l b n K
/-- What a list of rounds is told for. -/
theorem run_cases {l : List GRow} {b : List GStill} {n : Int} : (∃ m : Nat, n = m ∧ m ≤ 64 ∧ Asked l b ∧ (sasked l b != 0) = false) ∨ (sasked l b != 0) = true ∨ ((sasked l b != 0) = false ∧ (decide (n < 0) || decide (n > 64)) = true) := by
  cases h1 : sasked l b != 0 with
  | true => exact .inr (.inl rfl)
  | false =>
    cases h2 : decide (n < 0) || decide (n > 64) with
    | true => exact .inr (.inr ⟨rfl, rfl⟩)
    | false =>
      simp only [Bool.or_eq_false_iff, decide_eq_false_iff_not] at h2
      exact .inl ⟨n.toNat, by omega, by omega, sasked_ok h1, rfl⟩
theorem all_at (l : List GRow) (b : List GStill) (n : Int) : ∃ lp, LpsOk (EV L91 lp) [] (bodyD Try.f26) ∧ ∀ K o, runAll l b n K = some o → xfn (EV L91 lp) Try.f26 [] (encs [.l .row, .l .still, .s .i64] (l, b, n, ())) [] K = some o := by
  rcases run_cases (l := l) (b := b) (n := n) with ⟨m, rfl, hm, ha, h1⟩ | h1 | ⟨h1, h2⟩
  · have := ha.rows
    have := ha.bodies
    refine ⟨E26 l b m, lps3 (i := 8) (j := 16) (k := 18) (by kernel_rfl) rfl (lp26w l b m (by omega) ha.fit ha.fits ha.rest) rfl (lp26o l b m hm (by omega) ha.fit) rfl (lp26i l b m), fun K o h => ?_⟩
    unfold runAll at h
    rw [h1, cond_false, Int.toNat_natCast] at h
    rw [x26, h1, cond_false, decide_eq_true (show l.length * 112 ≤ 2 ^ 47 by omega), decide_eq_true (show b.length * 40 ≤ 2 ^ 47 by omega), cond_true, cond_true, gate_pos ⟨rfl, rfl⟩, gate_pos ⟨rfl, rfl⟩]
    exact h
  · exact ⟨[], LpsOk.of _ fun _ _ _ _ h => (by cases h), fun K o h => by unfold runAll at h; rw [x26n, h1]; rw [h1] at h; exact h⟩
  · exact ⟨[], LpsOk.of _ fun _ _ _ _ h => (by cases h), fun K o h => by unfold runAll at h; rw [x26n, h1, h2]; rw [h1, h2] at h; exact h⟩
theorem ok26 : FcOk Try.prog 26 c26 := rn_lp L91ok Try.func26 (by kernel_rfl) (by kernel_rfl) (fun (l, b, n, _) K o h => runAll_K l b n K o h) fun (l, b, n, _) _ => all_at l b n
noncomputable def L26 : Ctr := (26, c26) :: L91
theorem L26ok : AllOk L26 := .cons ok26 L91ok
end Go.SX

/- The reference's All. No statement of the seat is proved here. -/
namespace Go.SX
open Go.Proofs
set_option maxRecDepth 20000
def atN {α : Type} (n : Nat) (l : List α) (i : Int) (f : α → Ans G) : Ans G := bif decide (0 ≤ i ∧ i < (n : Int)) then (l[i.toNat]?).bind f else none
def hd27w : LH G := ⟨[2, 10, 11, 12], [], [37, 40]⟩
def hd27o : LH G := ⟨[2, 10, 11, 16], [], [37, 40]⟩
def hd27i : LH G := ⟨[2, 10, 11, 16, 17], [], [37, 40]⟩
def Vw (l : List GRow) (s : List GStill) (n i : Int) : List (RV G) := [.int .i64 n, .own 37 .row l.length, .own 40 .still s.length, .int .i64 i]
def Vi (q : List GRow × List GStill) (n j i : Int) : List (RV G) := [.int .i64 n, .own 37 .row q.1.length, .own 40 .still q.2.length, .int .i64 j, .int .i64 i]
noncomputable def lcIn27 : LC G := ⟨hd27i, fun vs bs K => match vs, bs with
  | [.int .i64 n, .own 37 .row a, .own 40 .still b, .int .i64 j, .int .i64 i], [.rows .row r, .rows .still s] =>
    gate (a = r.length ∧ b = s.length ∧ i = 0 ∧ r.length < 9223372036854775808 ∧ Fit r s.length) (K (.exit 4) (Vi (round1 (r, s)) n j r.length) (Bq (round1 (r, s))))
  | _, _ => none⟩
noncomputable def E27 (l : List GRow) (s : List GStill) (n : Nat) : List (Nat × LC G) :=
  [(11, lcOf hd27w (Vw l s n 0) (Bq (l, s)) fun K => K (.exit 0) (Vw l (warmAll l s) n l.length) (Bq (l, warmAll l s))), (17, lcOf hd27o (Vw l (warmAll l s) n 0) (Bq (l, warmAll l s)) fun K => K (.exit 2) (Vw (solved l s n).1 (solved l s n).2 n n) (Bq (solved l s n))), (20, lcIn27)]
def stepW27 (l : List GRow) (s : List GStill) (i : Int) (next : List GStill → Ans G) : Ans G :=
  atN l.length l i fun x => atN l.length l i fun x1 => atN s.length s x1.A fun a => atN l.length l i fun x2 => atN s.length s x2.B fun b =>
  atN l.length l i fun x3 => atN s.length s x3.A fun _ => atN l.length l i fun x4 => atN s.length (s.set x3.A.toNat (rwarmA x a b)) x4.B fun _ => next ((s.set x3.A.toNat (rwarmA x a b)).set x4.B.toNat (rwarmB x a b))
theorem step27w (l : List GRow) (s0 : List GStill) (m : Nat) (s : List GStill) (n : Nat) (i : Int) (K) : iter (EV L91 (E27 l s0 m)) hd27w (lpBody Try.f27 0) (n + 1) (Vw l s m i) (Bq (l, s)) K = bif decide (i < (l.length : Int)) then
    stepW27 l s i fun s' => iter (EV L91 (E27 l s0 m)) hd27w (lpBody Try.f27 0) n (Vw l s' m (IntKind.i64.wrap (i + 1))) (Bq (l, s')) K
  else K (.exit 0) (Vw l s m i) (Bq (l, s)) := by kernel_rfl
def tail27 (n m : Nat) (r : List GRow) (s : List GStill) (i : Int) (next : List GRow → List GStill → Ans G) : Ans G :=
  atN n r i fun x => atN n r i fun x1 => atN m s x1.A fun a => atN n r i fun x2 => atN m s x2.B fun b =>
  bif rerr x a b == 0 then
    atN n r i fun x3 => atN m s x3.A fun _ => atN n r i fun x4 => atN m (s.set x3.A.toNat (roneA x a b)) x4.B fun _ => atN n r i fun _ =>
      next (r.set i.toNat (rone x a b)) ((s.set x3.A.toNat (roneA x a b)).set x4.B.toNat (roneB x a b))
  else next r s
def ends27 (n : Nat) (r : List GRow) (i : Int) (m : Nat) (K : List GRow → Ans G) : Ans G :=
  atN n r i fun z1 => atN n (r.set i.toNat { z1 with Low := fsub 0 m }) i fun z2 => K ((r.set i.toNat { z1 with Low := fsub 0 m }).set i.toNat { z2 with High := m })
def stepI27 (q : List GRow × List GStill) (i : Int) (next : List GRow → List GStill → Ans G) : Ans G :=
  atN q.1.length q.1 i fun z => bif decide (z.Of ≥ 0) then
    atN q.1.length q.1 i fun z1 => atN q.1.length q.1 i fun z2 => atN q.1.length q.1 z2.Of fun y =>
      bif !flt 0 (fmul z1.Ratio y.Push) then ends27 q.1.length q.1 i 0 (fun r' => tail27 q.1.length q.2.length r' q.2 i next) else ends27 q.1.length q.1 i (fmul z1.Ratio y.Push) (fun r' => tail27 q.1.length q.2.length r' q.2 i next)
  else tail27 q.1.length q.2.length q.1 q.2 i next
theorem step27i (l : List GRow) (s0 : List GStill) (m : Nat) (q : List GRow × List GStill) (n' j : Int) (n : Nat) (i : Int) (K) : iter (EV L91 (E27 l s0 m)) hd27i (lpBody Try.f27 2) (n + 1) (Vi q n' j i) (Bq q) K = bif decide (i < (q.1.length : Int)) then
    stepI27 q i fun r' s' => iter (EV L91 (E27 l s0 m)) hd27i (lpBody Try.f27 2) n (Vi (r', s') n' j (IntKind.i64.wrap (i + 1))) (Bq (r', s')) K
  else K (.exit 4) (Vi q n' j i) (Bq q) := by kernel_rfl
theorem step27o (l : List GRow) (s0 : List GStill) (m : Nat) (q : List GRow × List GStill) (N : Int) (n : Nat) (i : Int) (K) : iter (EV L91 (E27 l s0 m)) hd27o (lpBody Try.f27 1) (n + 1) (Vw q.1 q.2 N i) (Bq q) K = bif decide (i < N) then
    gate (q.1.length = q.1.length ∧ q.2.length = q.2.length ∧ (0 : Int) = 0 ∧ q.1.length < 9223372036854775808 ∧ Fit q.1 q.2.length) (iter (EV L91 (E27 l s0 m)) hd27o (lpBody Try.f27 1) n (Vw (round1 q).1 (round1 q).2 N (IntKind.i64.wrap (i + 1))) (Bq (round1 q)) K)
  else K (.exit 2) (Vw q.1 q.2 N i) (Bq q) := by kernel_rfl
theorem x27 (l : List GRow) (b : List GStill) (m : Nat) (K) : xfn (EV L91 (E27 l b m)) Try.f27 [] (encs [.l .row, .l .still, .s .i64] (l, b, (m : Int), ())) [] K =
    bif sasked l b != 0 then K (.tuple [.nilslice, .nilslice, .int .i64 (sasked l b)]) [] []
    else bif decide ((m : Int) < 0) || decide ((m : Int) > 64) then K (.tuple [.nilslice, .nilslice, .int .i64 210]) [] []
    else bif decide (l.length * 112 ≤ 2 ^ 47) then bif decide (b.length * 40 ≤ 2 ^ 47) then gate (Vw l b m 0 = Vw l b m 0 ∧ Bq (l, b) = Bq (l, b)) (gate (Vw l (warmAll l b) m 0 = Vw l (warmAll l b) m 0 ∧ Bq (l, warmAll l b) = Bq (l, warmAll l b))
      (K (.tuple [.own 0 .row (solved l b m).1.length, .own 1 .still (solved l b m).2.length, .int .i64 0]) [] [.rows .row (solved l b m).1, .rows .still (solved l b m).2])) else none else none := by kernel_rfl
theorem x27n (l : List GRow) (b : List GStill) (n : Int) (K) : xfn (EV L91 []) Try.f27 [] (encs [.l .row, .l .still, .s .i64] (l, b, n, ())) [] K =
    bif sasked l b != 0 then K (.tuple [.nilslice, .nilslice, .int .i64 (sasked l b)]) [] []
    else bif decide (n < 0) || decide (n > 64) then K (.tuple [.nilslice, .nilslice, .int .i64 210]) [] []
    else bif decide (l.length * 112 ≤ 2 ^ 47) then bif decide (b.length * 40 ≤ 2 ^ 47) then none else none else none := by kernel_rfl
end Go.SX

/- The reference's All, whole. No statement of the seat is proved here. -/
namespace Go.SX
open Go.Proofs
set_option maxRecDepth 20000
theorem atN_at {α : Type} {n : Nat} {l : List α} {i : Int} {x : α} (h0 : 0 ≤ i) (h1 : i < (n : Int)) (h : l[i.toNat]? = some x) (f : α → Ans G) : atN n l i f = f x := by
  unfold atN
  rw [decide_eq_true ⟨h0, h1⟩, cond_true, h, Option.bind_some]
theorem atN_set {α : Type} {n : Nat} {l : List α} {i : Int} {j : Nat} {y : α} {r : Ans G} (h0 : 0 ≤ i) (h1 : i < (n : Int)) (hn : n ≤ l.length) : atN n (l.set j y) i (fun _ => r) = r := by
  unfold atN
  rw [decide_eq_true ⟨h0, h1⟩, cond_true, List.getElem?_eq_getElem (by rw [List.length_set]; omega), Option.bind_some]
theorem atN_any {α : Type} {n : Nat} {l : List α} {i : Int} {r : Ans G} (h0 : 0 ≤ i) (h1 : i < (n : Int)) (hn : n ≤ l.length) : atN n l i (fun _ => r) = r := by
  unfold atN
  rw [decide_eq_true ⟨h0, h1⟩, cond_true, List.getElem?_eq_getElem (by omega), Option.bind_some]
theorem stepW27_at {l : List GRow} {s : List GStill} (hl : Fit l s.length) {i : Nat} (hi : i < l.length) (next) : stepW27 l s (i : Int) next = next (warm1 l s i) := by
  obtain ⟨_, a0, a1, b0, b1, _⟩ := hl i hi
  have hx : l[((i : Nat) : Int).toNat]? = some (getR l i) := by rw [Int.toNat_natCast]; exact getR_at hi
  unfold stepW27 warm1
  simp only [atN_at (show (0 : Int) ≤ (i : Int) by omega) (show (i : Int) < (l.length : Int) by omega) hx, atN_at a0 a1 (getS_at a0 a1), atN_at b0 b1 (getS_at b0 b1), atN_set b0 b1 (Nat.le_refl s.length)]
theorem tail27_at {n m : Nat} {r : List GRow} {s : List GStill} {k : Nat} {x : GRow} (hn : n = r.length) (hm : m = s.length) (hx : r[k]? = some x) (a0 : 0 ≤ x.A) (a1 : x.A < (s.length : Int)) (b0 : 0 ≤ x.B) (b1 : x.B < (s.length : Int)) (next) :
    tail27 n m r s (k : Int) next = bif rok x (getS s x.A) (getS s x.B) then next (r.set k (rone x (getS s x.A) (getS s x.B))) ((s.set x.A.toNat (roneA x (getS s x.A) (getS s x.B))).set x.B.toNat (roneB x (getS s x.A) (getS s x.B))) else next r s := by
  subst hn hm
  have hk : k < r.length := by
    rcases Nat.lt_or_ge k r.length with h | h
    · exact h
    · rw [List.getElem?_eq_none h] at hx; cases hx
  have hx : r[((k : Nat) : Int).toNat]? = some x := hx
  unfold tail27
  simp only [atN_at (show (0 : Int) ≤ (k : Int) by omega) (show (k : Int) < (r.length : Int) by omega) hx, atN_at a0 a1 (getS_at a0 a1), atN_at b0 b1 (getS_at b0 b1), atN_set b0 b1 (Nat.le_refl s.length), rerr_zero, Int.toNat_natCast]
theorem stepI27_at {r : List GRow} {s : List GStill} {k : Nat} (h : FitAt r s.length k) (next) : stepI27 (r, s) (k : Int) next = next (turn1 (r, s) k).1 (turn1 (r, s) k).2 := by
  obtain ⟨hk, a0, a1, b0, b1, ho⟩ := h
  have hx := getR_at hk
  have hx' : r[((k : Nat) : Int).toNat]? = some (getR r k) := hx
  have k0 : (0 : Int) ≤ (k : Int) := by omega
  have k1 : (k : Int) < (r.length : Int) := by omega
  have hA : (endsOf r k).A = (getR r k).A ∧ (endsOf r k).B = (getR r k).B := by
    unfold endsOf
    cases decide ((getR r k).Of ≥ 0) <;> exact ⟨rfl, rfl⟩
  unfold stepI27 turn1
  simp only [atN_at k0 k1 hx']
  by_cases hof : (getR r k).Of ≥ 0
  · rw [decide_eq_true hof, cond_true, atN_at hof ho (getR_at (show (getR r k).Of.toNat < r.length by omega))]
    have e : ∀ (m : Nat), ends27 r.length r (k : Int) m (fun r' => tail27 r.length s.length r' s (k : Int) next) = tail27 r.length s.length (r.set k { getR r k with Low := fsub 0 m, High := m }) s (k : Int) next := fun m => by
      unfold ends27
      rw [atN_at k0 k1 hx', Int.toNat_natCast, atN_at k0 k1 (by rw [Int.toNat_natCast]; exact List.getElem?_set_self hk), List.set_set]
    have he : (bif !flt 0 (fmul (getR r k).Ratio (getR r (getR r k).Of.toNat).Push) then ends27 r.length r (k : Int) 0 (fun r' => tail27 r.length s.length r' s (k : Int) next) else ends27 r.length r (k : Int) (fmul (getR r k).Ratio (getR r (getR r k).Of.toNat).Push) (fun r' => tail27 r.length s.length r' s (k : Int) next)) = tail27 r.length s.length (r.set k (endsOf r k)) s (k : Int) next := by
      unfold endsOf
      rw [decide_eq_true hof]
      cases flt 0 (fmul (getR r k).Ratio (getR r (getR r k).Of.toNat).Push) <;> exact e _
    rw [he, tail27_at (by simp) rfl (List.getElem?_set_self hk) (by rw [hA.1]; exact a0) (by rw [hA.1]; exact a1) (by rw [hA.2]; exact b0) (by rw [hA.2]; exact b1), List.set_set]
    cases rok (endsOf r k) (getS s (endsOf r k).A) (getS s (endsOf r k).B) <;> rfl
  · rw [decide_eq_false hof, cond_false, tail27_at rfl rfl hx a0 a1 b0 b1]
    have he : endsOf r k = getR r k := by unfold endsOf; rw [decide_eq_false hof]; rfl
    rw [he]
    have hs : r.set k (getR r k) = r := by
      apply List.ext_getElem?
      intro j
      by_cases hj : k = j
      · subst hj
        rw [List.getElem?_set_self hk, hx]
      · rw [List.getElem?_set_ne hj]
    cases rok (getR r k) (getS s (getR r k).A) (getS s (getR r k).B) with
    | true => rfl
    | false => rw [cond_false, cond_false, hs]

theorem lp27i (l : List GRow) (s0 : List GStill) (m : Nat) : LpOk (EV L91 (E27 l s0 m)) [] (lpBody Try.f27 2) lcIn27 := lpOk_of (by kernel_rfl) fun vs bs K o h => by
  simp only [lcIn27] at h
  split at h
  · rename_i n a b j i r s
    obtain ⟨⟨rfl, rfl, rfl, h1, h2⟩, g⟩ := gate_some h
    exact ⟨_, (fold_loop (N := r.length) (g := turn1) (F := fun k i (q : List GRow × List GStill) => iter (EV L91 (E27 l s0 m)) hd27i (lpBody Try.f27 2) k (Vi q n j i) (Bq q) K) (X := fun (q : List GRow × List GStill) => K (.exit 4) (Vi q n j r.length) (Bq q)) (s0 := (r, s)) (fun _ q => Keeps (r, s) q) (Keeps.refl _)
      (fun k i q hi hq => by
        have hl : q.1.length = r.length := hq.1
        rw [step27i, decide_eq_true (by omega), cond_true, stepI27_at ((hq.2.2 h2) i (by omega)), wrap_succ (by omega)])
      (fun i q _ hq => hq.turn i) (fun k q hq => by
        have hl : q.1.length = r.length := hq.1
        rw [step27i, decide_eq_false (by omega)]; rfl)).trans g⟩
  · cases h
theorem lp27o (l : List GRow) (s : List GStill) (n : Nat) (hn : n ≤ 64) (hl : l.length < 9223372036854775808) (hf : Fit l s.length) : LpOk (EV L91 (E27 l s n)) [] (lpBody Try.f27 1) (lcOf hd27o (Vw l (warmAll l s) n 0) (Bq (l, warmAll l s)) fun K => K (.exit 2) (Vw (solved l s n).1 (solved l s n).2 n n) (Bq (solved l s n))) :=
  lcOf_ok (by kernel_rfl) fun K => ⟨_, fold_loop (N := n) (g := fun q _ => round1 q) (F := fun k i (q : List GRow × List GStill) => iter (EV L91 (E27 l s n)) hd27o (lpBody Try.f27 1) k (Vw q.1 q.2 n i) (Bq q) K) (X := fun (q : List GRow × List GStill) => K (.exit 2) (Vw q.1 q.2 n n) (Bq q)) (s0 := (l, warmAll l s)) (fun _ q => Keeps (l, warmAll l s) q) (Keeps.refl _)
    (fun k i q hi hq => by
      rw [step27o, decide_eq_true (by omega), cond_true, gate_pos ⟨rfl, rfl, rfl, by rw [hq.1]; exact hl, hq.2.2 (Keeps.warm hf)⟩, wrap_succ (by omega)])
    (fun i q _ hq => hq.trans (round1_keeps q)) (fun k q hq => by rw [step27o, decide_eq_false (by omega)]; rfl)⟩
theorem lp27w (l : List GRow) (s : List GStill) (n : Nat) (hl : l.length < 9223372036854775808) (hf : Fit l s.length) : LpOk (EV L91 (E27 l s n)) [] (lpBody Try.f27 0) (lcOf hd27w (Vw l s n 0) (Bq (l, s)) fun K => K (.exit 0) (Vw l (warmAll l s) n l.length) (Bq (l, warmAll l s))) :=
  lcOf_ok (by kernel_rfl) fun K => ⟨_, fold_loop (N := l.length) (g := warm1 l) (F := fun k i (t : List GStill) => iter (EV L91 (E27 l s n)) hd27w (lpBody Try.f27 0) k (Vw l t n i) (Bq (l, t)) K) (X := fun (t : List GStill) => K (.exit 0) (Vw l t n l.length) (Bq (l, t))) (s0 := s) (fun _ t => t.length = s.length) rfl
    (fun k i t hi ht => by
      rw [step27w, decide_eq_true (by omega), cond_true, stepW27_at (by rw [ht]; exact hf) hi, wrap_succ (by omega)])
    (fun i t hi ht => (warm1_len l t i).trans ht) (fun k t ht => by rw [step27w, decide_eq_false (by omega)]; rfl)⟩

def c27 : FC G := FC.rn [.l .row, .l .still, .s .i64] fun (l, b, n, _) K => runAll l b n K
theorem all_at27 (l : List GRow) (b : List GStill) (n : Int) : ∃ lp, LpsOk (EV L91 lp) [] (bodyD Try.f27) ∧ ∀ K o, runAll l b n K = some o → xfn (EV L91 lp) Try.f27 [] (encs [.l .row, .l .still, .s .i64] (l, b, n, ())) [] K = some o := by
  rcases run_cases (l := l) (b := b) (n := n) with ⟨m, rfl, hm, ha, h1⟩ | h1 | ⟨h1, h2⟩
  · have := ha.rows
    have := ha.bodies
    refine ⟨E27 l b m, lps3 (i := 11) (j := 17) (k := 20) (by kernel_rfl) rfl (lp27w l b m (by omega) ha.fit) rfl (lp27o l b m hm (by omega) ha.fit) rfl (lp27i l b m), fun K o h => ?_⟩
    unfold runAll at h
    rw [h1, cond_false, Int.toNat_natCast] at h
    rw [x27, h1, cond_false, decide_eq_true (show l.length * 112 ≤ 2 ^ 47 by omega), decide_eq_true (show b.length * 40 ≤ 2 ^ 47 by omega), cond_true, cond_true, gate_pos ⟨rfl, rfl⟩, gate_pos ⟨rfl, rfl⟩]
    exact h
  · exact ⟨[], LpsOk.of _ fun _ _ _ _ h => (by cases h), fun K o h => by unfold runAll at h; rw [x27n, h1]; rw [h1] at h; exact h⟩
  · exact ⟨[], LpsOk.of _ fun _ _ _ _ h => (by cases h), fun K o h => by unfold runAll at h; rw [x27n, h1, h2]; rw [h1, h2] at h; exact h⟩
theorem ok27 : FcOk Try.prog 27 c27 := rn_lp L91ok Try.func27 (by kernel_rfl) (by kernel_rfl) (fun (l, b, n, _) K o h => runAll_K l b n K o h) fun (l, b, n, _) _ => all_at27 l b n
noncomputable def L27 : Ctr := (27, c27) :: L26
theorem L27ok : AllOk L27 := .cons (ok27) L26ok
end Go.SX
