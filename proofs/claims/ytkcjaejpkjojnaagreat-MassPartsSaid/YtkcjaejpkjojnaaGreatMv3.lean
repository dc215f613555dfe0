/- Texts of this seat, laid together by a program: what they say stands at each. No statement of the seat is proved in this file. -/
import Derived.Test.YtkcjaejpkjojnaaGreatMv2
import Derived.Test.YtkcjaejpkjojnaaGreatProg
import Derived.KernelRfl
import Derived.Handy
set_option linter.unusedSectionVars false
set_option linter.unnecessarySimpa false
set_option linter.unusedVariables false
set_option linter.unusedSimpArgs false
set_option exponentiation.threshold 4096
/- The seat's element types: their laws; the table of types against the program. No statement of the seat is proved here. -/
namespace Go.SX
open Go.Proofs

theorem encG_refs : ∀ (c : TC) (x : TD c) (r : RV G), r ∈ encG c x → refs 1 r = false ∧ oneC r = true := by
  intro c x r h
  have : (encG c x).all (fun r => (!refs 1 r) && oneC r) = true := by cases c <;> rfl
  have := List.all_eq_true.1 this r h
  simpa using this

theorem encG_size (c : TC) (x : TD c) : (encG c x).length = sizeG c := by cases c <;> rfl

theorem encG_flat (c : TC) (x : TD c) (r : RV G) (hc : flatG c = true) (h : r ∈ encG c x) : looks 1 r = false := by
  have : (encG c x).all (fun r => !looks 1 r) = true := by cases c <;> first | rfl | cases hc
  have := List.all_eq_true.1 this r h
  simpa using this

/-- What is told again says no more than what was told. -/
def Says (r r' : RV G) : Prop := ∀ (φ : Phi) (St : Stb) (v : Value), RVal φ St v r → RVal φ St v r'
theorem Says.refl (r : RV G) : Says r r := fun _ _ _ h => h

theorem decS_says {c : TC} {v : RV G} {xs : List (TD c)} (h : decS c v = some xs) : Says v (.rslice c xs) := by
  intro φ St u hu
  unfold decS at h
  split at h
  · cases h
    cases hu
    exact .rslice0 fun _ => rfl
  · cases h
    cases hu
    exact .rslice0 fun h => by cases h
  · rename_i d ys
    split at h
    · rename_i e _
      cases h
      subst e
      exact hu
    · cases h
  · rename_i d ys n
    split at h
    · rename_i e _
      cases h
      subst e
      exact hu.soft
    · cases h
  · cases h

theorem decG_says : ∀ (c : TC) (l : List (RV G)) (x : TD c), decG c l = some x → l.length = (encG c x).length ∧ ∀ (j : Nat) (r r' : RV G), l[j]? = some r → (encG c x)[j]? = some r' → Says r r' := by
  have same : ∀ (l l' : List (RV G)), l = l' → l.length = l'.length ∧ ∀ (j : Nat) (r r' : RV G), l[j]? = some r → l'[j]? = some r' → Says r r' := fun l l' e => by
    subst e
    exact ⟨rfl, fun j r r' h h' => by rw [h] at h'; cases h'; exact Says.refl r⟩
  intro c l x h
  cases c <;> simp only [decG] at h <;> (split at h <;> first | (cases h; exact same _ _ rfl) | cases h | skip)
  all_goals
    (split at h
     · rename_i ys hys
       cases h
       refine ⟨rfl, fun j r r' hr hr' => ?_⟩
       have hs := decS_says hys
       rcases j with _ | _ | _ | _ | _ | _ | _ | _ | _ | j <;> simp only [encG, List.getElem?_cons_zero, List.getElem?_cons_succ, List.getElem?_nil, Option.some.injEq, reduceCtorEq] at hr hr' <;> (subst hr; subst hr'; first | exact Says.refl _ | exact hs)
     · cases h)

instance : EncLaws G where
  refs := encG_refs
  size := encG_size
  pos c := by cases c <;> decide
  flat c x r hc h := encG_flat c x r hc h
  dec c l x h := ⟨(decG_says c l x h).1, fun φ St j v r r' h1 h2 hv => (decG_says c l x h).2 j r r' h1 h2 φ St v hv⟩

set_option maxRecDepth 100000
theorem tysOK : tyOK Tryz.prog tyL = true := by kernel_rfl
theorem tys : TyOk Tryz.prog (lk tyL) := tyOK_spec tysOK
theorem mixed : Tryz.prog.follows .mixedOrders = true := by kernel_rfl
end Go.SX

/- Contracts of functions, put together out of what the executor says of them. No statement of the seat is proved here. -/
namespace Go.SX
open Go.Proofs
section
variable {E : Env G}

/-! ### arguments -/
/-- The kind of an argument: a value of a code, a list of such, a function without captures, one that has captured a pointer to a value. -/
inductive AK where
  | s (c : TC)
  | l (c : TC)
  | f (n : Nat)
  | fp (n : Nat) (c : TC)
  | a2 (c : TC)
  | p (c : TC)
  | ct (c : TC)
  | tc
  | sc

abbrev AK.den : AK → Type
  | .s c => TD c
  | .l c => List (TD c)
  | .f _ => Unit
  | .fp _ c => TD c
  | .a2 c => TD c × TD c
  | .p c => TD c
  | .ct c => List (TD c) × Nat
  | .tc => GTouch × Nat
  | .sc => GShape × Nat

def scal : TC → Bool
  | .i64 | .bool | .f64 | .u8 | .u64 | .u32 => true
  | _ => false

def oneOf (l : List (RV G)) : RV G := match l with | [v] => v | _ => .junk

/-- A value of a code as one RV. -/
def encR (c : TC) (x : TD c) : RV G := match scal c with | true => oneOf (encG c x) | false => .agg (encG c x)

def decR (c : TC) (v : RV G) : Option (TD c) := match scal c with | true => decG c [v] | false => match v with | .agg l => decG c l | _ => none

def AK.enc : (k : AK) → k.den → RV G
  | .s c, x => encR c x
  | .l c, x => .rslice c x
  | .f n, _ => .func n []
  | .fp n c, x => .func n [.rptr (encG c x) 0]
  | .a2 c, (x, y) => .agg (app (encG c x) (encG c y))
  | .p c, x => .rptr (encG c x) 0
  | .ct c, (ys, n) => .cslice c ys n
  | .tc, (t, n) => .agg [.int .i64 t.Pair.A, .int .i64 t.Pair.PartA, .int .i64 t.Pair.B, .int .i64 t.Pair.PartB, .bool t.Sensor, .flt t.Normal.X, .flt t.Normal.Y, .cslice .point t.Points n]
  | .sc, (t, n) => .agg [.int .u8 t.Kind, .flt t.Radius, .cslice .vec t.Points n]

def AK.dec : (k : AK) → RV G → Option k.den
  | .s c, v => decR c v
  | .l c, v => decS c v
  | .f n, v => match v with | .func m [] => sel (Nat.beq m n) (some ()) none | _ => none
  | .fp n c, v => match v with | .func m [.rptr cs 0] => sel (Nat.beq m n) (decG c cs) none | _ => none
  | .a2 c, v => match v with
    | .agg cs => match takeN (sizeG c) cs with
      | some hd => match decG c hd, decG c (dropN (sizeG c) cs) with
        | some x, some y => some (x, y)
        | _, _ => none
      | none => none
    | _ => none
  | .p c, v => match v with
    | .rptr cs 0 => decG c cs
    | _ => none
  | .ct c, v => match v with
    | .cslice d ys n => match (inferInstance : DecidableEq TC) d c with | .isTrue h => some (h ▸ ys, n) | .isFalse _ => none
    | _ => none
  | .tc, v => match v with
    | .agg [.int .i64 a, .int .i64 b, .int .i64 c, .int .i64 d, .bool e, .flt x, .flt y, .cslice .point ys n] => some (⟨⟨a, b, c, d⟩, e, ⟨x, y⟩, ys⟩, n)
    | _ => none
  | .sc, v => match v with
    | .agg [.int .u8 a, .flt x, .cslice .vec ys n] => some (⟨a, x, ys⟩, n)
    | _ => none

abbrev dens : List AK → Type
  | [] => Unit
  | k :: r => k.den × dens r

def encs : (ks : List AK) → dens ks → List (RV G)
  | [], _ => []
  | k :: r, (x, y) => k.enc x :: encs r y

def decs' : (ks : List AK) → List (RV G) → Option (dens ks)
  | [], [] => some ()
  | k :: r, v :: l => match k.dec v with
    | some x => match decs' r l with | some y => some (x, y) | none => none
    | none => none
  | _, _ => none

theorem encG_len (c : TC) (x : TD c) (h : scal c = true) : ∃ v, encG c x = [v] := by
  cases c <;> first | exact ⟨_, rfl⟩ | cases h

theorem decG_rel {c : TC} {l : List (RV G)} {x : TD c} (h : decG c l = some x) {φ : Phi} {St : Stb} {arr : Array Value} (hs : arr.size = l.length)
    (g : ∀ (j : Nat) (u : Value) (r : RV G), arr[j]? = some u → l[j]? = some r → RVal φ St u r) :
    arr.size = (encG c x).length ∧ ∀ (j : Nat) (u : Value) (r : RV G), arr[j]? = some u → (encG c x)[j]? = some r → RVal φ St u r := by
  obtain ⟨h1, h2⟩ := decG_says c l x h
  refine ⟨by omega, fun j u r hu hr => ?_⟩
  have hj : j < l.length := by have := (List.getElem?_eq_some_iff.1 hr).1; omega
  exact h2 j _ r (List.getElem?_eq_getElem hj) hr φ St u (g j u _ hu (List.getElem?_eq_getElem hj))

theorem decR_says {c : TC} {v : RV G} {x : TD c} (h : decR c v = some x) : Says v (encR c x) := by
  intro φ St u hu
  unfold decR at h
  unfold encR
  split at h
  · rename_i hs
    obtain ⟨w, hw⟩ := encG_len c x hs
    simp only [hw, oneOf]
    obtain ⟨_, h2⟩ := decG_says c [v] x h
    exact h2 0 v w rfl (by rw [hw]; rfl) φ St u hu
  · rename_i hs
    split at h
    · rename_i l
      cases hu with
      | agg hn g =>
        obtain ⟨g1, g2⟩ := decG_rel h hn g
        exact .agg g1 g2
    · cases h

theorem AK.dec_says : ∀ {k : AK} {v : RV G} {x : k.den}, k.dec v = some x → Says v (k.enc x)
  | .s c, v, x, h => decR_says h
  | .l c, v, x, h => decS_says h
  | .f n, v, x, h => by
    simp only [AK.dec] at h
    split at h
    · rename_i m
      rw [sel_eq] at h
      split at h
      · rename_i hm
        have := Nat.eq_of_beq_eq_true hm
        subst this
        exact Says.refl _
      · cases h
    · cases h
  | .fp n c, v, x, h => by
    simp only [AK.dec] at h
    split at h
    · rename_i m l
      rw [sel_eq] at h
      split at h
      · rename_i hm
        have := Nat.eq_of_beq_eq_true hm
        subst this
        intro φ St u hu
        cases hu with
        | func hn g =>
          refine .func hn fun j u r hu hr => ?_
          cases j with
          | succ j => simp at hr
          | zero =>
            simp only [List.getElem?_cons_zero, Option.some.injEq] at hr
            subst hr
            have := g 0 u _ hu rfl
            cases this with
            | rptr hk f0 g0 =>
              obtain ⟨h1, h2⟩ := decG_says c l x h
              refine .rptr (s := 0) hk (fun j r hr => ?_) (fun j r u hr hu => ?_)
              · have hj : j < l.length := by have := (List.getElem?_eq_some_iff.1 hr).1; omega
                exact f0 j _ (List.getElem?_eq_getElem hj)
              · have hj : j < l.length := by have := (List.getElem?_eq_some_iff.1 hr).1; omega
                exact h2 j _ r (List.getElem?_eq_getElem hj) hr _ _ u (g0 j _ u (List.getElem?_eq_getElem hj) hu)
      · cases h
    · cases h

  | .a2 c, v, (x, y), h => by
    simp only [AK.dec] at h
    split at h
    · rename_i cs
      split at h
      · rename_i hd htk
        split at h
        · rename_i x' y' hx hy
          cases h
          intro φ St u hu
          cases hu with
          | agg hn g =>
            obtain ⟨t1, t2, t3⟩ := takeN_some _ _ _ htk
            rw [dropN_eq] at hy
            obtain ⟨a1, a2⟩ := decG_says c hd x hx
            obtain ⟨b1, b2⟩ := decG_says c _ y hy
            have l1 := encG_size c x
            have l2 := encG_size c y
            rw [List.length_drop] at b1
            refine .agg (by rw [app_eq, List.length_append]; omega) fun j u r hu hr => ?_
            rw [app_eq] at hr
            by_cases hj : j < (encG c x).length
            · rw [List.getElem?_append_left hj] at hr
              have hj' : j < hd.length := by omega
              exact a2 j _ r (List.getElem?_eq_getElem hj') hr _ _ u (g j u _ hu (by rw [← t3 j (by omega)]; exact List.getElem?_eq_getElem hj'))
            · rw [List.getElem?_append_right (by omega)] at hr
              have hj2 := (List.getElem?_eq_some_iff.1 hr).1
              have hj' : j < cs.length := by omega
              refine b2 (j - (encG c x).length) _ r ?_ hr _ _ u (g j u _ hu (List.getElem?_eq_getElem hj'))
              rw [List.getElem?_drop, show sizeG c + (j - (encG c x).length) = j by omega]
              exact List.getElem?_eq_getElem hj'
        · cases h
      · cases h
    · cases h

  | .p c, v, x, h => by
    simp only [AK.dec] at h
    split at h
    · rename_i cs
      intro φ St u hu
      cases hu with
      | rptr hk f0 g0 =>
        obtain ⟨h1, h2⟩ := decG_says c cs x h
        refine .rptr (s := 0) hk (fun j r hr => ?_) (fun j r u hr hu => ?_)
        · have hj : j < cs.length := by have := (List.getElem?_eq_some_iff.1 hr).1; omega
          exact f0 j _ (List.getElem?_eq_getElem hj)
        · have hj : j < cs.length := by have := (List.getElem?_eq_some_iff.1 hr).1; omega
          exact h2 j _ r (List.getElem?_eq_getElem hj) hr _ _ u (g0 j _ u (List.getElem?_eq_getElem hj) hu)
    · cases h

  | .ct c, v, x, h => by
    simp only [AK.dec] at h
    split at h
    · rename_i d ys n
      split at h
      · rename_i e _
        cases h
        subst e
        exact Says.refl _
      · cases h
    · cases h
  | .tc, v, x, h => by
    simp only [AK.dec] at h
    split at h
    · cases h
      exact Says.refl _
    · cases h
  | .sc, v, x, h => by
    simp only [AK.dec] at h
    split at h
    · cases h
      exact Says.refl _
    · cases h

theorem decs'_rel : ∀ {ks : List AK} {l : List (RV G)} {x : dens ks}, decs' ks l = some x → ∀ {φ : Phi} {St : Stb} {vs : Array Value}, ArgsRel φ St vs l → ArgsRel φ St vs (encs ks x) := by
  have main : ∀ (ks : List AK) (l : List (RV G)) (x : dens ks), decs' ks l = some x → l.length = (encs ks x).length ∧ ∀ (j : Nat) (r r' : RV G), l[j]? = some r → (encs ks x)[j]? = some r' → Says r r' := by
    intro ks
    induction ks with
    | nil =>
      intro l x h
      cases l with
      | nil => exact ⟨rfl, fun j r r' h => by simp at h⟩
      | cons v l => simp [decs'] at h
    | cons k ks ih =>
      intro l x h
      cases l with
      | nil => simp [decs'] at h
      | cons v l =>
        simp only [decs'] at h
        split at h
        · rename_i a ha
          split at h
          · rename_i b hb
            cases h
            obtain ⟨h1, h2⟩ := ih l b hb
            refine ⟨by simp [encs, h1], fun j r r' hr hr' => ?_⟩
            cases j with
            | zero =>
              simp only [encs, List.getElem?_cons_zero, Option.some.injEq] at hr hr'
              subst hr; subst hr'
              exact AK.dec_says ha
            | succ j => exact h2 j r r' (by simpa using hr) (by simpa [encs] using hr')
          · cases h
        · cases h
  intro ks l x h φ St vs hv
  obtain ⟨h1, h2⟩ := main ks l x h
  refine ⟨by rw [hv.1, h1], fun j u r hu hr => ?_⟩
  have hj : j < l.length := by have := (List.getElem?_eq_some_iff.1 hr).1; omega
  exact h2 j _ r (List.getElem?_eq_getElem hj) hr _ _ _ (hv.2 j u _ hu (List.getElem?_eq_getElem hj))

/-! ### code -/
def bodyD (fn : Func) : Code := match fn.body with | some c => c | none => .skip

def fnOK (fn : Func) : Bool := fn.body.isSome && !(fn.name == "runtime.NumGoroutine") && dstOK fn.ntmps (bodyD fn)

def loops : Code → List (Option Nat × Code)
  | .seq a b => app (loops a) (loops b)
  | .cond _ a b => app (loops a) (loops b)
  | .block _ c => loops c
  | .loop c => (firstRegion c, c) :: loops c
  | .scope c => loops c
  | _ => []

/-- The body of a function's loop, by number in the text. -/
def lpBody (fn : Func) (i : Nat) : Code := match getN (loops (bodyD fn)) i with | some x => x.2 | none => .skip

theorem LpsOk.of {mu : List Nat} : ∀ c, (∀ i b lc, (some i, b) ∈ loops c → E.lp i = some lc → LpOk E mu b lc) → LpsOk E mu c
  | .seq a b, h => by
    simp only [loops, app_eq, List.mem_append] at h
    exact ⟨LpsOk.of a fun i b lc hb => h i b lc (.inl hb), LpsOk.of b fun i b lc hb => h i b lc (.inr hb)⟩
  | .cond _ a b, h => by
    simp only [loops, app_eq, List.mem_append] at h
    exact ⟨LpsOk.of a fun i b lc hb => h i b lc (.inl hb), LpsOk.of b fun i b lc hb => h i b lc (.inr hb)⟩
  | .block _ c, h => LpsOk.of c h
  | .loop c, h => by
    simp only [loops, List.mem_cons] at h
    exact ⟨fun i lc hi hl => h i c lc (.inl (by rw [hi])) hl, LpsOk.of c fun i b lc hb => h i b lc (.inr hb)⟩
  | .scope c, h => LpsOk.of c h
  | .skip, _ => trivial
  | .region _ _ _, _ => trivial
  | .rangeFunc _ _ _ _, _ => trivial
  | .exit _, _ => trivial
  | .label _, _ => trivial
  | .goto _, _ => trivial
  | .ret, _ => trivial
  | .refuse _, _ => trivial

theorem LpsOk.none {mu : List Nat} {c : Code} (h : loops c = []) : LpsOk E mu c := LpsOk.of c fun i b lc hb => by rw [h] at hb; simp at hb

/-! ### contracts that write nothing -/
def FC.sp (ks : List AK) (res : dens ks → RV G) : FC G := FC.ofPure fun vs => match decs' ks vs with | some x => some (res x) | none => none
def FC.rn (ks : List AK) (run : dens ks → (RV G → List (Blk G) → List (Blk G) → Ans G) → Ans G) : FC G := FC.ofRun [] fun vs _ K => match decs' ks vs with | some x => run x K | none => none

/-- The contracts so far. -/
abbrev Ctr := List (Nat × FC G)
def AllOk (L : Ctr) : Prop := ∀ x ∈ L, FcOk Tryz.prog x.1 x.2

def eqTs : List Nat := [29, 70]
/-- The methods that are called by interfaces. -/
def mtL : List (Nat × String × Nat) := [(298, "tumble/shape.check", 310), (300, "tumble/shape.check", 315), (301, "tumble/shape.check", 319)]
def mtOf (t : Nat) (name : String) : Option Nat := match lk mtL t with
  | some (n, g) => match decEq n name with | .isTrue _ => some g | .isFalse _ => none
  | none => none
def mtOk (P : Program) (x : Nat × String × Nat) : Bool := match P.info? x.1, P.underlying x.1 with
  | some i, some d => (match d with | .pointer _ => false | _ => true) && (match i.methods.find? (·.name == x.2.1) with
    | some m => m.path.isEmpty && (match m.func with | some (g, q) => Nat.beq g x.2.2 && !q | none => false)
    | none => false)
  | _, _ => false
theorem mtOk_spec {P : Program} {x : Nat × String × Nat} (h : mtOk P x = true) (n : Nat) (v : Value) (w : World) : (method (n + 1) x.1 v x.2.1).run P w = .ok (x.2.2, v) w := by
  unfold mtOk at h
  split at h
  · rename_i i d hi hd
    simp only [Bool.and_eq_true] at h
    obtain ⟨h1, h2⟩ := h
    split at h2
    · rename_i m hm
      simp only [Bool.and_eq_true] at h2
      obtain ⟨h3, h4⟩ := h2
      split at h4
      · rename_i g q hf
        simp only [Bool.and_eq_true, Bool.not_eq_true'] at h4
        obtain ⟨h5, rfl⟩ := h4
        have h5 := Nat.eq_of_beq_eq_true h5
        subst h5
        have hp : m.path = #[] := by simpa using h3
        simp only [method, typeInfo, Sem.run_bind, run_program, Result.andThen_ok, hi]
        simp only [Sem.run_bind, Sem.run_pure, Result.andThen_ok, hm, hp, follow, hf, receiverAt, run_underlying hd]
        cases d <;> first | rfl | cases h1
      · cases h4
    · cases h2
  · cases h
theorem mtL_ok : ∀ t name g, mtOf t name = some g → ∀ (v : Value) (w : World), (method (Tryz.prog.types.size + Made.depth) t v name).run Tryz.prog w = .ok (g, v) w := fun t name g h v w => by
  unfold mtOf at h
  split at h
  · rename_i n g' hl
    split at h
    · rename_i e _
      cases h
      subst e
      have ha : mtL.all (mtOk Tryz.prog) = true := by kernel_rfl
      have := List.all_eq_true.1 ha _ (lk_mem _ _ _ hl)
      have hd : 0 < Made.depth := by decide
      generalize Tryz.prog.types.size = k
      cases hm : k + Made.depth with
      | zero => omega
      | succ n => exact mtOk_spec this n v w
    · cases h
  · cases h
/-- The environment of a list of contracts and of loops. -/
def EV (L : Ctr) (lp : List (Nat × LC G)) : Env G := { ty := lk tyL, eqt := eqTs, fn := lk L, lp := lk lp, mt := mtOf }

theorem AllOk.nil : AllOk [] := fun x h => by simp at h
theorem AllOk.cons {L : Ctr} {f : Nat} {fc : FC G} (h : FcOk Tryz.prog f fc) (g : AllOk L) : AllOk ((f, fc) :: L) := fun x hx => by
  rcases List.mem_cons.1 hx with rfl | hx
  · exact h
  · exact g x hx

theorem EnvOk.of (hq : ∀ t, t ∈ eqTs → EqOk G Tryz.prog t) {L : Ctr} (h : AllOk L) (lp : List (Nat × LC G)) : EnvOk Tryz.prog (EV L lp) where
  ty := tys
  eqt := hq
  mt := mtL_ok
  fn _ _ hf := h _ (lk_mem _ _ _ hf)
end
end Go.SX

/- '==' of structs of the seat; contracts out of the executor's answers. No statement of the seat is proved here. -/
namespace Go.SX
open Go.Proofs

/-! ### '==' of structs -/
theorem like_flt {vs : List Value} {z l : List (RV G)} {b : Nat} (h : zOK (.float .f64 b :: vs) z = true) (g : like z l = true) : ∃ a l' z', l = .flt a :: l' ∧ zOK vs z' = true ∧ like z' l' = true := by
  cases z with
  | nil => simp [zOK] at h
  | cons v z =>
    cases v <;> simp only [zOK, Bool.false_eq_true] at h
    · cases l <;> simp [like] at g
    · simp only [Bool.and_eq_true] at h
      cases l with
      | nil => simp [like] at g
      | cons x l =>
        cases x <;> simp only [like, Bool.false_eq_true] at g
        exact ⟨_, _, _, rfl, h.2, g⟩
theorem like_int {vs : List Value} {z l : List (RV G)} {q : IntKind} {b : Int} (h : zOK (.int q b :: vs) z = true) (g : like z l = true) : ∃ a l' z', l = .int q a :: l' ∧ zOK vs z' = true ∧ like z' l' = true := by
  cases z with
  | nil => simp [zOK] at h
  | cons v z =>
    cases v <;> simp only [zOK, Bool.false_eq_true] at h
    · cases l <;> simp [like] at g
    · simp only [Bool.and_eq_true, decide_eq_true_eq] at h
      obtain ⟨⟨rfl, _⟩, h2⟩ := h
      cases l with
      | nil => simp [like] at g
      | cons x l =>
        cases x <;> simp only [like, Bool.false_eq_true] at g
        split at g
        · rename_i e _
          subst e
          exact ⟨_, _, _, rfl, h2, g⟩
        · cases g
theorem like_nil {z l : List (RV G)} (h : zOK [] z = true) (g : like z l = true) : l = [] := by
  cases z with
  | nil => cases l <;> simp [like] at g ⊢
  | cons v z => simp [zOK] at h

theorem agg_two {φ : Phi} {St : Stb} {arr : Array Value} {a b : RV G} (h : RVal φ St (.agg arr) (.agg [a, b])) : ∃ u v, arr = #[u, v] ∧ RVal φ St u a ∧ RVal φ St v b := by
  cases h with
  | agg hn g =>
    have : arr.size = 2 := hn
    refine ⟨arr[0], arr[1], ?_, g 0 _ _ (Array.getElem?_eq_getElem (by omega)) rfl, g 1 _ _ (Array.getElem?_eq_getElem (by omega)) rfl⟩
    apply Array.ext
    · simp [this]
    · intro i h1 h2
      rcases i with _ | _ | i
      · rfl
      · rfl
      · omega
theorem agg_four {φ : Phi} {St : Stb} {arr : Array Value} {a b c d : RV G} (h : RVal φ St (.agg arr) (.agg [a, b, c, d])) : ∃ u v x y, arr = #[u, v, x, y] ∧ RVal φ St u a ∧ RVal φ St v b ∧ RVal φ St x c ∧ RVal φ St y d := by
  cases h with
  | agg hn g =>
    have : arr.size = 4 := hn
    refine ⟨arr[0], arr[1], arr[2], arr[3], ?_, g 0 _ _ (Array.getElem?_eq_getElem (by omega)) rfl, g 1 _ _ (Array.getElem?_eq_getElem (by omega)) rfl, g 2 _ _ (Array.getElem?_eq_getElem (by omega)) rfl, g 3 _ _ (Array.getElem?_eq_getElem (by omega)) rfl⟩
    apply Array.ext
    · simp [this]
    · intro i h1 h2
      rcases i with _ | _ | _ | _ | i
      · rfl
      · rfl
      · rfl
      · rfl
      · omega

set_option maxRecDepth 20000
theorem zero26 : (Tryz.prog.info? 29).map (fun i => i.zero.map (fun z => z.cells.toList)) = some (some [.float .f64 0, .float .f64 0]) := by kernel_rfl
theorem zero23 : (Tryz.prog.info? 70).map (fun i => i.zero.map (fun z => z.cells.toList)) = some (some [.int .i64 0, .int .i64 0, .int .i64 0, .int .i64 0]) := by kernel_rfl
theorem guard26 : Tryz.prog.eqGuardType Tryz.prog.depth 29 = false := by kernel_rfl
theorem guard23 : Tryz.prog.eqGuardType Tryz.prog.depth 70 = false := by kernel_rfl
theorem held26 : Tryz.prog.stoodInHeld 29 = false := by kernel_rfl
theorem held23 : Tryz.prog.stoodInHeld 70 = false := by kernel_rfl

theorem zero_at {t : Nat} {l r : List (RV G)} {cs : List Value} (h : (Tryz.prog.info? t).map (fun i => i.zero.map (fun z => z.cells.toList)) = some (some cs))
    (g : ∀ i zv, Tryz.prog.info? t = some i → i.zero = some zv → ∃ z : List (RV G), zOK zv.cells.toList z = true ∧ like z l = true ∧ like z r = true) : ∃ z : List (RV G), zOK cs z = true ∧ like z l = true ∧ like z r = true := by
  cases hi : Tryz.prog.info? t with
  | none => rw [hi] at h; cases h
  | some i =>
    rw [hi] at h
    simp only [Option.map_some, Option.some.injEq] at h
    obtain ⟨zv, hz, e⟩ := Option.map_eq_some_iff.1 h
    obtain ⟨z, h1, h2⟩ := g i zv hi hz
    rw [e] at h1
    exact ⟨z, h1, h2⟩

theorem run_equalIn_flt (d : Nat) {t : Nat} {w : World} {a b : Nat} (h : Tryz.prog.underlying t = some (.float .f64)) : (Op.equalIn (d + 1) t (.float .f64 a) (.float .f64 b)).run Tryz.prog w = .ok (feq a b) w := by
  simp only [Op.equalIn, Sem.run_bind, run_underlying h, Result.andThen_ok]
  rfl

theorem isAgg_no {t : Nat} {d : TypeDesc} {w : World} (h : Tryz.prog.underlying t = some d) (hd : TypeDesc.isAgg d = false) : (isAgg t).run Tryz.prog w = .ok false w := by
  simp only [Go.isAgg, Sem.run_bind, run_underlying h, Result.andThen_ok]
  cases d <;> first | rfl | cases hd

theorem part_at {t : Nat} {d : TypeDesc} {w : World} {cs : Array Value} {i : Nat} {v : Value} (h : Tryz.prog.underlying t = some d) (hd : TypeDesc.isAgg d = false) (hv : cs[i]? = some v) : (part t cs i).run Tryz.prog w = .ok v w := by
  simp only [part, Sem.run_bind, isAgg_no h hd, Result.andThen_ok, Bool.false_eq_true, if_false, hv, Sem.run_pure]

theorem feq_rel {x x' y y' : Nat} (h : FEq x x') (g : FEq y y') : feq x y = feq x' y' := by unfold feq; rw [h.order g]

theorem eqRun {t : Nat} {arr arr' : Array Value} {w : World} {b : Bool} {x y : Operand} (hg : Tryz.prog.eqGuardType Tryz.prog.depth t = false) (h : (Op.equalIn 10000 t (.agg arr) (.agg arr')).run Tryz.prog w = .ok b w) :
    (do eqGuard .eql t x y (.agg arr) (.agg arr'); binOp .eql t (.agg arr) (.agg arr') : Sem Value).run Tryz.prog w = .ok (.bool b) w ∧
    (do eqGuard .neq t x y (.agg arr) (.agg arr'); binOp .neq t (.agg arr) (.agg arr') : Sem Value).run Tryz.prog w = .ok (.bool (!b)) w := by
  constructor
  · rw [Sem.run_bind, run_eqGuard_agg w .eql t x y arr arr' hg, Result.andThen_ok, run_eql_struct, h]; rfl
  · rw [Sem.run_bind, run_eqGuard_agg w .neq t x y arr arr' hg, Result.andThen_ok, run_neq_struct, h]; rfl

theorem eqOk29 : EqOk G Tryz.prog 29 := by
  intro φ St arr arr' l r b w x y hl hr hz he
  obtain ⟨z, h1, h2, h3⟩ := zero_at zero26 hz
  have h1' := h1
  obtain ⟨a0, l, z', rfl, h1, h2⟩ := like_flt h1 h2
  obtain ⟨a1, l, z', rfl, h1, h2⟩ := like_flt h1 h2
  obtain rfl := like_nil h1 h2
  obtain ⟨b0, r, z', rfl, h1, h3⟩ := like_flt h1' h3
  obtain ⟨b1, r, z', rfl, h1, h3⟩ := like_flt h1 h3
  obtain rfl := like_nil h1 h3
  obtain ⟨u0, u1, rfl, q0, q1⟩ := agg_two hl
  obtain ⟨v0, v1, rfl, p0, p1⟩ := agg_two hr
  obtain ⟨u0, rfl, k0⟩ := q0.inv_flt
  obtain ⟨u1, rfl, k1⟩ := q1.inv_flt
  obtain ⟨v0, rfl, m0⟩ := p0.inv_flt
  obtain ⟨v1, rfl, m1⟩ := p1.inv_flt
  simp only [eqs, Option.some.injEq] at he
  subst he
  refine eqRun guard26 ?_
  have ht : Tryz.prog.underlying 29 = some (.struct (Tryz.prog.fieldsOf 29)) := by simp only [Program.fieldsOf, Tryz.underlying29]
  rw [show (10000 : Nat) = 9999 + 1 from rfl, run_equalIn_struct w 9999 29 _ _ ht held26]
  simp only [Program.fieldsOf, Tryz.underlying29, Op.eqFields, Sem.run_bind, Sem.run_ite]
  have n1 : ¬ ("X" = "_") := by decide
  have n2 : ¬ ("Y" = "_") := by decide
  simp only [ne_eq, n1, n2, not_false_iff, if_true, Sem.run_bind,
    part_at (cs := #[Value.float .f64 u0, .float .f64 u1]) (i := 0) (v := .float .f64 u0) Tryz.underlying23 rfl rfl, part_at (cs := #[Value.float .f64 u0, .float .f64 u1]) (i := 1) (v := .float .f64 u1) Tryz.underlying23 rfl rfl,
    part_at (cs := #[Value.float .f64 v0, .float .f64 v1]) (i := 0) (v := .float .f64 v0) Tryz.underlying23 rfl rfl, part_at (cs := #[Value.float .f64 v0, .float .f64 v1]) (i := 1) (v := .float .f64 v1) Tryz.underlying23 rfl rfl,
    Result.andThen_ok, show (9999 : Nat) = 9998 + 1 from rfl, run_equalIn_flt 9998 Tryz.underlying23, feq_rel k0 m0, feq_rel k1 m1]
  cases feq a0 b0 <;> cases feq a1 b1 <;> simp

theorem eqOk70 : EqOk G Tryz.prog 70 := by
  intro φ St arr arr' l r b w x y hl hr hz he
  obtain ⟨z, h1, h2, h3⟩ := zero_at zero23 hz
  have h1' := h1
  obtain ⟨a0, l, z', rfl, h1, h2⟩ := like_int h1 h2
  obtain ⟨a1, l, z', rfl, h1, h2⟩ := like_int h1 h2
  obtain ⟨a2, l, z', rfl, h1, h2⟩ := like_int h1 h2
  obtain ⟨a3, l, z', rfl, h1, h2⟩ := like_int h1 h2
  obtain rfl := like_nil h1 h2
  obtain ⟨b0, r, z', rfl, h1, h3⟩ := like_int h1' h3
  obtain ⟨b1, r, z', rfl, h1, h3⟩ := like_int h1 h3
  obtain ⟨b2, r, z', rfl, h1, h3⟩ := like_int h1 h3
  obtain ⟨b3, r, z', rfl, h1, h3⟩ := like_int h1 h3
  obtain rfl := like_nil h1 h3
  obtain ⟨u0, u1, u2, u3, rfl, q0, q1, q2, q3⟩ := agg_four hl
  obtain ⟨v0, v1, v2, v3, rfl, p0, p1, p2, p3⟩ := agg_four hr
  rw [q0.inv_int, q1.inv_int, q2.inv_int, q3.inv_int, p0.inv_int, p1.inv_int, p2.inv_int, p3.inv_int]
  simp only [eqs, Option.some.injEq] at he
  subst he
  refine eqRun guard23 ?_
  have ht : Tryz.prog.underlying 70 = some (.struct (Tryz.prog.fieldsOf 70)) := by simp only [Program.fieldsOf, Tryz.underlying70]
  rw [show (10000 : Nat) = 9999 + 1 from rfl, run_equalIn_struct w 9999 70 _ _ ht held23]
  simp only [Program.fieldsOf, Tryz.underlying70, Op.eqFields, Sem.run_bind, Sem.run_ite]
  have n1 : ¬ ("A" = "_") := by decide
  have n2 : ¬ ("PartA" = "_") := by decide
  have n3 : ¬ ("B" = "_") := by decide
  have n4 : ¬ ("PartB" = "_") := by decide
  simp only [ne_eq, n1, n2, n3, n4, not_false_iff, if_true, Sem.run_bind,
    part_at (cs := #[Value.int .i64 a0, .int .i64 a1, .int .i64 a2, .int .i64 a3]) (i := 0) (v := .int .i64 a0) Tryz.underlying3 rfl rfl, part_at (cs := #[Value.int .i64 a0, .int .i64 a1, .int .i64 a2, .int .i64 a3]) (i := 1) (v := .int .i64 a1) Tryz.underlying3 rfl rfl,
    part_at (cs := #[Value.int .i64 a0, .int .i64 a1, .int .i64 a2, .int .i64 a3]) (i := 2) (v := .int .i64 a2) Tryz.underlying3 rfl rfl, part_at (cs := #[Value.int .i64 a0, .int .i64 a1, .int .i64 a2, .int .i64 a3]) (i := 3) (v := .int .i64 a3) Tryz.underlying3 rfl rfl,
    part_at (cs := #[Value.int .i64 b0, .int .i64 b1, .int .i64 b2, .int .i64 b3]) (i := 0) (v := .int .i64 b0) Tryz.underlying3 rfl rfl, part_at (cs := #[Value.int .i64 b0, .int .i64 b1, .int .i64 b2, .int .i64 b3]) (i := 1) (v := .int .i64 b1) Tryz.underlying3 rfl rfl,
    part_at (cs := #[Value.int .i64 b0, .int .i64 b1, .int .i64 b2, .int .i64 b3]) (i := 2) (v := .int .i64 b2) Tryz.underlying3 rfl rfl, part_at (cs := #[Value.int .i64 b0, .int .i64 b1, .int .i64 b2, .int .i64 b3]) (i := 3) (v := .int .i64 b3) Tryz.underlying3 rfl rfl,
    Result.andThen_ok, show (9999 : Nat) = 9998 + 1 from rfl, run_equalIn_int w 9998 3 .i64 .i64 _ _ Tryz.underlying3]
  cases a0 == b0 <;> cases a1 == b1 <;> cases a2 == b2 <;> cases a3 == b3 <;> simp

theorem eqTsOk : ∀ t, t ∈ eqTs → EqOk G Tryz.prog t := fun t h => by
  simp only [eqTs, List.mem_cons, List.not_mem_nil, or_false] at h
  rcases h with rfl | rfl
  · exact eqOk29
  · exact eqOk70

/-! ### contracts -/
theorem EV_ok {L : Ctr} (h : AllOk L) (lp : List (Nat × LC G)) : EnvOk Tryz.prog (EV L lp) := EnvOk.of eqTsOk h lp

theorem encs_len : ∀ (ks : List AK) (x : dens ks), (encs ks x).length = ks.length
  | [], _ => rfl
  | _ :: ks, (_, y) => by simp [encs, encs_len ks y]

theorem fnOK_spec {fn : Func} (h : fnOK fn = true) : (fn.name == "runtime.NumGoroutine") = false ∧ fn.body = some (bodyD fn) ∧ dstOK fn.ntmps (bodyD fn) = true := by
  unfold fnOK at h
  simp only [Bool.and_eq_true, Bool.not_eq_true'] at h
  obtain ⟨⟨h1, h2⟩, h3⟩ := h
  refine ⟨h2, ?_, h3⟩
  unfold bodyD
  cases hb : fn.body with
  | none => rw [hb] at h1; cases h1
  | some c => rfl

section
variable {L : Ctr} (hL : AllOk L) {f : Nat} {fn : Func} (hf : Tryz.prog.funcs[f]? = some fn) (ho : fnOK fn = true)
include hL hf ho

/-- A contract that writes nothing of its caller's. -/
theorem rn_ok (lp : List (Nat × LC G)) (hlp : LpsOk (EV L lp) [] (bodyD fn)) {ks : List AK} {run : dens ks → (RV G → List (Blk G) → List (Blk G) → Ans G) → Ans G}
    (hn : Nat.ble ks.length fn.ntmps = true) (h : ∀ (x : dens ks) K o, run x K = some o → xfn (EV L lp) fn [] (encs ks x) [] K = some o) : FcOk Tryz.prog f (FC.rn ks run) where
  pure _ _ h := by cases h
  run vs bs K o hr := by
    simp only [FC.rn, FC.ofRun] at hr
    split at hr
    · rename_i x hx
      obtain ⟨o1, o2, o3⟩ := fnOK_spec ho
      have hn' := Nat.le_of_ble_eq_true hn
      have m1 : muIds [] (encs ks x) = [] := by simp [muIds, mutsOf_nil]
      have m2 : muIds [] vs = [] := by simp [muIds, mutsOf_nil]
      obtain ⟨r, bs', fr, h1, h2⟩ := fn_ok (EV_ok hL lp) mixed hf o1 o2 o3 hlp (by rw [encs_len]; exact hn') m1 (h x K o hr)
      refine ⟨r, bs', fr, h1, fun cx w us ids hids hl ha hal hi => ?_⟩
      have : ids = [] := by rw [hids]; exact m2
      subst this
      have hb : bs = [] := by cases bs with
        | nil => rfl
        | cons _ _ => simp at hl
      subst hb
      exact h2 cx w us [] m1.symm rfl (decs'_rel hx ha) hal hi
    · cases hr

theorem sp_ok (lp : List (Nat × LC G)) (hlp : LpsOk (EV L lp) [] (bodyD fn)) {ks : List AK} {res : dens ks → RV G}
    (hn : Nat.ble ks.length fn.ntmps = true) (h : ∀ (x : dens ks) K, xfn (EV L lp) fn [] (encs ks x) [] K = K (res x) [] []) : FcOk Tryz.prog f (FC.sp ks res) where
  pure vs r hr K := by
    simp only [FC.sp, FC.ofPure] at hr ⊢
    split at hr
    · rename_i x hx
      cases hr
      rfl
    · cases hr
  run vs bs K o hr := by
    have h1 : FcOk Tryz.prog f (FC.rn ks fun x K => K (res x) [] []) := rn_ok hL hf ho lp hlp hn fun x K o hk => by rw [h]; exact hk
    refine h1.run vs bs K o ?_
    simp only [FC.sp, FC.ofPure] at hr
    simp only [FC.rn, FC.ofRun]
    split at hr
    · rename_i r hr'
      split at hr'
      · cases hr'
        exact hr
      · cases hr'
    · cases hr

/-- A function without loops. -/
theorem sp0 (hl : loops (bodyD fn) = []) {ks : List AK} {res : dens ks → RV G} (hn : Nat.ble ks.length fn.ntmps = true) (h : ∀ (x : dens ks) K, xfn (EV L []) fn [] (encs ks x) [] K = K (res x) [] []) : FcOk Tryz.prog f (FC.sp ks res) :=
  sp_ok hL hf ho [] (.none hl) hn h
theorem rn0 (hl : loops (bodyD fn) = []) {ks : List AK} {run : dens ks → (RV G → List (Blk G) → List (Blk G) → Ans G) → Ans G} (hn : Nat.ble ks.length fn.ntmps = true)
    (h : ∀ (x : dens ks) K, xfn (EV L []) fn [] (encs ks x) [] K = run x K) : FcOk Tryz.prog f (FC.rn ks run) :=
  rn_ok hL hf ho [] (.none hl) hn fun x K o hk => by rw [h]; exact hk
end
end Go.SX

/- Plain laws of floats: how two of them stand to each other, by their bits. No statement of the seat is proved here. -/
namespace Go.SX
open Ieee

/-- How great a rung is, in units of the least number. -/
def mg (r : Nat) : Nat := if r < 4503599627370496 then r else (4503599627370496 + r % 4503599627370496) * 2 ^ (r / 4503599627370496 - 1)

theorem mg_lo {r : Nat} (h : r < 4503599627370496) : mg r = r := by simp [mg, h]
theorem mg_hi {r : Nat} (h : 4503599627370496 ≤ r) : mg r = (4503599627370496 + r % 4503599627370496) * 2 ^ (r / 4503599627370496 - 1) := by simp [mg, Nat.not_lt.2 h]

theorem mg_succ (r : Nat) : mg r < mg (r + 1) := by
  by_cases h : r + 1 < 4503599627370496
  · rw [mg_lo h, mg_lo (by omega)]; omega
  · by_cases h' : r < 4503599627370496
    · have : r = 4503599627370495 := by omega
      subst this
      decide
    · rw [mg_hi (by omega), mg_hi (by omega)]
      by_cases hc : (r + 1) % 4503599627370496 = 0
      · have e1 : r % 4503599627370496 = 4503599627370495 := by omega
        have e2 : (r + 1) / 4503599627370496 - 1 = (r / 4503599627370496 - 1) + 1 := by omega
        rw [hc, e1, e2, Nat.pow_succ]
        have : 0 < 2 ^ (r / 4503599627370496 - 1) := Nat.two_pow_pos _
        generalize 2 ^ (r / 4503599627370496 - 1) = p at *
        omega
      · have e1 : (r + 1) % 4503599627370496 = r % 4503599627370496 + 1 := by omega
        have e2 : (r + 1) / 4503599627370496 = r / 4503599627370496 := by omega
        rw [e1, e2]
        exact Nat.mul_lt_mul_of_pos_right (by omega) (Nat.two_pow_pos _)

theorem mg_lt {r s : Nat} (h : r < s) : mg r < mg s := by
  obtain ⟨d, rfl⟩ : ∃ d, s = r + 1 + d := ⟨s - r - 1, by omega⟩
  clear h
  induction d with
  | zero => exact mg_succ r
  | succ d ih => exact Nat.lt_trans ih (mg_succ _)
theorem mg_inj {r s : Nat} (h : mg r = mg s) : r = s := by
  rcases Nat.lt_trichotomy r s with g | g | g
  · have := mg_lt g; omega
  · exact g
  · have := mg_lt g; omega

def neg? (x : Nat) : Bool := x / 9223372036854775808 % 2 == 1
def rung (x : Nat) : Nat := x % 9223372036854775808
def sg (b : Bool) (n : Nat) : Int := if b then -(n : Int) else n
def val (x : Nat) : Int := sg (neg? x) (mg (rung x))

theorem read_eq (x : Nat) : FloatKind.f64.format.read x =
    if rung x < 4503599627370496 then .number (neg? x) (rung x) (-1074)
    else if rung x < 9218868437227405312 then .number (neg? x) (4503599627370496 + rung x % 4503599627370496) (-1074 + (rung x / 4503599627370496 - 1 : Nat))
    else if rung x = 9218868437227405312 then .infinity (neg? x) else .nan (neg? x) (rung x - 9218868437227405312) := by
  have h1 : FloatKind.f64.format.signWeight = 9223372036854775808 := by decide
  have h2 : FloatKind.f64.format.binade = 4503599627370496 := by decide
  have h3 : FloatKind.f64.format.infRung = 9218868437227405312 := by decide
  have h4 : FloatKind.f64.format.leastPlace = -1074 := by decide
  unfold Format.read
  simp only [h1, h2, h3, h4]
  rfl

theorem isNan_rung (x : Nat) : isNan x = decide (9218868437227405312 < rung x) := isNan_eq x

theorem signed_sg (b : Bool) (m k : Nat) : signed b m k = sg b (m * 2 ^ k) := by
  unfold signed sg
  rw [Nat.shiftLeft_eq]

theorem sg_mul (b : Bool) (m p : Nat) : sg b (m * p) = sg b m * (p : Int) := by
  unfold sg
  split <;> simp [Int.neg_mul]

theorem compare_mul (a b : Int) (p : Nat) (hp : 0 < p) : compare (a * (p : Int)) (b * (p : Int)) = compare a b := by
  have hp : (0 : Int) < (p : Int) := by exact_mod_cast hp
  show compareOfLessAndEq _ _ = compareOfLessAndEq _ _
  unfold compareOfLessAndEq
  have h1 : a * (p : Int) < b * (p : Int) ↔ a < b := ⟨fun h => Int.lt_of_mul_lt_mul_right h (Int.le_of_lt hp), fun h => Int.mul_lt_mul_of_pos_right h hp⟩
  have h2 : a * (p : Int) = b * (p : Int) ↔ a = b := ⟨fun h => Int.eq_of_mul_eq_mul_right (Int.ne_of_gt hp) h, fun h => by rw [h]⟩
  simp only [h1, h2]

/-- A finite rung's number. -/
theorem read_fin {x : Nat} (h : rung x < 9218868437227405312) : ∃ m k : Nat, FloatKind.f64.format.read x = .number (neg? x) m (-1074 + (k : Int)) ∧ mg (rung x) = m * 2 ^ k := by
  rw [read_eq]
  by_cases h1 : rung x < 4503599627370496
  · rw [if_pos h1]
    exact ⟨rung x, 0, by simp, by rw [mg_lo h1]; simp⟩
  · rw [if_neg h1, if_pos h]
    exact ⟨_, _, rfl, by rw [mg_hi (by omega)]⟩

theorem val_inf {x : Nat} (h : rung x < 9218868437227405312) : sg (neg? x) (mg (rung x)) < (mg 9218868437227405312 : Int) ∧ -(mg 9218868437227405312 : Int) < sg (neg? x) (mg (rung x)) := by
  have := mg_lt h
  unfold sg
  split <;> omega

theorem order_val {x y : Nat} (hx : isNan x = false) (hy : isNan y = false) : FloatKind.f64.format.order x y = some (compare (val x) (val y)) := by
  rw [isNan_rung, decide_eq_false_iff_not] at hx hy
  unfold Format.order val
  by_cases h1 : rung x < 9218868437227405312
  · obtain ⟨m, k, e1, e2⟩ := read_fin h1
    by_cases h2 : rung y < 9218868437227405312
    · obtain ⟨n, l, f1, f2⟩ := read_fin h2
      rw [e1, f1, e2, f2]
      simp only [Datum.order, Option.some.injEq]
      rw [signed_sg, signed_sg]
      rcases Nat.le_total k l with h | h
      · have g1 : (-1074 + (k : Int) - min (-1074 + (k : Int)) (-1074 + (l : Int))).toNat = 0 := by omega
        have g2 : (-1074 + (l : Int) - min (-1074 + (k : Int)) (-1074 + (l : Int))).toNat = l - k := by omega
        rw [g1, g2, ← compare_mul _ _ (2 ^ k) (Nat.two_pow_pos _), ← sg_mul, ← sg_mul, Nat.pow_zero, Nat.mul_one, Nat.mul_assoc, ← Nat.pow_add, Nat.sub_add_cancel h]
      · have g1 : (-1074 + (k : Int) - min (-1074 + (k : Int)) (-1074 + (l : Int))).toNat = k - l := by omega
        have g2 : (-1074 + (l : Int) - min (-1074 + (k : Int)) (-1074 + (l : Int))).toNat = 0 := by omega
        rw [g1, g2, ← compare_mul _ _ (2 ^ l) (Nat.two_pow_pos _), ← sg_mul, ← sg_mul, Nat.pow_zero, Nat.mul_one, Nat.mul_assoc, ← Nat.pow_add, Nat.sub_add_cancel h]
    · have h2' : rung y = 9218868437227405312 := by omega
      have f1 : FloatKind.f64.format.read y = .infinity (neg? y) := by rw [read_eq, if_neg (by omega), if_neg h2, if_pos h2']
      rw [e1, f1]
      have := val_inf h1
      rw [h2']
      simp only [Datum.order, Option.some.injEq]
      generalize sg (neg? x) (mg (rung x)) = v at *
      cases neg? y
      · simp only [Bool.false_eq_true, if_false, sg]
        symm
        exact compareOfLessAndEq_eq_lt.2 this.1
      · simp only [if_true, sg]
        symm
        show compareOfLessAndEq _ _ = _
        unfold compareOfLessAndEq
        rw [if_neg (by omega), if_neg (by omega)]
  · have h1' : rung x = 9218868437227405312 := by omega
    have e1 : FloatKind.f64.format.read x = .infinity (neg? x) := by rw [read_eq, if_neg (by omega), if_neg h1, if_pos h1']
    by_cases h2 : rung y < 9218868437227405312
    · obtain ⟨n, l, f1, f2⟩ := read_fin h2
      rw [e1, f1]
      have := val_inf h2
      rw [h1']
      simp only [Datum.order, Option.some.injEq]
      generalize sg (neg? y) (mg (rung y)) = v at *
      cases neg? x
      · simp only [Bool.false_eq_true, if_false, sg]
        symm
        show compareOfLessAndEq _ _ = _
        unfold compareOfLessAndEq
        rw [if_neg (by omega), if_neg (by omega)]
      · simp only [if_true, sg]
        symm
        show compareOfLessAndEq _ _ = _
        unfold compareOfLessAndEq
        rw [if_pos (by omega)]
    · have h2' : rung y = 9218868437227405312 := by omega
      have f1 : FloatKind.f64.format.read y = .infinity (neg? y) := by rw [read_eq, if_neg (by omega), if_neg h2, if_pos h2']
      rw [e1, f1, h1', h2']
      have : 0 < mg 9218868437227405312 := by have := mg_lt (show 0 < 9218868437227405312 by decide); omega
      simp only [Datum.order, Option.some.injEq]
      generalize mg 9218868437227405312 = v at *
      symm
      show compareOfLessAndEq _ _ = _
      unfold compareOfLessAndEq
      cases neg? x <;> cases neg? y <;> simp only [sg, if_true, if_false, Bool.false_eq_true]
      · rw [if_neg (by omega)]; rfl
      · rw [if_neg (by omega), if_neg (by omega)]; rfl
      · rw [if_pos (by omega)]; rfl
      · rw [if_neg (by omega)]; rfl

theorem order_nan {x y : Nat} (h : isNan x = true ∨ isNan y = true) : FloatKind.f64.format.order x y = none := by
  unfold Format.order
  rcases h with h | h
  · exact order_nan_l _ h
  · exact order_nan_r _ h

theorem cmp_lt (a b : Int) : ((some (compare a b) : Option Ordering) == some .lt) = decide (a < b) := by
  show ((some (compareOfLessAndEq a b) : Option Ordering) == some .lt) = _
  unfold compareOfLessAndEq
  by_cases h : a < b
  · simp [h]
  · by_cases g : a = b
    · simp [g]
    · simp [h, g]
theorem cmp_eq (a b : Int) : ((some (compare a b) : Option Ordering) == some .eq) = decide (a = b) := by
  show ((some (compareOfLessAndEq a b) : Option Ordering) == some .eq) = _
  unfold compareOfLessAndEq
  by_cases h : a < b
  · have : a ≠ b := by omega
    simp [h, this]
  · by_cases g : a = b
    · simp [g]
    · simp [h, g]

theorem flt_val {x y : Nat} (hx : isNan x = false) (hy : isNan y = false) : flt x y = decide (val x < val y) := by unfold flt; rw [order_val hx hy, cmp_lt]
theorem feq_val {x y : Nat} (hx : isNan x = false) (hy : isNan y = false) : feq x y = decide (val x = val y) := by unfold feq; rw [order_val hx hy, cmp_eq]
theorem fle_val {x y : Nat} (hx : isNan x = false) (hy : isNan y = false) : fle x y = decide (val x ≤ val y) := by
  unfold fle; rw [order_val hx hy, cmp_lt, cmp_eq]
  by_cases h : val x < val y
  · have : val x ≤ val y := by omega
    simp [h, this]
  · by_cases g : val x = val y
    · simp [g]
    · have : ¬ val x ≤ val y := by omega
      simp [h, g, this]
theorem flt_nan {x y : Nat} (h : isNan x = true ∨ isNan y = true) : flt x y = false := by unfold flt; rw [order_nan h]; rfl
theorem feq_nan {x y : Nat} (h : isNan x = true ∨ isNan y = true) : feq x y = false := by unfold feq; rw [order_nan h]; rfl
theorem fle_nan {x y : Nat} (h : isNan x = true ∨ isNan y = true) : fle x y = false := by unfold fle; rw [order_nan h]; rfl
theorem feq_self (x : Nat) : feq x x = !isNan x := by
  cases h : isNan x with
  | true => rw [feq_nan (.inl h)]; rfl
  | false => rw [feq_val h h]; simp
end Go.SX
namespace Go.SX
/-! ### places -/
def place (x : Nat) : Int := if x / 9223372036854775808 = 1 then -((x % 9223372036854775808 : Nat) : Int) - 1 else ((x % 9223372036854775808 : Nat) : Int)
def worth (x : Nat) : Int := if place x = -1 then 0 else place x

theorem val_pos {x : Nat} (h : x < 9223372036854775808) : val x = mg x ∧ place x = x := by
  have e1 : neg? x = false := by unfold neg?; rw [Nat.div_eq_of_lt h]; rfl
  have e2 : rung x = x := Nat.mod_eq_of_lt h
  refine ⟨by unfold val; rw [e1, e2]; rfl, ?_⟩
  unfold place
  rw [Nat.div_eq_of_lt h, if_neg (by decide), Nat.mod_eq_of_lt h]
theorem val_neg {r : Nat} (h : r < 9223372036854775808) : val (9223372036854775808 + r) = -(mg r : Int) ∧ place (9223372036854775808 + r) = -(r : Int) - 1 := by
  have e0 : (9223372036854775808 + r) / 9223372036854775808 = 1 := by omega
  have e2 : (9223372036854775808 + r) % 9223372036854775808 = r := by omega
  have e1 : neg? (9223372036854775808 + r) = true := by unfold neg?; rw [e0]; rfl
  refine ⟨by unfold val rung; rw [e1, e2]; rfl, ?_⟩
  unfold place
  rw [e0, if_pos rfl, e2]

theorem two_kinds {x : Nat} (h : x < 18446744073709551616) : x < 9223372036854775808 ∨ ∃ r, r < 9223372036854775808 ∧ x = 9223372036854775808 + r := by
  by_cases g : x < 9223372036854775808
  · exact .inl g
  · exact .inr ⟨x - 9223372036854775808, by omega, by omega⟩

theorem mg_zero {r : Nat} : mg r = 0 ↔ r = 0 := ⟨fun h => mg_inj (h.trans (by decide)), fun h => by rw [h]; decide⟩
theorem mg_lt_iff {r s : Nat} : mg r < mg s ↔ r < s := ⟨fun h => by
  rcases Nat.lt_or_ge r s with g | g
  · exact g
  · rcases Nat.lt_or_ge s r with g' | g'
    · have := mg_lt g'; omega
    · have : r = s := by omega
      subst this; omega, mg_lt⟩

theorem worth_lt {x y : Nat} (hx : x < 18446744073709551616) (hy : y < 18446744073709551616) : worth x < worth y ↔ val x < val y := by
  unfold worth
  rcases two_kinds hx with h | ⟨r, h, rfl⟩
  · obtain ⟨v1, p1⟩ := val_pos h
    rcases two_kinds hy with g | ⟨s, g, rfl⟩
    · obtain ⟨v2, p2⟩ := val_pos g
      rw [v1, v2, p1, p2, if_neg (by omega), if_neg (by omega)]
      have := mg_lt_iff (r := x) (s := y)
      omega
    · obtain ⟨v2, p2⟩ := val_neg g
      rw [v1, v2, p1, p2, if_neg (by omega)]
      split <;> omega
  · obtain ⟨v1, p1⟩ := val_neg h
    rcases two_kinds hy with g | ⟨s, g, rfl⟩
    · obtain ⟨v2, p2⟩ := val_pos g
      rw [v1, v2, p1, p2, if_neg (show ¬ (y : Int) = -1 by omega)]
      have a1 := mg_zero (r := r)
      have a2 := mg_zero (r := y)
      split
      · have : r = 0 := by omega
        subst this
        have : mg 0 = 0 := by decide
        omega
      · have : 0 < mg r := by omega
        omega
    · obtain ⟨v2, p2⟩ := val_neg g
      rw [v1, v2, p1, p2]
      have a1 := mg_zero (r := r)
      have a2 := mg_zero (r := s)
      have a3 := mg_lt_iff (r := s) (s := r)
      split <;> split <;> omega

/-- The refs' 'above'. -/
theorem above_eq {a b : Nat} (ha : a < 18446744073709551616) (hb : b < 18446744073709551616) : ((!isNan a && !isNan b) && decide (worth a > worth b)) = flt b a := by
  cases h : isNan a with
  | true => rw [flt_nan (.inr h)]; rfl
  | false => cases g : isNan b with
    | true => rw [flt_nan (.inl g)]; rfl
    | false =>
      rw [flt_val g h]
      simp only [Bool.not_false, Bool.and_self, Bool.true_and, gt_iff_lt, worth_lt hb ha]
end Go.SX

/- What the functions of the program and of the references come to, as plain functions of numbers. No statement of the seat is proved here. -/
namespace Go.SX

/-! ### floats -/
def fabs (x : Nat) : Nat := x % 9223372036854775808
def ffin (x : Nat) : Bool := feq (fsub x x) 0
def fwithin (a m : Nat) : Bool := fle (fneg m) a && fle a m
def fawithin (a m : Nat) : Bool := fle (fabs a) m
/-- A float's bits, of all NaNs the same. -/
def fbits (x : Nat) : Int := cond (isNan x) 9221120237041090561 (x : Int)
def fis (x y : Nat) : Bool := fbits x == fbits y
def fminus (x : Nat) : Bool := flt (fdiv 4607182418800017408 x) 0
def fmost (a b : Nat) : Nat := cond ((isNan a || flt a b) || ((feq a 0 && feq b 0) && fminus a)) b a
def fmost1 (a b : Nat) : Nat := cond (isNan a) b (cond (isNan b || decide (place a ≥ place b)) a b)
def fclamp (a low high : Nat) : Nat := cond (!flt low a) low (cond (flt high a) high a)
/-- The refs' way to hold two floats against each other. -/
def fsame (a b : Nat) : Bool := cond (isNan a || isNan b) (isNan a && isNan b) ((a : Int) == (b : Int))

/-! ### vectors -/
def vdot (a b : GVec) : Nat := fadd (fmul a.X b.X) (fmul a.Y b.Y)
def vsq (a : GVec) : Nat := vdot a a
def vcross (a b : GVec) : Nat := fsub (fmul a.X b.Y) (fmul a.Y b.X)
def vadd (a b : GVec) : GVec := ⟨fadd a.X b.X, fadd a.Y b.Y⟩
def vsub (a b : GVec) : GVec := ⟨fsub a.X b.X, fsub a.Y b.Y⟩
def vscale (a : GVec) (s : Nat) : GVec := ⟨fmul a.X s, fmul a.Y s⟩
def vmore (a : GVec) (s : Nat) (b : GVec) : GVec := ⟨fadd a.X (fmul s b.X), fadd a.Y (fmul s b.Y)⟩
def vfin (a : GVec) : Bool := ffin a.X && ffin a.Y
def vwithin (a : GVec) (m : Nat) : Bool := fwithin a.X m && fwithin a.Y m
def vawithin (a : GVec) (m : Nat) : Bool := fawithin a.X m && fawithin a.Y m
def vsame (a b : GVec) : Bool := fis a.X b.X && fis a.Y b.Y
def vlen (a : GVec) : Nat := (FloatKind.f64.format.sqrt (vsq a)).getD qnan
end Go.SX
namespace Go.SX
/-! ### rows -/
def rfits (r : GRow) : Bool := ((((((((decide (r.A ≥ 0) && decide (r.B ≥ 0)) && (r.A != r.B)) && vfin r.WayA) && vfin r.WayB) && [r.TurnA, r.TurnB, r.Bias, r.Push, r.Ratio].all ffin) && fle 0 r.Ratio) && fle r.Low r.High) && decide (r.Of ≥ -1))
def srests (s : GStill) : Bool := (([s.Mass, s.Inertia].all ffin && fle 0 s.Mass) && fle 0 s.Inertia)
def rok (r : GRow) (a b : GStill) : Bool := (rfits r && srests a) && srests b
def rspeed (r : GRow) (a b : GStill) : Nat := fadd (fadd (fadd (vdot r.WayA a.Speed) (fmul r.TurnA a.Spin)) (vdot r.WayB b.Speed)) (fmul r.TurnB b.Spin)
def rweight (r : GRow) (a b : GStill) : Nat := fadd (fadd (fadd (fmul a.Mass (vsq r.WayA)) (fmul a.Inertia (fmul r.TurnA r.TurnA))) (fmul b.Mass (vsq r.WayB))) (fmul b.Inertia (fmul r.TurnB r.TurnB))
def spush (s : GStill) (way : GVec) (turn p : Nat) : GStill := ⟨s.Mass, s.Inertia, bif !feq s.Mass 0 then vmore s.Speed (fmul s.Mass p) way else s.Speed, bif !feq s.Inertia 0 then fadd s.Spin (fmul s.Inertia (fmul p turn)) else s.Spin⟩
end Go.SX
namespace Go.SX
def row0 : GRow := ⟨0, 0, ⟨0, 0⟩, ⟨0, 0⟩, 0, 0, 0, 0, 0, 0, 0, 0⟩
def still0 : GStill := ⟨0, 0, ⟨0, 0⟩, 0⟩
/-- The error of a row and two stills. -/
def rerr (r : GRow) (a b : GStill) : Int := bif rok r a b then 0 else 200
def rlack (r : GRow) (a b : GStill) : Nat := fsub r.Bias (rspeed r a b)
def rq (r : GRow) (a b : GStill) : Nat := fclamp (fadd r.Push (fdiv (rlack r a b) (rweight r a b))) r.Low r.High
/-- Does a row's turn change anything? -/
def rgo (r : GRow) (a b : GStill) : Bool := (flt 0 (rweight r a b) && (ffin (rweight r a b) && ffin (rlack r a b))) && (ffin (rq r a b) && ffin (fsub (rq r a b) r.Push))
def rone (r : GRow) (a b : GStill) : GRow := bif rok r a b then (bif rgo r a b then { r with Push := rq r a b } else r) else row0
def roneA (r : GRow) (a b : GStill) : GStill := bif rok r a b then (bif rgo r a b then spush a r.WayA r.TurnA (fsub (rq r a b) r.Push) else a) else still0
def roneB (r : GRow) (a b : GStill) : GStill := bif rok r a b then (bif rgo r a b then spush b r.WayB r.TurnB (fsub (rq r a b) r.Push) else b) else still0
def rwarmA (r : GRow) (a b : GStill) : GStill := bif rok r a b then spush a r.WayA r.TurnA r.Push else still0
def rwarmB (r : GRow) (a b : GStill) : GStill := bif rok r a b then spush b r.WayB r.TurnB r.Push else still0
def rcheck (r : GRow) (rows bodies : Int) : Int := bif (rfits r && !(decide (r.A ≥ bodies) || decide (r.B ≥ bodies))) && !decide (r.Of ≥ rows) then 0 else 200
def rspeed1 (r : GRow) (a b : GStill) : Nat := bif rok r a b then rspeed r a b else 0
def rweight1 (r : GRow) (a b : GStill) : Nat := bif rok r a b then rweight r a b else 0
end Go.SX
namespace Go.SX
/-! ### lists held against each other -/
def lsame {α : Type} (same : α → α → Bool) (xs ys : List α) : Bool := (xs.length == ys.length) && (List.zipWith same xs ys).all id
def rsame (a b : GRow) : Bool := (((((((vsame a.WayA b.WayA && vsame a.WayB b.WayB) && (fis a.TurnA b.TurnA && fis a.TurnB b.TurnB)) && ((fis a.Bias b.Bias && fis a.Low b.Low) && fis a.High b.High)) && fis a.Push b.Push) && fis a.Ratio b.Ratio) && (a.A == b.A)) && (a.B == b.B)) && (a.Of == b.Of)
def psame (p q : GPoint) : Bool := (((vsame p.At q.At && (p.ID == q.ID)) && fis p.Depth q.Depth) && fis p.Push q.Push) && fis p.Drag q.Drag
def pairEq (p q : GPair) : Bool := (p.A == q.A) && ((p.PartA == q.PartA) && ((p.B == q.B) && ((p.PartB == q.PartB) && true)))
def tsame (a b : GTouch) : Bool := ((vsame a.Normal b.Normal && lsame psame a.Points b.Points) && pairEq a.Pair b.Pair) && (a.Sensor == b.Sensor)
/-! ### touches -/
def partOk (n : Int) : Bool := decide (n ≥ 0) && decide (n < 8)
def pairOk (p : GPair) : Bool := ((((decide (p.A ≥ 0) && decide (p.B ≥ 0)) && (p.A != p.B))) && partOk p.PartA) && partOk p.PartB
def vunit (a : GVec) : Bool := fle 4607182418800009216 (vsq a) && fle (vsq a) 4607182418800021504
def point0 : GPoint := ⟨⟨0, 0⟩, 0, 0, 0, 0⟩
def touch0 : GTouch := ⟨⟨0, 0, 0, 0⟩, false, ⟨0, 0⟩, []⟩
/-- May a touch be, but for its points? -/
def headOk (t : GTouch) : Bool := (((pairOk t.Pair && vunit t.Normal) && vwithin t.Normal 4611686018427387904) && decide (0 < t.Points.length)) && decide (t.Points.length ≤ 8)
/-- May a point be, by itself? -/
def pointOk (p : GPoint) : Bool := (((vwithin p.At 4796333603149578240 && fwithin p.Depth 4796333603149578240) && !flt p.Depth 0) && fwithin p.Push 4787326403894837248) && fwithin p.Drag 4787326403894837248
/-- Is a point's number one of an earlier one's? -/
def twiceAt (l : List GPoint) (i : Nat) : Bool := (l.take i).any fun q => q.ID == (l.getD i point0).ID
def badAt (l : List GPoint) (i : Nat) : Bool := !pointOk (l.getD i point0) || twiceAt l i
def tcheck (t : GTouch) : Int := bif headOk t && !(List.range t.Points.length).any (badAt t.Points) then 0 else 2
def freal (a : Nat) : Nat := bif fwithin a 4787326403894837248 then a else 0
end Go.SX

/- Contracts: floats and vectors, of the program and of the references. No statement of the seat is proved here. -/
namespace Go.SX
open Go.Proofs
set_option maxRecDepth 20000

/-! ### floats stay in their range -/
def AK.wf : (k : AK) → k.den → Prop
  | .s .f64, x => (show Nat from x) < 18446744073709551616
  | .l c, x => (show List (TD c) from x).length < 9223372036854775808
  | .s .touch, x => (show GTouch from x).Points.length < 9223372036854775808
  | .s .shape, x => (show GShape from x).Points.length < 9223372036854775808
  | _, _ => True
def wfs : (ks : List AK) → dens ks → Prop
  | [], _ => True
  | k :: r, (x, y) => k.wf x ∧ wfs r y

theorem rslice_lt {φ : Phi} {St : Stb} {v : Value} {c : TC} {xs : List (TD c)} (h : RVal φ St v (.rslice c xs : RV G)) : xs.length < 9223372036854775808 := by
  cases h with
  | rslice hn _ hc => omega
  | rslice0 => simp

theorem AK.wf_rel {k : AK} {x : k.den} {φ : Phi} {St : Stb} {v : Value} (h : RVal φ St v (k.enc x)) : k.wf x := by
  unfold AK.wf
  split
  · exact RVal.flt_lt (S := G) h
  · exact rslice_lt h
  · cases h with
    | agg hn g => exact rslice_lt (c := .point) (g 7 _ _ (Array.getElem?_eq_getElem (by rw [hn]; exact Nat.lt_of_sub_eq_succ rfl)) rfl)
  · cases h with
    | agg hn g => exact rslice_lt (c := .vec) (g 2 _ _ (Array.getElem?_eq_getElem (by rw [hn]; exact Nat.lt_of_sub_eq_succ rfl)) rfl)
  · trivial

theorem wfs_rel : ∀ {ks : List AK} {x : dens ks} {φ : Phi} {St : Stb} {vs : List Value}, vs.length = ks.length → (∀ (j : Nat) (u : Value) (r : RV G), vs[j]? = some u → (encs ks x)[j]? = some r → RVal φ St u r) → wfs ks x
  | [], _, _, _, _, _, _ => trivial
  | k :: r, (x, y), _, _, [], hl, _ => by simp at hl
  | k :: r, (x, y), _, _, v :: vs, hl, h => ⟨AK.wf_rel (h 0 v _ rfl rfl), wfs_rel (vs := vs) (by simpa using hl) fun j u q hu hq => h (j + 1) u q (by simpa using hu) (by simpa [encs] using hq)⟩

open Classical in
/-- A contract of what always answers, where floats are in their range. -/
theorem sp_wf {L : Ctr} (hL : AllOk L) {f : Nat} {fn : Func} (hf : Tryz.prog.funcs[f]? = some fn) (ho : fnOK fn = true) (lp : List (Nat × LC G)) (hlp : LpsOk (EV L lp) [] (bodyD fn)) {ks : List AK} {res : dens ks → RV G}
    (hn : Nat.ble ks.length fn.ntmps = true) (h : ∀ (x : dens ks), wfs ks x → ∀ K, xfn (EV L lp) fn [] (encs ks x) [] K = K (res x) [] []) : FcOk Tryz.prog f (FC.sp ks res) where
  pure vs r hr K := by
    simp only [FC.sp, FC.ofPure] at hr ⊢
    split at hr
    · rename_i x hx
      cases hr
      rfl
    · cases hr
  run vs bs K o hr := by
    simp only [FC.sp, FC.ofPure] at hr
    split at hr
    · rename_i r hr'
      split at hr'
      · rename_i x hx
        cases hr'
        by_cases hw : wfs ks x
        · have h1 : FcOk Tryz.prog f (FC.rn ks fun x K => bif decide (wfs ks x) then K (res x) [] [] else none) := rn_ok hL hf ho lp hlp hn fun x K o hk => by
            by_cases hx : wfs ks x
            · rw [h x hx]; simpa [hx] using hk
            · simp [hx] at hk
          refine h1.run vs bs K o ?_
          simp only [FC.rn, FC.ofRun, hx]
          simpa [hw] using hr
        · refine ⟨_, _, _, hr, fun cx w us ids hids hl ha hal hi => absurd ?_ hw⟩
          obtain ⟨g1, g2⟩ := decs'_rel hx ha
          exact wfs_rel (vs := us.toList) (by rw [Array.length_toList, g1, encs_len]) fun j u r hu hr => g2 j u r (by simpa using hu) hr
      · cases hr'
    · cases hr

theorem sp0w {L : Ctr} (hL : AllOk L) {f : Nat} {fn : Func} (hf : Tryz.prog.funcs[f]? = some fn) (ho : fnOK fn = true) (hl : loops (bodyD fn) = []) {ks : List AK} {res : dens ks → RV G} (hn : Nat.ble ks.length fn.ntmps = true)
    (h : ∀ (x : dens ks), wfs ks x → ∀ K, xfn (EV L []) fn [] (encs ks x) [] K = K (res x) [] []) : FcOk Tryz.prog f (FC.sp ks res) := sp_wf hL hf ho [] (.none hl) hn h

/-! ### functions without a body -/
theorem ok173 : FcOk Tryz.prog 173 (fcBits : FC G) := bits_ok Tryz.func173 (by kernel_rfl) (by kernel_rfl) (by kernel_rfl) (by kernel_rfl)
theorem ok89 : FcOk Tryz.prog 89 (fcFrom : FC G) := from_ok Tryz.func89 (by kernel_rfl) (by kernel_rfl) (by kernel_rfl) (by kernel_rfl)
theorem ok214 : FcOk Tryz.prog 214 (fcSqrt : FC G) := sqrt_ok Tryz.func214 (by kernel_rfl) (by kernel_rfl) (by kernel_rfl) (by kernel_rfl)

/-! ### math.Abs, None: any bits of a NaN -/
theorem bits_run (y : Nat) (w : World) : (callFunc 173 #[.float .f64 y]).run Tryz.prog w = .ok (.value (.int .u64 y)) w := by
  rw [run_callFunc_extern Tryz.func173 (by kernel_rfl) (by kernel_rfl) (e := Extern.MathFloatBits.float64bits) (by kernel_rfl) (by kernel_rfl)]
  rfl
theorem from_run (n : Int) (w : World) : (callFunc 89 #[.int .u64 n]).run Tryz.prog w = .ok (.value (.float .f64 n.toNat)) w := by
  rw [run_callFunc_extern Tryz.func89 (by kernel_rfl) (by kernel_rfl) (e := Extern.MathFloatBits.float64frombits) (by kernel_rfl) (by kernel_rfl)]
  rfl
section
attribute [local go_sem] bits_run from_run
theorem abs_walk (y : Nat) (w : World) : Calls Tryz.prog 92 #[.float .f64 y] w fun e w' => e = .returned (.float .f64 (bits .andNot .u64 (y : Int) 9223372036854775808).toNat) ∧ w' = w := by
  go_enter Tryz.func92, Tryz.ntmps92
  go_wp2
  go_ret
  exact ⟨rfl, rfl⟩
end

theorem andNot_top (y : Nat) : (bits .andNot .u64 (y : Int) 9223372036854775808).toNat = y % 9223372036854775808 := by
  have h : (BitVec.ofInt 64 (y : Int) &&& ~~~(BitVec.ofInt 64 9223372036854775808)).toNat = y % 9223372036854775808 := by
    have e1 : (BitVec.ofInt 64 (y : Int)) = BitVec.ofNat 64 y := by simp
    have e2 : ~~~(BitVec.ofInt 64 9223372036854775808) = BitVec.ofNat 64 (2 ^ 63 - 1) := by decide
    rw [e1, e2, BitVec.toNat_and, BitVec.toNat_ofNat, BitVec.toNat_ofNat]
    have e3 : (2 ^ 63 - 1) % 2 ^ 64 = 2 ^ 63 - 1 := by decide
    rw [e3, Nat.and_two_pow_sub_one_eq_mod]
    omega
  show (IntKind.u64.wrap ((BitVec.ofInt 64 (y : Int) &&& ~~~(BitVec.ofInt 64 9223372036854775808)).toNat : Int)).toNat = _
  rw [h]
  have : y % 9223372036854775808 < 9223372036854775808 := Nat.mod_lt _ (by decide)
  generalize y % 9223372036854775808 = z at *
  simp only [IntKind.wrap_u64]
  omega

theorem calls_to {f : Nat} {fn : Func} {vs : Array Value} {w : World} {R : Value → World → Prop} (hf : Tryz.prog.funcs[f]? = some fn) (ho : fnOK fn = true) (h : Calls Tryz.prog f vs w fun e w' => ∃ v, e = .returned v ∧ R v w') : CallsTo Tryz.prog f vs w R := by
  obtain ⟨o1, o2, o3⟩ := fnOK_spec ho
  have hcall : (callFunc f vs).run Tryz.prog w = .ok (.enter f vs) w := by
    have hn : ¬ (fn.name = "runtime.NumGoroutine") := by simpa using o1
    simp [callFunc, program, Sem.run, hf, hn, o2]
  unfold CallsTo
  rw [hcall]
  exact h.mono fun e w' ⟨v, hv, hr⟩ => by subst hv; exact hr

theorem one_ok {f : Nat} (g : Nat → RV G) (h : ∀ (y x : Nat) (w : World), FEq y x → x < 18446744073709551616 → CallsTo Tryz.prog f #[.float .f64 y] w fun v w' => w' = w ∧ ∀ φ St, RVal φ St v (g x)) :
    FcOk Tryz.prog f (FC.sp [.s .f64] fun (x, _) => g x) where
  pure vs r hr K := by
    simp only [FC.sp, FC.ofPure] at hr ⊢
    split at hr
    · cases hr; rfl
    · cases hr
  run vs bs K o hr := by
    simp only [FC.sp, FC.ofPure] at hr
    split at hr
    · rename_i r hr'
      split at hr'
      · rename_i x hx
        cases hr'
        refine ⟨_, _, _, hr, fun cx w us ids hids hl ha hal hi => ?_⟩
        have : ids = [] := by rw [hids]; simp [muIds, FC.sp, FC.ofPure, mutsOf_nil]
        subst this
        obtain ⟨u, rfl, hu⟩ := (decs'_rel hx ha).one
        obtain ⟨x, ⟨⟩⟩ := x
        have hlt : x < 18446744073709551616 := RVal.flt_lt (S := G) hu
        obtain ⟨y, rfl, hy⟩ := RVal.inv_flt (S := G) hu
        exact (h y x w hy hlt).mono fun v w' ⟨hw, hv⟩ => by subst hw; exact plain_post hi.stable (hv _ _) (Fr.refl _ _)
      · cases hr'
    · cases hr

def c92 : FC G := FC.sp [.s .f64] fun (x, _) => .flt (fabs x)
theorem ok92 : FcOk Tryz.prog 92 c92 := one_ok (fun x => .flt (fabs x)) fun y x w hy hlt => calls_to Tryz.func92 (by kernel_rfl) ((abs_walk y w).mono fun e w' ⟨he, hw⟩ => ⟨_, he, hw, fun φ St => by
  rw [andNot_top]
  refine .flt ?_ (by unfold fabs; omega)
  rcases hy with rfl | ⟨h1, h2⟩
  · exact FEq.refl _
  · refine .inr ⟨?_, ?_⟩
    · rw [isNan_eq] at h1 ⊢; simpa using h1
    · rw [isNan_eq] at h2 ⊢; unfold fabs; simpa using h2⟩)

theorem and_2047 (y : Int) (h : 0 ≤ y) : bits .and .u64 y 2047 = y % 2048 := by
  obtain ⟨n, rfl⟩ := Int.eq_ofNat_of_zero_le h
  have e : (BitVec.ofInt 64 (n : Int) &&& BitVec.ofInt 64 2047).toNat = n % 2048 := by
    have e1 : (BitVec.ofInt 64 (n : Int)) = BitVec.ofNat 64 n := by simp
    have e2 : BitVec.ofInt 64 2047 = BitVec.ofNat 64 (2 ^ 11 - 1) := by decide
    have e3 : (2 ^ 11 - 1) % 2 ^ 64 = 2 ^ 11 - 1 := by decide
    rw [e1, e2, BitVec.toNat_and, BitVec.toNat_ofNat, BitVec.toNat_ofNat, e3, Nat.and_two_pow_sub_one_eq_mod]
    omega
  show IntKind.u64.wrap ((BitVec.ofInt 64 (n : Int) &&& BitVec.ofInt 64 2047).toNat : Int) = _
  rw [e, IntKind.wrap_u64]
  omega

section
attribute [local go_sem] bits_run from_run
theorem none_walk (y : Nat) (w : World) : Calls Tryz.prog 258 #[.float .f64 y] w fun e w' => e = .returned (.bool (isNan y)) ∧ w' = w := by
  go_enter Tryz.func258, Tryz.ntmps258
  go_wp2
  · rename_i h
    rw [and_2047 _ (by omega)] at h
    go_ret
    refine ⟨?_, rfl⟩
    show Ending.returned (.bool (IntKind.u64.wrap (↑y * 4096) != 0)) = _
    rw [isNan_eq, IntKind.wrap_u64]
    congr 2
    rw [Bool.eq_iff_iff]
    simp only [bne_iff_ne, ne_eq, decide_eq_true_eq]
    omega
  · rename_i h
    rw [and_2047 _ (by omega)] at h
    go_ret
    refine ⟨?_, rfl⟩
    show Ending.returned (.bool false) = _
    rw [isNan_eq]
    congr 2
    symm
    simp only [decide_eq_false_iff_not]
    omega
end
def c258 : FC G := FC.sp [.s .f64] fun (x, _) => .bool (isNan x)
theorem ok258 : FcOk Tryz.prog 258 c258 := one_ok (fun x => .bool (isNan x)) fun y x w hy _ => calls_to Tryz.func258 (by kernel_rfl) ((none_walk y w).mono fun e w' ⟨he, hw⟩ => ⟨_, he, hw, fun φ St => by
  have : isNan y = isNan x := by
    rcases hy with rfl | ⟨h1, h2⟩
    · rfl
    · rw [h1, h2]
  rw [this]
  exact .bool _⟩)
end Go.SX

/- PRINTED BY A PROGRAM OF THIS SEAT: contracts, batch b: floats and vectors. No statement of the seat is proved here. -/
namespace Go.SX
open Go.Proofs
set_option maxRecDepth 20000
def L0 : Ctr := [(92, c92), (258, c258), (173, fcBits), (89, fcFrom), (214, fcSqrt)]
theorem L0ok : AllOk L0 := .cons ok92 (.cons ok258 (.cons ok173 (.cons ok89 (.cons ok214 .nil))))
def c215 : FC G := FC.sp [.s .f64] fun (a, _) => .bool (isNan a)
theorem ok215 : FcOk Tryz.prog 215 c215 := sp0 L0ok Tryz.func215 (by kernel_rfl) (by kernel_rfl) (by kernel_rfl) fun (a, _) K => (show xfn (EV L0 []) Tryz.f215 [] (encs [.s .f64] (a, ())) [] K = (K (.bool (!feq a a)) [] []) from by kernel_rfl).trans (show (K (.bool (!feq a a)) [] []) = K (.bool (isNan a)) [] [] from by rw [feq_self, Bool.not_not])
def L215 : Ctr := (215, c215) :: L0
theorem L215ok : AllOk L215 := .cons ok215 L0ok
def c216 : FC G := FC.sp [.s .f64] fun (a, _) => .bool (fminus a)
theorem ok216 : FcOk Tryz.prog 216 c216 := sp0 L215ok Tryz.func216 (by kernel_rfl) (by kernel_rfl) (by kernel_rfl) fun (a, _) K => by kernel_rfl
def L216 : Ctr := (216, c216) :: L215
theorem L216ok : AllOk L216 := .cons ok216 L215ok
def c167 : FC G := FC.sp [.s .f64] fun (a, _) => .bool (ffin a)
theorem ok167 : FcOk Tryz.prog 167 c167 := sp0 L216ok Tryz.func167 (by kernel_rfl) (by kernel_rfl) (by kernel_rfl) fun (a, _) K => by kernel_rfl
def L167 : Ctr := (167, c167) :: L216
theorem L167ok : AllOk L167 := .cons ok167 L216ok
def c103 : FC G := FC.sp [.s .f64] fun (a, _) => .bool (ffin a)
theorem ok103 : FcOk Tryz.prog 103 c103 := sp0 L167ok Tryz.func103 (by kernel_rfl) (by kernel_rfl) (by kernel_rfl) fun (a, _) K => by kernel_rfl
def L103 : Ctr := (103, c103) :: L167
theorem L103ok : AllOk L103 := .cons ok103 L167ok
def c62 : FC G := FC.sp [.s .f64, .s .f64] fun (a, m, _) => .bool (fwithin a m)
theorem ok62 : FcOk Tryz.prog 62 c62 := sp0 L103ok Tryz.func62 (by kernel_rfl) (by kernel_rfl) (by kernel_rfl) fun (a, m, _) K => by kernel_rfl
def L62 : Ctr := (62, c62) :: L103
theorem L62ok : AllOk L62 := .cons ok62 L103ok
def c152 : FC G := FC.sp [.s .f64] fun (a, _) => .int .u64 (fbits a)
theorem ok152 : FcOk Tryz.prog 152 c152 := sp0 L62ok Tryz.func152 (by kernel_rfl) (by kernel_rfl) (by kernel_rfl) fun (a, _) K => (show xfn (EV L62 []) Tryz.f152 [] (encs [.s .f64] (a, ())) [] K = (bif !feq a a then K (.int .u64 9221120237041090561) [] [] else bif isNan a then none else K (.int .u64 a) [] []) from by kernel_rfl).trans (show (bif !feq a a then K (.int .u64 9221120237041090561) [] [] else bif isNan a then none else K (.int .u64 a) [] []) = K (.int .u64 (fbits a)) [] [] from by rw [feq_self]; unfold fbits; cases isNan a <;> rfl)
def L152 : Ctr := (152, c152) :: L62
theorem L152ok : AllOk L152 := .cons ok152 L62ok
def c72 : FC G := FC.sp [.s .f64, .s .f64] fun (a, b, _) => .bool (fis a b)
theorem ok72 : FcOk Tryz.prog 72 c72 := sp0 L152ok Tryz.func72 (by kernel_rfl) (by kernel_rfl) (by kernel_rfl) fun (a, b, _) K => by kernel_rfl
def L72 : Ctr := (72, c72) :: L152
theorem L72ok : AllOk L72 := .cons ok72 L152ok
def c160 : FC G := FC.sp [.s .f64] fun (a, _) => .flt ((FloatKind.f64.format.sqrt a).getD qnan)
theorem ok160 : FcOk Tryz.prog 160 c160 := sp0 L72ok Tryz.func160 (by kernel_rfl) (by kernel_rfl) (by kernel_rfl) fun (a, _) K => by kernel_rfl
def L160 : Ctr := (160, c160) :: L72
theorem L160ok : AllOk L160 := .cons ok160 L72ok
def c161 : FC G := FC.sp [.s .f64, .s .f64] fun (a, b, _) => .flt (fmost a b)
theorem ok161 : FcOk Tryz.prog 161 c161 := sp0 L160ok Tryz.func161 (by kernel_rfl) (by kernel_rfl) (by kernel_rfl) fun (a, b, _) K => (show xfn (EV L160 []) Tryz.f161 [] (encs [.s .f64, .s .f64] (a, b, ())) [] K = (bif (isNan a || flt a b) || ((feq a 0 && feq b 0) && fminus a) then K (.flt b) [] [] else K (.flt a) [] []) from by kernel_rfl).trans (show (bif (isNan a || flt a b) || ((feq a 0 && feq b 0) && fminus a) then K (.flt b) [] [] else K (.flt a) [] []) = K (.flt (fmost a b)) [] [] from by unfold fmost; cases (isNan a || flt a b) || ((feq a 0 && feq b 0) && fminus a) <;> rfl)
def L161 : Ctr := (161, c161) :: L160
theorem L161ok : AllOk L161 := .cons ok161 L160ok
def c95 : FC G := FC.sp [.s .f64, .s .f64, .s .f64] fun (a, low, high, _) => .flt (fclamp a low high)
theorem ok95 : FcOk Tryz.prog 95 c95 := sp0 L161ok Tryz.func95 (by kernel_rfl) (by kernel_rfl) (by kernel_rfl) fun (a, low, high, _) K => (show xfn (EV L161 []) Tryz.f95 [] (encs [.s .f64, .s .f64, .s .f64] (a, low, high, ())) [] K = (bif !flt low a then K (.flt low) [] [] else bif flt high a then K (.flt high) [] [] else K (.flt a) [] []) from by kernel_rfl).trans (show (bif !flt low a then K (.flt low) [] [] else bif flt high a then K (.flt high) [] [] else K (.flt a) [] []) = K (.flt (fclamp a low high)) [] [] from by unfold fclamp; cases flt low a <;> cases flt high a <;> rfl)
def L95 : Ctr := (95, c95) :: L161
theorem L95ok : AllOk L95 := .cons ok95 L161ok
theorem place_bits (a : Nat) : IntKind.i64.wrap ((IntKind.u64.wrap ((a : Int) * 2)).fdiv 2) = ((a % 9223372036854775808 : Nat) : Int) := by
  rw [IntKind.wrap_u64, Int.fdiv_eq_ediv_of_nonneg _ (by omega), IntKind.wrap_i64]
  omega
theorem place_top (a : Nat) : ((a : Int).fdiv 9223372036854775808 == 1) = decide (a / 9223372036854775808 = 1) := by
  rw [Int.fdiv_eq_ediv_of_nonneg _ (by omega), Bool.eq_iff_iff]
  simp only [beq_iff_eq, decide_eq_true_eq]
  omega
theorem place_min (a : Nat) : IntKind.i64.wrap (IntKind.i64.wrap (0 - ((a % 9223372036854775808 : Nat) : Int)) - 1) = -((a % 9223372036854775808 : Nat) : Int) - 1 := by
  have : a % 9223372036854775808 < 9223372036854775808 := Nat.mod_lt _ (by decide)
  generalize a % 9223372036854775808 = n at *
  rw [IntKind.wrap_i64, IntKind.wrap_i64]
  omega
theorem place_tree (a : Nat) {α : Type} (f : Int → α) : (bif (a : Int).fdiv 9223372036854775808 == 1 then f (IntKind.i64.wrap (IntKind.i64.wrap (0 - IntKind.i64.wrap ((IntKind.u64.wrap ((a : Int) * 2)).fdiv 2)) - 1)) else f (IntKind.i64.wrap ((IntKind.u64.wrap ((a : Int) * 2)).fdiv 2))) = f (place a) := by
  rw [place_bits, place_top, place_min]
  unfold place
  by_cases h : a / 9223372036854775808 = 1 <;> simp [h]
def c269 : FC G := FC.rn [.s .f64] fun (a, _) K => bif isNan a then none else K (.int .i64 (place a)) [] []
theorem ok269 : FcOk Tryz.prog 269 c269 := rn0 L95ok Tryz.func269 (by kernel_rfl) (by kernel_rfl) (by kernel_rfl) fun (a, _) K => (show xfn (EV L95 []) Tryz.f269 [] (encs [.s .f64] (a, ())) [] K = (bif isNan a then none else bif isNan a then none else bif (a : Int).fdiv 9223372036854775808 == 1 then K (RV.int IntKind.i64 (IntKind.i64.wrap (IntKind.i64.wrap (0 - IntKind.i64.wrap ((IntKind.u64.wrap ((a : Int) * 2)).fdiv 2)) - 1))) [] [] else K (RV.int IntKind.i64 (IntKind.i64.wrap ((IntKind.u64.wrap ((a : Int) * 2)).fdiv 2))) [] []) from by kernel_rfl).trans (show (bif isNan a then none else bif isNan a then none else bif (a : Int).fdiv 9223372036854775808 == 1 then K (RV.int IntKind.i64 (IntKind.i64.wrap (IntKind.i64.wrap (0 - IntKind.i64.wrap ((IntKind.u64.wrap ((a : Int) * 2)).fdiv 2)) - 1))) [] [] else K (RV.int IntKind.i64 (IntKind.i64.wrap ((IntKind.u64.wrap ((a : Int) * 2)).fdiv 2))) [] []) = (bif isNan a then none else K (.int .i64 (place a)) [] []) from by rw [place_tree a fun n => K (RV.int IntKind.i64 n) [] []]; cases isNan a <;> rfl)
def L269 : Ctr := (269, c269) :: L95
theorem L269ok : AllOk L269 := .cons ok269 L95ok
theorem worth_tree (a : Nat) (K : RV G → List (Blk G) → List (Blk G) → Ans G) : (bif isNan a then none else bif place a == -1 then K (.int .i64 0) [] [] else K (.int .i64 (place a)) [] []) = (bif isNan a then none else K (.int .i64 (worth a)) [] []) := by
  unfold worth
  by_cases h : place a = -1
  · simp [h]
  · have h2 : (place a == -1) = false := by simpa using h
    rw [h2, if_neg h]
    rfl
def c265 : FC G := FC.rn [.s .f64] fun (a, _) K => bif isNan a then none else K (.int .i64 (worth a)) [] []
theorem ok265 : FcOk Tryz.prog 265 c265 := rn0 L269ok Tryz.func265 (by kernel_rfl) (by kernel_rfl) (by kernel_rfl) fun (a, _) K => (show xfn (EV L269 []) Tryz.f265 [] (encs [.s .f64] (a, ())) [] K = (bif isNan a then none else bif place a == -1 then K (.int .i64 0) [] [] else K (.int .i64 (place a)) [] []) from by kernel_rfl).trans (show (bif isNan a then none else bif place a == -1 then K (.int .i64 0) [] [] else K (.int .i64 (place a)) [] []) = (bif isNan a then none else K (.int .i64 (worth a)) [] []) from by exact worth_tree a K)
def L265 : Ctr := (265, c265) :: L269
theorem L265ok : AllOk L265 := .cons ok265 L269ok
def c259 : FC G := FC.sp [.s .f64, .s .f64] fun (a, b, _) => .bool (flt b a)
theorem ok259 : FcOk Tryz.prog 259 c259 := sp0w L265ok Tryz.func259 (by kernel_rfl) (by kernel_rfl) (by kernel_rfl) fun (a, b, _) ⟨ha, hb, _⟩ K => (show xfn (EV L265 []) Tryz.f259 [] (encs [.s .f64, .s .f64] (a, b, ())) [] K = (bif !isNan a && !isNan b then bif isNan a then none else bif isNan b then none else K (.bool (true && decide (worth a > worth b))) [] [] else K (.bool false) [] []) from by kernel_rfl).trans (show (bif !isNan a && !isNan b then bif isNan a then none else bif isNan b then none else K (.bool (true && decide (worth a > worth b))) [] [] else K (.bool false) [] []) = K (.bool (flt b a)) [] [] from by have h := above_eq ha hb; rw [← h]; cases isNan a <;> cases isNan b <;> simp)
def L259 : Ctr := (259, c259) :: L265
theorem L259ok : AllOk L259 := .cons ok259 L265ok
def c137 : FC G := FC.sp [.s .vec, .s .vec] fun (a, b, _) => .flt (vdot a b)
theorem ok137 : FcOk Tryz.prog 137 c137 := sp0 L259ok Tryz.func137 (by kernel_rfl) (by kernel_rfl) (by kernel_rfl) fun (a, b, _) K => by kernel_rfl
def L137 : Ctr := (137, c137) :: L259
theorem L137ok : AllOk L137 := .cons ok137 L259ok
def c151 : FC G := FC.sp [.s .vec, .s .vec] fun (a, b, _) => .flt (vdot a b)
theorem ok151 : FcOk Tryz.prog 151 c151 := sp0 L137ok Tryz.func151 (by kernel_rfl) (by kernel_rfl) (by kernel_rfl) fun (a, b, _) K => by kernel_rfl
def L151 : Ctr := (151, c151) :: L137
theorem L151ok : AllOk L151 := .cons ok151 L137ok
def c91 : FC G := FC.sp [.s .vec] fun (a, _) => .flt (vsq a)
theorem ok91 : FcOk Tryz.prog 91 c91 := sp0 L151ok Tryz.func91 (by kernel_rfl) (by kernel_rfl) (by kernel_rfl) fun (a, _) K => by kernel_rfl
def L91 : Ctr := (91, c91) :: L151
theorem L91ok : AllOk L91 := .cons ok91 L151ok
def c154 : FC G := FC.sp [.s .vec] fun (a, _) => .flt (vsq a)
theorem ok154 : FcOk Tryz.prog 154 c154 := sp0 L91ok Tryz.func154 (by kernel_rfl) (by kernel_rfl) (by kernel_rfl) fun (a, _) K => by kernel_rfl
def L154 : Ctr := (154, c154) :: L91
theorem L154ok : AllOk L154 := .cons ok154 L91ok
def c153 : FC G := FC.sp [.s .f64, .s .f64] fun (x, y, _) => encR .vec ⟨x, y⟩
theorem ok153 : FcOk Tryz.prog 153 c153 := sp0 L154ok Tryz.func153 (by kernel_rfl) (by kernel_rfl) (by kernel_rfl) fun (x, y, _) K => by kernel_rfl
def L153 : Ctr := (153, c153) :: L154
theorem L153ok : AllOk L153 := .cons ok153 L154ok
def c136 : FC G := FC.sp [.s .vec, .s .vec] fun (a, b, _) => .flt (vcross a b)
theorem ok136 : FcOk Tryz.prog 136 c136 := sp0 L153ok Tryz.func136 (by kernel_rfl) (by kernel_rfl) (by kernel_rfl) fun (a, b, _) K => by kernel_rfl
def L136 : Ctr := (136, c136) :: L153
theorem L136ok : AllOk L136 := .cons ok136 L153ok
def c145 : FC G := FC.sp [.s .vec, .s .vec] fun (a, b, _) => encR .vec (vsub a b)
theorem ok145 : FcOk Tryz.prog 145 c145 := sp0 L136ok Tryz.func145 (by kernel_rfl) (by kernel_rfl) (by kernel_rfl) fun (a, b, _) K => by kernel_rfl
def L145 : Ctr := (145, c145) :: L136
theorem L145ok : AllOk L145 := .cons ok145 L136ok
def c105 : FC G := FC.sp [.s .vec, .s .vec] fun (a, b, _) => encR .vec (vsub a b)
theorem ok105 : FcOk Tryz.prog 105 c105 := sp0 L145ok Tryz.func105 (by kernel_rfl) (by kernel_rfl) (by kernel_rfl) fun (a, b, _) K => by kernel_rfl
def L105 : Ctr := (105, c105) :: L145
theorem L105ok : AllOk L105 := .cons ok105 L145ok
def c106 : FC G := FC.sp [.s .vec, .s .vec] fun (a, b, _) => encR .vec (vadd a b)
theorem ok106 : FcOk Tryz.prog 106 c106 := sp0 L105ok Tryz.func106 (by kernel_rfl) (by kernel_rfl) (by kernel_rfl) fun (a, b, _) K => by kernel_rfl
def L106 : Ctr := (106, c106) :: L105
theorem L106ok : AllOk L106 := .cons ok106 L105ok
def c197 : FC G := FC.sp [.s .vec, .s .f64] fun (a, s, _) => encR .vec (vscale a s)
theorem ok197 : FcOk Tryz.prog 197 c197 := sp0 L106ok Tryz.func197 (by kernel_rfl) (by kernel_rfl) (by kernel_rfl) fun (a, s, _) K => by kernel_rfl
def L197 : Ctr := (197, c197) :: L106
theorem L197ok : AllOk L197 := .cons ok197 L106ok
def c213 : FC G := FC.sp [.s .vec, .s .f64, .s .vec] fun (a, s, b, _) => encR .vec (vmore a s b)
theorem ok213 : FcOk Tryz.prog 213 c213 := sp0 L197ok Tryz.func213 (by kernel_rfl) (by kernel_rfl) (by kernel_rfl) fun (a, s, b, _) K => by kernel_rfl
def L213 : Ctr := (213, c213) :: L197
theorem L213ok : AllOk L213 := .cons ok213 L197ok
def c104 : FC G := FC.sp [.s .vec] fun (a, _) => .bool (vfin a)
theorem ok104 : FcOk Tryz.prog 104 c104 := sp0 L213ok Tryz.func104 (by kernel_rfl) (by kernel_rfl) (by kernel_rfl) fun (a, _) K => by kernel_rfl
def L104 : Ctr := (104, c104) :: L213
theorem L104ok : AllOk L104 := .cons ok104 L213ok
def c42 : FC G := FC.sp [.s .vec] fun (a, _) => .bool (vfin a)
theorem ok42 : FcOk Tryz.prog 42 c42 := sp0 L104ok Tryz.func42 (by kernel_rfl) (by kernel_rfl) (by kernel_rfl) fun (a, _) K => by kernel_rfl
def L42 : Ctr := (42, c42) :: L104
theorem L42ok : AllOk L42 := .cons ok42 L104ok
def c127 : FC G := FC.sp [.s .vec, .s .f64] fun (a, m, _) => .bool (vwithin a m)
theorem ok127 : FcOk Tryz.prog 127 c127 := sp0 L42ok Tryz.func127 (by kernel_rfl) (by kernel_rfl) (by kernel_rfl) fun (a, m, _) K => by kernel_rfl
def L127 : Ctr := (127, c127) :: L42
theorem L127ok : AllOk L127 := .cons ok127 L42ok
def c207 : FC G := FC.sp [.s .vec, .s .f64] fun (a, m, _) => .bool (vawithin a m)
theorem ok207 : FcOk Tryz.prog 207 c207 := sp0 L127ok Tryz.func207 (by kernel_rfl) (by kernel_rfl) (by kernel_rfl) fun (a, m, _) K => by kernel_rfl
def L207 : Ctr := (207, c207) :: L127
theorem L207ok : AllOk L207 := .cons ok207 L127ok
def c73 : FC G := FC.sp [.s .vec, .s .vec] fun (a, b, _) => .bool (vsame a b)
theorem ok73 : FcOk Tryz.prog 73 c73 := sp0 L207ok Tryz.func73 (by kernel_rfl) (by kernel_rfl) (by kernel_rfl) fun (a, b, _) K => by kernel_rfl
def L73 : Ctr := (73, c73) :: L207
theorem L73ok : AllOk L73 := .cons ok73 L207ok
def c132 : FC G := FC.sp [.s .vec] fun (a, _) => .flt (vlen a)
theorem ok132 : FcOk Tryz.prog 132 c132 := sp0 L73ok Tryz.func132 (by kernel_rfl) (by kernel_rfl) (by kernel_rfl) fun (a, _) K => by kernel_rfl
def L132 : Ctr := (132, c132) :: L73
theorem L132ok : AllOk L132 := .cons ok132 L73ok
def c133 : FC G := FC.sp [.s .vec, .s .vec] fun (a, b, _) => encR .vec (vscale (vadd a b) 4602678819172646912)
theorem ok133 : FcOk Tryz.prog 133 c133 := sp0 L132ok Tryz.func133 (by kernel_rfl) (by kernel_rfl) (by kernel_rfl) fun (a, b, _) K => by kernel_rfl
def L133 : Ctr := (133, c133) :: L132
theorem L133ok : AllOk L133 := .cons ok133 L132ok
end Go.SX

/- Loops: what rounds come to; loops' contracts put together. No statement of the seat is proved here. -/
namespace Go.SX
open Go.Proofs
set_option maxRecDepth 20000

theorem lps1 {E : Env G} {mu : List Nat} {fn : Func} {i : Nat} {lc : LC G} (hl : loops (bodyD fn) = [(some i, lpBody fn 0)]) (hlp : E.lp i = some lc) (h : LpOk E mu (lpBody fn 0) lc) : LpsOk E mu (bodyD fn) :=
  LpsOk.of _ fun j b lc' hb hj => by
    rw [hl] at hb
    simp only [List.mem_singleton, Prod.mk.injEq, Option.some.injEq] at hb
    obtain ⟨rfl, rfl⟩ := hb
    rw [hlp] at hj
    cases hj
    exact h

theorem lps2 {E : Env G} {mu : List Nat} {fn : Func} {i j : Nat} {lc ld : LC G} (hl : loops (bodyD fn) = [(some i, lpBody fn 0), (some j, lpBody fn 1)]) (hlp : E.lp i = some lc) (h : LpOk E mu (lpBody fn 0) lc) (hlq : E.lp j = some ld) (h2 : LpOk E mu (lpBody fn 1) ld) : LpsOk E mu (bodyD fn) :=
  LpsOk.of _ fun q b lc' hb hj => by
    rw [hl] at hb
    simp only [List.mem_cons, Prod.mk.injEq, Option.some.injEq, List.not_mem_nil, or_false] at hb
    rcases hb with ⟨rfl, rfl⟩ | ⟨rfl, rfl⟩
    · rw [hlp] at hj; cases hj; exact h
    · rw [hlq] at hj; cases hj; exact h2

theorem lpOk_of {E : Env G} {c : Code} {lc : LC G} (hd : distinct (app lc.hd.kb (mapL (fun x => x.2.2) lc.hd.ko)) = true) (h : ∀ vs bs K o, lc.run vs bs K = some o → ∃ n, iter E lc.hd c n vs bs K = some o) : LpOk E [] c lc :=
  ⟨fun x hx => by simp at hx, hd, h⟩

theorem wrap_succ {i : Nat} (h : i + 1 < 9223372036854775808) : IntKind.i64.wrap ((i : Int) + 1) = ((i + 1 : Nat) : Int) := by
  rw [IntKind.wrap_i64]; omega

theorem getI_at {α : Type} {xs : List α} {i : Nat} (h : i < xs.length) : getI xs (i : Int) = some xs[i] := by
  simp [getI, List.getElem?_eq_getElem h]

/-- A search through a list. -/
theorem find_loop {α β : Type} {xs : List α} {p : α → Bool} {F : Nat → Int → Option β} {R X : Int → Option β}
    (hs : ∀ n (i : Int), F (n + 1) i = bif decide (i < (xs.length : Int)) then (getI xs i).bind (fun x => bif p x then R i else F n (IntKind.i64.wrap (i + 1))) else X i) (hl : xs.length < 9223372036854775808) :
    F (xs.length + 1) 0 = bif xs.any p then R (xs.findIdx p : Nat) else X (xs.length : Nat) := by
  have main : ∀ d i : Nat, i + d = xs.length → F (d + 1) (i : Int) = bif (xs.drop i).any p then R (i + (xs.drop i).findIdx p : Nat) else X (xs.length : Nat) := by
    intro d
    induction d with
    | zero =>
      intro i hi
      have : i = xs.length := by omega
      subst this
      rw [hs, List.drop_length]
      simp
    | succ d ih =>
      intro i hi
      have hlt : i < xs.length := by omega
      rw [hs, getI_at hlt, List.drop_eq_getElem_cons hlt]
      simp only [Option.bind_some, List.any_cons, List.findIdx_cons]
      rw [show decide ((i : Int) < (xs.length : Int)) = true from decide_eq_true (by omega), cond_true]
      cases p xs[i] with
      | true => simp
      | false =>
        rw [cond_false, Bool.false_or, wrap_succ (by omega), ih (i + 1) (by omega), cond_false, show i + 1 + (xs.drop (i + 1)).findIdx p = i + ((xs.drop (i + 1)).findIdx p + 1) by omega]
  have := main xs.length 0 (by omega)
  simpa using this

theorem idx_ge (b : Bool) (n : Nat) : decide ((bif b then (n : Int) else -1) ≥ 0) = b := by
  cases b
  · rfl
  · simp

theorem any_not {α : Type} (xs : List α) (p : α → Bool) : (!xs.any fun x => !p x) = xs.all p := by
  induction xs with
  | nil => rfl
  | cons x r ih => simp only [List.any_cons, List.all_cons, ← ih]; cases p x <;> simp


theorem xregion_lp (L : Ctr) (a b : List (Nat × LC G)) (ops : List Oper) (d : Bool) : xregion (EV L a) ops d = xregion (EV L b) ops d := by kernel_rfl
theorem xcode_lp (L : Ctr) (a b : List (Nat × LC G)) : ∀ (c : Code), loops c = [] → ∀ s K, xcode (EV L a) c s K = xcode (EV L b) c s K
  | .seq x y, h, s, K => by
    simp only [loops, app_eq, List.append_eq_nil_iff] at h
    simp only [xcode]
    rw [xcode_lp L a b x h.1]
    congr 1
    funext e s'
    cases e <;> first | exact xcode_lp L a b y h.2 s' K | rfl
  | .cond q x y, h, s, K => by
    simp only [loops, app_eq, List.append_eq_nil_iff] at h
    simp only [xcode]
    rw [xcode_lp L a b x h.1, xcode_lp L a b y h.2]
  | .block i x, h, s, K => by
    simp only [loops] at h
    simp only [xcode]
    rw [xcode_lp L a b x h]
  | .scope x, h, s, K => by
    simp only [loops] at h
    simp only [xcode]
    rw [xcode_lp L a b x h]
  | .loop x, h, s, K => by simp [loops] at h
  | .region i ops d, _, s, K => by simp only [xcode]; rw [xregion_lp L a b]
  | .skip, _, s, K => rfl
  | .rangeFunc _ _ _ _, _, s, K => rfl
  | .exit _, _, s, K => rfl
  | .label _, _, s, K => rfl
  | .goto _, _, s, K => rfl
  | .ret, _, s, K => rfl
  | .refuse _, _, s, K => rfl
theorem iter_lp (L : Ctr) (a b : List (Nat × LC G)) {c : Code} (h : loops c = []) (hd : LH G) : ∀ (n : Nat) (vs : List (RV G)) (bs : List (Blk G)) (K), iter (EV L a) hd c n vs bs K = iter (EV L b) hd c n vs bs K
  | 0, _, _, _ => rfl
  | n + 1, vs, bs, K => by
    simp only [iter]
    rw [xcode_lp L a b c h]
    congr 1
    funext e s
    cases norm hd s with
    | none => rfl
    | some p => cases e <;> first | exact iter_lp L a b h hd n _ _ K | rfl
/-- A loop of a bounded number of rounds, round by round. -/
theorem lpIter (L : Ctr) (lp : List (Nat × LC G)) {c : Code} {hd : LH G} (n : Nat) (hl : loops c = []) (hd1 : distinct (app hd.kb (mapL (fun x => x.2.2) hd.ko)) = true) : LpOk (EV L lp) [] c ⟨hd, iter (EV L []) hd c n⟩ :=
  lpOk_of hd1 fun vs bs K o h => ⟨n, by rw [iter_lp L lp [] hl]; exact h⟩

def c212 : FC G := FC.sp [.s .f64] fun (a, _) => .bool (!ffin a)
theorem ok212 : FcOk Tryz.prog 212 c212 := sp0 L133ok Tryz.func212 (by kernel_rfl) (by kernel_rfl) (by kernel_rfl) fun (a, _) K => by kernel_rfl
def L212 : Ctr := (212, c212) :: L133
theorem L212ok : AllOk L212 := .cons ok212 L133ok
def hdFind : LH G := ⟨[0, 1, 4, 7, 8], [], []⟩
def lc197 : LC G := ⟨hdFind, fun vs bs K => match vs, bs with
  | [.rslice .f64 xs, .func 212 [], .int .i64 0, .int .i64 n, .int .i64 i], [] => bif i == 0 && (n == (xs.length : Int) && decide (xs.length < 9223372036854775808)) then
      (bif xs.any (fun a => !ffin a) then K .ret [.rslice .f64 xs, .func 212 [], .int .i64 (xs.findIdx (fun a => !ffin a) : Nat), .int .i64 n, .int .i64 (xs.findIdx (fun a => !ffin a) : Nat)] []
       else K (.exit 0) [.rslice .f64 xs, .func 212 [], .int .i64 0, .int .i64 n, .int .i64 (xs.length : Nat)] []) else none
  | _, _ => none⟩
theorem step245 (xs : List (TD .f64)) (n : Nat) (i : Int) (K) : iter (EV L212 [(2, lc197)]) hdFind (lpBody Tryz.f245 0) (n + 1) [.rslice .f64 xs, .func 212 [], .int .i64 0, .int .i64 xs.length, .int .i64 i] [] K =
    bif decide (i < (xs.length : Int)) then (getI xs i).bind fun x => bif (fun a => !ffin a) x then K .ret [.rslice .f64 xs, .func 212 [], .int .i64 i, .int .i64 xs.length, .int .i64 i] [] else
      iter (EV L212 [(2, lc197)]) hdFind (lpBody Tryz.f245 0) n [.rslice .f64 xs, .func 212 [], .int .i64 0, .int .i64 xs.length, .int .i64 (IntKind.i64.wrap (i + 1))] [] K
    else K (.exit 0) [.rslice .f64 xs, .func 212 [], .int .i64 0, .int .i64 xs.length, .int .i64 i] [] := by kernel_rfl
theorem lp245 : LpOk (EV L212 [(2, lc197)]) [] (lpBody Tryz.f245 0) lc197 := lpOk_of (by kernel_rfl) fun vs bs K o h => by
  simp only [lc197] at h
  split at h
  · rename_i xs n i
    obtain ⟨hc, h2⟩ := cond_none h
    simp only [Bool.and_eq_true, beq_iff_eq, decide_eq_true_eq] at hc
    obtain ⟨rfl, rfl, hc⟩ := hc
    exact ⟨_, (find_loop (F := fun n i => iter (EV L212 [(2, lc197)]) hdFind (lpBody Tryz.f245 0) n [.rslice .f64 xs, .func 212 [], .int .i64 0, .int .i64 xs.length, .int .i64 i] [] K) (R := fun i => K .ret [.rslice .f64 xs, .func 212 [], .int .i64 i, .int .i64 xs.length, .int .i64 i] []) (X := fun i => K (.exit 0) [.rslice .f64 xs, .func 212 [], .int .i64 0, .int .i64 xs.length, .int .i64 i] []) (fun n i => step245 xs n i K) hc).trans h2⟩
  · cases h
def c245 : FC G := FC.sp [.l .f64, .f 212] fun (xs, _, _) => .int .i64 (bif xs.any (fun a => !ffin a) then (xs.findIdx (fun a => !ffin a) : Nat) else -1)
theorem ok245 : FcOk Tryz.prog 245 c245 := sp_wf L212ok Tryz.func245 (by kernel_rfl) [(2, lc197)] (lps1 (i := 2) (by kernel_rfl) rfl lp245) (by kernel_rfl) fun (xs, _, _) ⟨hx, _⟩ K => (show xfn (EV L212 [(2, lc197)]) Tryz.f245 [] (encs [.l .f64, .f 212] (xs, (), ())) [] K = (bif (0 : Int) == 0 && ((xs.length : Int) == (xs.length : Int) && decide (xs.length < 9223372036854775808)) then (bif xs.any (fun a => !ffin a) then K (.int .i64 (xs.findIdx (fun a => !ffin a) : Nat)) [] [] else K (.int .i64 (-1)) [] []) else none) from by kernel_rfl).trans (show (bif (0 : Int) == 0 && ((xs.length : Int) == (xs.length : Int) && decide (xs.length < 9223372036854775808)) then (bif xs.any (fun a => !ffin a) then K (.int .i64 (xs.findIdx (fun a => !ffin a) : Nat)) [] [] else K (.int .i64 (-1)) [] []) else none) = K (.int .i64 (bif xs.any (fun a => !ffin a) then (xs.findIdx (fun a => !ffin a) : Nat) else -1)) [] [] from by have hx : xs.length < 9223372036854775808 := hx; simp only [BEq.rfl, hx, decide_true, Bool.and_self, cond_true]; cases xs.any (fun a => !ffin a) <;> rfl)
def L245 : Ctr := (245, c245) :: L212
theorem L245ok : AllOk L245 := .cons ok245 L212ok
def c211 : FC G := FC.sp [.l .f64, .f 212] fun (xs, _, _) => .bool (xs.any (fun a => !ffin a))
theorem ok211 : FcOk Tryz.prog 211 c211 := sp0 L245ok Tryz.func211 (by kernel_rfl) (by kernel_rfl) (by kernel_rfl) fun (xs, _, _) K => (show xfn (EV L245 []) Tryz.f211 [] (encs [.l .f64, .f 212] (xs, (), ())) [] K = (K (.bool (decide ((bif xs.any (fun a => !ffin a) then ((xs.findIdx (fun a => !ffin a) : Nat) : Int) else -1) ≥ 0))) [] []) from by kernel_rfl).trans (by rw [idx_ge])
def L211 : Ctr := (211, c211) :: L245
theorem L211ok : AllOk L211 := .cons ok211 L245ok
def c158 : FC G := FC.sp [.l .f64] fun (xs, _) => .bool (xs.all ffin)
theorem ok158 : FcOk Tryz.prog 158 c158 := sp0 L211ok Tryz.func158 (by kernel_rfl) (by kernel_rfl) (by kernel_rfl) fun (xs, _) K => (show xfn (EV L211 []) Tryz.f158 [] (encs [.l .f64] (xs, ())) [] K = (K (.bool (!xs.any fun a => !ffin a)) [] []) from by kernel_rfl).trans (show (K (.bool (!xs.any fun a => !ffin a)) [] []) = K (.bool (xs.all ffin)) [] [] from by rw [any_not])
def L158 : Ctr := (158, c158) :: L211
theorem L158ok : AllOk L158 := .cons ok158 L211ok
end Go.SX

/- PRINTED BY A PROGRAM OF THIS SEAT: contracts, batch d: rows. No statement of the seat is proved here. -/
namespace Go.SX
open Go.Proofs
set_option maxRecDepth 20000
def c162 : FC G := FC.sp [.s .row] fun (r, _) => .bool (rfits r)
theorem ok162 : FcOk Tryz.prog 162 c162 := sp0 L158ok Tryz.func162 (by kernel_rfl) (by kernel_rfl) (by kernel_rfl) fun (r, _) K => (show xfn (EV L158 []) Tryz.f162 [] (encs [.s .row] (r, ())) [] K = (bif ((((decide (r.A ≥ 0) && decide (r.B ≥ 0)) && (r.A != r.B)) && vfin r.WayA) && vfin r.WayB) then K (.bool ((((true && [r.TurnA, r.TurnB, r.Bias, r.Push, r.Ratio].all ffin) && fle 0 r.Ratio) && fle r.Low r.High) && decide (r.Of ≥ -1))) [] [] else K (.bool false) [] []) from by kernel_rfl).trans (show (bif ((((decide (r.A ≥ 0) && decide (r.B ≥ 0)) && (r.A != r.B)) && vfin r.WayA) && vfin r.WayB) then K (.bool ((((true && [r.TurnA, r.TurnB, r.Bias, r.Push, r.Ratio].all ffin) && fle 0 r.Ratio) && fle r.Low r.High) && decide (r.Of ≥ -1))) [] [] else K (.bool false) [] []) = K (.bool (rfits r)) [] [] from by unfold rfits; cases ((((decide (r.A ≥ 0) && decide (r.B ≥ 0)) && (r.A != r.B)) && vfin r.WayA) && vfin r.WayB) <;> rfl)
def L162 : Ctr := (162, c162) :: L158
theorem L162ok : AllOk L162 := .cons ok162 L158ok
def c210 : FC G := FC.sp [.s .still] fun (s, _) => .bool (srests s)
theorem ok210 : FcOk Tryz.prog 210 c210 := sp0 L162ok Tryz.func210 (by kernel_rfl) (by kernel_rfl) (by kernel_rfl) fun (s, _) K => by kernel_rfl
def L210 : Ctr := (210, c210) :: L162
theorem L210ok : AllOk L210 := .cons ok210 L162ok
def c155 : FC G := FC.sp [.s .row, .s .still, .s .still] fun (r, a, b, _) => .int .i64 (rerr r a b)
theorem ok155 : FcOk Tryz.prog 155 c155 := sp0 L210ok Tryz.func155 (by kernel_rfl) (by kernel_rfl) (by kernel_rfl) fun (r, a, b, _) K => (show xfn (EV L210 []) Tryz.f155 [] (encs [.s .row, .s .still, .s .still] (r, a, b, ())) [] K = (bif (!rfits r || !srests a) || !srests b then K (.int .i64 200) [] [] else K (.int .i64 0) [] []) from by kernel_rfl).trans (show (bif (!rfits r || !srests a) || !srests b then K (.int .i64 200) [] [] else K (.int .i64 0) [] []) = K (.int .i64 (rerr r a b)) [] [] from by unfold rerr rok; cases rfits r <;> cases srests a <;> cases srests b <;> rfl)
def L155 : Ctr := (155, c155) :: L210
theorem L155ok : AllOk L155 := .cons ok155 L210ok
def c157 : FC G := FC.sp [.s .row, .s .still, .s .still] fun (r, a, b, _) => .flt (rweight r a b)
theorem ok157 : FcOk Tryz.prog 157 c157 := sp0 L155ok Tryz.func157 (by kernel_rfl) (by kernel_rfl) (by kernel_rfl) fun (r, a, b, _) K => by kernel_rfl
def L157 : Ctr := (157, c157) :: L155
theorem L157ok : AllOk L157 := .cons ok157 L155ok
def c156 : FC G := FC.sp [.s .row, .s .still, .s .still] fun (r, a, b, _) => .flt (rspeed r a b)
theorem ok156 : FcOk Tryz.prog 156 c156 := sp0 L157ok Tryz.func156 (by kernel_rfl) (by kernel_rfl) (by kernel_rfl) fun (r, a, b, _) K => by kernel_rfl
def L156 : Ctr := (156, c156) :: L157
theorem L156ok : AllOk L156 := .cons ok156 L157ok
def hd159 : LH G := ⟨[2, 3, 4, 6, 7, 8, 9, 22], [], [3, 4, 8, 9, 6, 7]⟩
noncomputable def lc142 : LC G := ⟨hd159, iter (EV L156 []) hd159 (lpBody Tryz.f159 0) 3⟩
def c159 : FC G := FC.sp [.s .row, .a2 .still, .s .f64] fun (r, x, p, _) => .tuple [encR .still (spush x.1 r.WayA r.TurnA p), encR .still (spush x.2 r.WayB r.TurnB p)]
theorem x159 (r : GRow) (a b : GStill) (p : Nat) (K) : xfn (EV L156 [(3, lc142)]) Tryz.f159 [] (encs [.s .row, .a2 .still, .s .f64] (r, (a, b), p, ())) [] K = K (.tuple [encR .still (spush a r.WayA r.TurnA p), encR .still (spush b r.WayB r.TurnB p)]) [] [] := (show _ = (bif !feq a.Mass 0 then (bif !feq a.Inertia 0 then (bif !feq b.Mass 0 then (bif !feq b.Inertia 0 then (K (.tuple [.agg [.flt a.Mass, .flt a.Inertia, .flt (vmore a.Speed (fmul a.Mass p) r.WayA).X, .flt (vmore a.Speed (fmul a.Mass p) r.WayA).Y, .flt (fadd a.Spin (fmul a.Inertia (fmul p r.TurnA)))], .agg [.flt b.Mass, .flt b.Inertia, .flt (vmore b.Speed (fmul b.Mass p) r.WayB).X, .flt (vmore b.Speed (fmul b.Mass p) r.WayB).Y, .flt (fadd b.Spin (fmul b.Inertia (fmul p r.TurnB)))]]) [] []) else (K (.tuple [.agg [.flt a.Mass, .flt a.Inertia, .flt (vmore a.Speed (fmul a.Mass p) r.WayA).X, .flt (vmore a.Speed (fmul a.Mass p) r.WayA).Y, .flt (fadd a.Spin (fmul a.Inertia (fmul p r.TurnA)))], .agg [.flt b.Mass, .flt b.Inertia, .flt (vmore b.Speed (fmul b.Mass p) r.WayB).X, .flt (vmore b.Speed (fmul b.Mass p) r.WayB).Y, .flt b.Spin]]) [] [])) else (bif !feq b.Inertia 0 then (K (.tuple [.agg [.flt a.Mass, .flt a.Inertia, .flt (vmore a.Speed (fmul a.Mass p) r.WayA).X, .flt (vmore a.Speed (fmul a.Mass p) r.WayA).Y, .flt (fadd a.Spin (fmul a.Inertia (fmul p r.TurnA)))], .agg [.flt b.Mass, .flt b.Inertia, .flt b.Speed.X, .flt b.Speed.Y, .flt (fadd b.Spin (fmul b.Inertia (fmul p r.TurnB)))]]) [] []) else (K (.tuple [.agg [.flt a.Mass, .flt a.Inertia, .flt (vmore a.Speed (fmul a.Mass p) r.WayA).X, .flt (vmore a.Speed (fmul a.Mass p) r.WayA).Y, .flt (fadd a.Spin (fmul a.Inertia (fmul p r.TurnA)))], .agg [.flt b.Mass, .flt b.Inertia, .flt b.Speed.X, .flt b.Speed.Y, .flt b.Spin]]) [] []))) else (bif !feq b.Mass 0 then (bif !feq b.Inertia 0 then (K (.tuple [.agg [.flt a.Mass, .flt a.Inertia, .flt (vmore a.Speed (fmul a.Mass p) r.WayA).X, .flt (vmore a.Speed (fmul a.Mass p) r.WayA).Y, .flt a.Spin], .agg [.flt b.Mass, .flt b.Inertia, .flt (vmore b.Speed (fmul b.Mass p) r.WayB).X, .flt (vmore b.Speed (fmul b.Mass p) r.WayB).Y, .flt (fadd b.Spin (fmul b.Inertia (fmul p r.TurnB)))]]) [] []) else (K (.tuple [.agg [.flt a.Mass, .flt a.Inertia, .flt (vmore a.Speed (fmul a.Mass p) r.WayA).X, .flt (vmore a.Speed (fmul a.Mass p) r.WayA).Y, .flt a.Spin], .agg [.flt b.Mass, .flt b.Inertia, .flt (vmore b.Speed (fmul b.Mass p) r.WayB).X, .flt (vmore b.Speed (fmul b.Mass p) r.WayB).Y, .flt b.Spin]]) [] [])) else (bif !feq b.Inertia 0 then (K (.tuple [.agg [.flt a.Mass, .flt a.Inertia, .flt (vmore a.Speed (fmul a.Mass p) r.WayA).X, .flt (vmore a.Speed (fmul a.Mass p) r.WayA).Y, .flt a.Spin], .agg [.flt b.Mass, .flt b.Inertia, .flt b.Speed.X, .flt b.Speed.Y, .flt (fadd b.Spin (fmul b.Inertia (fmul p r.TurnB)))]]) [] []) else (K (.tuple [.agg [.flt a.Mass, .flt a.Inertia, .flt (vmore a.Speed (fmul a.Mass p) r.WayA).X, .flt (vmore a.Speed (fmul a.Mass p) r.WayA).Y, .flt a.Spin], .agg [.flt b.Mass, .flt b.Inertia, .flt b.Speed.X, .flt b.Speed.Y, .flt b.Spin]]) [] [])))) else (bif !feq a.Inertia 0 then (bif !feq b.Mass 0 then (bif !feq b.Inertia 0 then (K (.tuple [.agg [.flt a.Mass, .flt a.Inertia, .flt a.Speed.X, .flt a.Speed.Y, .flt (fadd a.Spin (fmul a.Inertia (fmul p r.TurnA)))], .agg [.flt b.Mass, .flt b.Inertia, .flt (vmore b.Speed (fmul b.Mass p) r.WayB).X, .flt (vmore b.Speed (fmul b.Mass p) r.WayB).Y, .flt (fadd b.Spin (fmul b.Inertia (fmul p r.TurnB)))]]) [] []) else (K (.tuple [.agg [.flt a.Mass, .flt a.Inertia, .flt a.Speed.X, .flt a.Speed.Y, .flt (fadd a.Spin (fmul a.Inertia (fmul p r.TurnA)))], .agg [.flt b.Mass, .flt b.Inertia, .flt (vmore b.Speed (fmul b.Mass p) r.WayB).X, .flt (vmore b.Speed (fmul b.Mass p) r.WayB).Y, .flt b.Spin]]) [] [])) else (bif !feq b.Inertia 0 then (K (.tuple [.agg [.flt a.Mass, .flt a.Inertia, .flt a.Speed.X, .flt a.Speed.Y, .flt (fadd a.Spin (fmul a.Inertia (fmul p r.TurnA)))], .agg [.flt b.Mass, .flt b.Inertia, .flt b.Speed.X, .flt b.Speed.Y, .flt (fadd b.Spin (fmul b.Inertia (fmul p r.TurnB)))]]) [] []) else (K (.tuple [.agg [.flt a.Mass, .flt a.Inertia, .flt a.Speed.X, .flt a.Speed.Y, .flt (fadd a.Spin (fmul a.Inertia (fmul p r.TurnA)))], .agg [.flt b.Mass, .flt b.Inertia, .flt b.Speed.X, .flt b.Speed.Y, .flt b.Spin]]) [] []))) else (bif !feq b.Mass 0 then (bif !feq b.Inertia 0 then (K (.tuple [.agg [.flt a.Mass, .flt a.Inertia, .flt a.Speed.X, .flt a.Speed.Y, .flt a.Spin], .agg [.flt b.Mass, .flt b.Inertia, .flt (vmore b.Speed (fmul b.Mass p) r.WayB).X, .flt (vmore b.Speed (fmul b.Mass p) r.WayB).Y, .flt (fadd b.Spin (fmul b.Inertia (fmul p r.TurnB)))]]) [] []) else (K (.tuple [.agg [.flt a.Mass, .flt a.Inertia, .flt a.Speed.X, .flt a.Speed.Y, .flt a.Spin], .agg [.flt b.Mass, .flt b.Inertia, .flt (vmore b.Speed (fmul b.Mass p) r.WayB).X, .flt (vmore b.Speed (fmul b.Mass p) r.WayB).Y, .flt b.Spin]]) [] [])) else (bif !feq b.Inertia 0 then (K (.tuple [.agg [.flt a.Mass, .flt a.Inertia, .flt a.Speed.X, .flt a.Speed.Y, .flt a.Spin], .agg [.flt b.Mass, .flt b.Inertia, .flt b.Speed.X, .flt b.Speed.Y, .flt (fadd b.Spin (fmul b.Inertia (fmul p r.TurnB)))]]) [] []) else (K (.tuple [.agg [.flt a.Mass, .flt a.Inertia, .flt a.Speed.X, .flt a.Speed.Y, .flt a.Spin], .agg [.flt b.Mass, .flt b.Inertia, .flt b.Speed.X, .flt b.Speed.Y, .flt b.Spin]]) [] []))))) from by kernel_rfl).trans (by
  unfold spush
  cases feq a.Mass 0 <;> cases feq a.Inertia 0 <;> cases feq b.Mass 0 <;> cases feq b.Inertia 0 <;> rfl)
theorem ok159 : FcOk Tryz.prog 159 c159 := sp_ok L156ok Tryz.func159 (by kernel_rfl) [(3, lc142)] (lps1 (i := 3) (by kernel_rfl) rfl (lpIter L156 _ 3 (by kernel_rfl) (by kernel_rfl))) (by kernel_rfl) fun (r, (a, b), p, _) K => x159 r a b p K
def L159 : Ctr := (159, c159) :: L156
theorem L159ok : AllOk L159 := .cons ok159 L156ok
def c77 : FC G := FC.sp [.s .row, .s .still, .s .still] fun (r, a, b, _) => .tuple [.flt (rweight1 r a b), .int .i64 (rerr r a b)]
theorem ok77 : FcOk Tryz.prog 77 c77 := sp0 L159ok Tryz.func77 (by kernel_rfl) (by kernel_rfl) (by kernel_rfl) fun (r, a, b, _) K => (show xfn (EV L159 []) Tryz.f77 [] (encs [.s .row, .s .still, .s .still] (r, a, b, ())) [] K = (bif rerr r a b != 0 then K (.tuple [.flt 0, .int .i64 (rerr r a b)]) [] [] else K (.tuple [.flt (rweight r a b), .int .i64 0]) [] []) from by kernel_rfl).trans (show (bif rerr r a b != 0 then K (.tuple [.flt 0, .int .i64 (rerr r a b)]) [] [] else K (.tuple [.flt (rweight r a b), .int .i64 0]) [] []) = K (.tuple [.flt (rweight1 r a b), .int .i64 (rerr r a b)]) [] [] from by unfold rweight1 rerr; cases rok r a b <;> rfl)
def L77 : Ctr := (77, c77) :: L159
theorem L77ok : AllOk L77 := .cons ok77 L159ok
def c76 : FC G := FC.sp [.s .row, .s .still, .s .still] fun (r, a, b, _) => .tuple [.flt (rspeed1 r a b), .int .i64 (rerr r a b)]
theorem ok76 : FcOk Tryz.prog 76 c76 := sp0 L77ok Tryz.func76 (by kernel_rfl) (by kernel_rfl) (by kernel_rfl) fun (r, a, b, _) K => (show xfn (EV L77 []) Tryz.f76 [] (encs [.s .row, .s .still, .s .still] (r, a, b, ())) [] K = (bif rerr r a b != 0 then K (.tuple [.flt 0, .int .i64 (rerr r a b)]) [] [] else K (.tuple [.flt (rspeed r a b), .int .i64 0]) [] []) from by kernel_rfl).trans (show (bif rerr r a b != 0 then K (.tuple [.flt 0, .int .i64 (rerr r a b)]) [] [] else K (.tuple [.flt (rspeed r a b), .int .i64 0]) [] []) = K (.tuple [.flt (rspeed1 r a b), .int .i64 (rerr r a b)]) [] [] from by unfold rspeed1 rerr; cases rok r a b <;> rfl)
def L76 : Ctr := (76, c76) :: L77
theorem L76ok : AllOk L76 := .cons ok76 L77ok
end Go.SX

/- PRINTED BY A PROGRAM OF THIS SEAT: contracts, batch e: rows solved. No statement of the seat is proved here. -/
namespace Go.SX
open Go.Proofs
set_option maxRecDepth 20000
theorem max_ge (a b n : Int) : decide (cond (decide (a < b)) b a ≥ n) = (decide (a ≥ n) || decide (b ≥ n)) := by
  rw [Bool.eq_iff_iff]
  by_cases h : a < b <;> simp [h] <;> omega
def c88 : FC G := FC.sp [.s .row, .s .still, .s .still] fun (r, a, b, _) => .tuple [encR .still (rwarmA r a b), encR .still (rwarmB r a b), .int .i64 (rerr r a b)]
theorem ok88 : FcOk Tryz.prog 88 c88 := sp0 L76ok Tryz.func88 (by kernel_rfl) (by kernel_rfl) (by kernel_rfl) fun (r, a, b, _) K => (show xfn (EV L76 []) Tryz.f88 [] (encs [.s .row, .s .still, .s .still] (r, a, b, ())) [] K = (bif rerr r a b != 0 then K (.tuple [encR .still still0, encR .still still0, .int .i64 (rerr r a b)]) [] [] else K (.tuple [encR .still (spush a r.WayA r.TurnA r.Push), encR .still (spush b r.WayB r.TurnB r.Push), .int .i64 0]) [] []) from by kernel_rfl).trans (show (bif rerr r a b != 0 then K (.tuple [encR .still still0, encR .still still0, .int .i64 (rerr r a b)]) [] [] else K (.tuple [encR .still (spush a r.WayA r.TurnA r.Push), encR .still (spush b r.WayB r.TurnB r.Push), .int .i64 0]) [] []) = K (.tuple [encR .still (rwarmA r a b), encR .still (rwarmB r a b), .int .i64 (rerr r a b)]) [] [] from by unfold rwarmA rwarmB rerr; cases rok r a b <;> rfl)
def L88 : Ctr := (88, c88) :: L76
theorem L88ok : AllOk L88 := .cons ok88 L76ok
def c78 : FC G := FC.sp [.s .row, .s .still, .s .still] fun (r, a, b, _) => .tuple [encR .row (rone r a b), encR .still (roneA r a b), encR .still (roneB r a b), .int .i64 (rerr r a b)]
theorem ok78 : FcOk Tryz.prog 78 c78 := sp0 L88ok Tryz.func78 (by kernel_rfl) (by kernel_rfl) (by kernel_rfl) fun (r, a, b, _) K => (show xfn (EV L88 []) Tryz.f78 [] (encs [.s .row, .s .still, .s .still] (r, a, b, ())) [] K = (bif rerr r a b != 0 then K (.tuple [encR .row row0, encR .still still0, encR .still still0, .int .i64 (rerr r a b)]) [] [] else bif !flt 0 (rweight r a b) then K (.tuple [encR .row r, encR .still a, encR .still b, .int .i64 0]) [] [] else bif (false || ![rweight r a b, rlack r a b].all ffin) then K (.tuple [encR .row r, encR .still a, encR .still b, .int .i64 0]) [] [] else bif ![rq r a b, fsub (rq r a b) r.Push].all ffin then K (.tuple [encR .row r, encR .still a, encR .still b, .int .i64 0]) [] [] else K (.tuple [encR .row { r with Push := rq r a b }, encR .still (spush a r.WayA r.TurnA (fsub (rq r a b) r.Push)), encR .still (spush b r.WayB r.TurnB (fsub (rq r a b) r.Push)), .int .i64 0]) [] []) from by kernel_rfl).trans (show (bif rerr r a b != 0 then K (.tuple [encR .row row0, encR .still still0, encR .still still0, .int .i64 (rerr r a b)]) [] [] else bif !flt 0 (rweight r a b) then K (.tuple [encR .row r, encR .still a, encR .still b, .int .i64 0]) [] [] else bif (false || ![rweight r a b, rlack r a b].all ffin) then K (.tuple [encR .row r, encR .still a, encR .still b, .int .i64 0]) [] [] else bif ![rq r a b, fsub (rq r a b) r.Push].all ffin then K (.tuple [encR .row r, encR .still a, encR .still b, .int .i64 0]) [] [] else K (.tuple [encR .row { r with Push := rq r a b }, encR .still (spush a r.WayA r.TurnA (fsub (rq r a b) r.Push)), encR .still (spush b r.WayB r.TurnB (fsub (rq r a b) r.Push)), .int .i64 0]) [] []) = K (.tuple [encR .row (rone r a b), encR .still (roneA r a b), encR .still (roneB r a b), .int .i64 (rerr r a b)]) [] [] from by unfold rone roneA roneB rerr rgo; (try simp only [List.all_cons, List.all_nil, Bool.and_true]); cases rok r a b <;> cases flt 0 (rweight r a b) <;> cases ffin (rweight r a b) <;> cases ffin (rlack r a b) <;> cases ffin (rq r a b) <;> cases ffin (fsub (rq r a b) r.Push) <;> rfl)
def L78 : Ctr := (78, c78) :: L88
theorem L78ok : AllOk L78 := .cons ok78 L88ok
def c80 : FC G := FC.sp [.s .row, .s .i64, .s .i64] fun (r, n, m, _) => .int .i64 (rcheck r n m)
theorem ok80 : FcOk Tryz.prog 80 c80 := sp0 L78ok Tryz.func80 (by kernel_rfl) (by kernel_rfl) (by kernel_rfl) fun (r, n, m, _) K => (show xfn (EV L78 []) Tryz.f80 [] (encs [.s .row, .s .i64, .s .i64] (r, n, m, ())) [] K = (bif ((!rfits r || decide (cond (decide (r.A < r.B)) r.B r.A ≥ m)) || decide (r.Of ≥ n)) then K (.int .i64 200) [] [] else K (.int .i64 0) [] []) from by kernel_rfl).trans (show (bif ((!rfits r || decide (cond (decide (r.A < r.B)) r.B r.A ≥ m)) || decide (r.Of ≥ n)) then K (.int .i64 200) [] [] else K (.int .i64 0) [] []) = K (.int .i64 (rcheck r n m)) [] [] from by rw [max_ge]; unfold rcheck; cases rfits r <;> cases decide (r.A ≥ m) <;> cases decide (r.B ≥ m) <;> cases decide (r.Of ≥ n) <;> rfl)
def L80 : Ctr := (80, c80) :: L78
theorem L80ok : AllOk L80 := .cons ok80 L78ok
end Go.SX

/- Loops told for the arguments at hand; what a list's elements keep to; slices.Clone. No statement of the seat is proved here. -/
namespace Go.SX
open Go.Proofs
set_option maxRecDepth 20000

/-- An answer where something holds. -/
noncomputable def gate {β : Type} (p : Prop) (x : Option β) : Option β := @ite _ p (Classical.propDecidable p) x none
theorem gate_pos {β : Type} {p : Prop} (h : p) (x : Option β) : gate p x = x := by unfold gate; rw [if_pos h]
theorem gate_some {β : Type} {p : Prop} {x : Option β} {o : β} (h : gate p x = some o) : p ∧ x = some o := by
  unfold gate at h
  split at h
  · exact ⟨by assumption, h⟩
  · cases h

/-- A loop's contract at one start. -/
noncomputable def lcOf (hd : LH G) (vs0 : List (RV G)) (bs0 : List (Blk G)) (out : (XE → List (RV G) → List (Blk G) → Ans G) → Ans G) : LC G := ⟨hd, fun vs bs K => gate (vs = vs0 ∧ bs = bs0) (out K)⟩

theorem lcOf_ok {E : Env G} {c : Code} {hd : LH G} {vs0 : List (RV G)} {bs0 : List (Blk G)} {out : (XE → List (RV G) → List (Blk G) → Ans G) → Ans G} (hd1 : distinct (app hd.kb (mapL (fun x => x.2.2) hd.ko)) = true) (h : ∀ K, ∃ n, iter E hd c n vs0 bs0 K = out K) : LpOk E [] c (lcOf hd vs0 bs0 out) :=
  lpOk_of hd1 fun vs bs K o ho => by
    obtain ⟨⟨rfl, rfl⟩, g⟩ := gate_some ho
    obtain ⟨n, hn⟩ := h K
    exact ⟨n, hn.trans g⟩

section
variable {L : Ctr} (hL : AllOk L) {f : Nat} {fn : Func} (hf : Tryz.prog.funcs[f]? = some fn) (ho : fnOK fn = true)
include hL hf ho

/-- A contract by its transformer, loops told for the arguments at hand. -/
theorem rn_lp {ks : List AK} {run : dens ks → (RV G → List (Blk G) → List (Blk G) → Ans G) → Ans G} (hn : Nat.ble ks.length fn.ntmps = true)
    (hk : ∀ x K o, run x K = some o → ∃ r bs fr, K r bs fr = some o)
    (h : ∀ (x : dens ks), wfs ks x → ∃ lp, LpsOk (EV L lp) [] (bodyD fn) ∧ ∀ K o, run x K = some o → xfn (EV L lp) fn [] (encs ks x) [] K = some o) : FcOk Tryz.prog f (FC.rn ks run) where
  pure _ _ h := by cases h
  run vs bs K o hr := by
    simp only [FC.rn, FC.ofRun] at hr
    split at hr
    · rename_i x hx
      by_cases hw : wfs ks x
      · obtain ⟨lp, hlp, h⟩ := h x hw
        obtain ⟨o1, o2, o3⟩ := fnOK_spec ho
        have hn' := Nat.le_of_ble_eq_true hn
        have m1 : muIds [] (encs ks x) = [] := by simp [muIds, mutsOf_nil]
        have m2 : muIds [] vs = [] := by simp [muIds, mutsOf_nil]
        obtain ⟨r, bs', fr, h1, h2⟩ := fn_ok (EV_ok hL lp) mixed hf o1 o2 o3 hlp (by rw [encs_len]; exact hn') m1 (h K o hr)
        refine ⟨r, bs', fr, h1, fun cx w us ids hids hl ha hal hi => ?_⟩
        have : ids = [] := by rw [hids]; exact m2
        subst this
        have hb : bs = [] := by cases bs with
          | nil => rfl
          | cons _ _ => simp at hl
        subst hb
        exact h2 cx w us [] m1.symm rfl (decs'_rel hx ha) hal hi
      · obtain ⟨r, bs', fr, h1⟩ := hk x K o hr
        refine ⟨r, bs', fr, h1, fun cx w us ids hids hl ha hal hi => absurd ?_ hw⟩
        obtain ⟨g1, g2⟩ := decs'_rel hx ha
        exact wfs_rel (vs := us.toList) (by rw [Array.length_toList, g1, encs_len]) fun j u r hu hr => g2 j u r (by simpa using hu) hr
    · cases hr

theorem sp_lp {ks : List AK} {res : dens ks → RV G} (hn : Nat.ble ks.length fn.ntmps = true)
    (h : ∀ (x : dens ks), wfs ks x → ∃ lp, LpsOk (EV L lp) [] (bodyD fn) ∧ ∀ K, xfn (EV L lp) fn [] (encs ks x) [] K = K (res x) [] []) : FcOk Tryz.prog f (FC.sp ks res) where
  pure vs r hr K := by
    simp only [FC.sp, FC.ofPure] at hr ⊢
    split at hr
    · cases hr; rfl
    · cases hr
  run vs bs K o hr := by
    have h1 : FcOk Tryz.prog f (FC.rn ks fun x K => K (res x) [] []) := rn_lp hL hf ho hn (fun x K o h => ⟨_, _, _, h⟩) fun x hx => by
      obtain ⟨lp, h1, h2⟩ := h x hx
      exact ⟨lp, h1, fun K o hk => by rw [h2]; exact hk⟩
    refine h1.run vs bs K o ?_
    simp only [FC.sp, FC.ofPure] at hr
    simp only [FC.rn, FC.ofRun]
    split at hr
    · rename_i r hr'
      split at hr'
      · cases hr'; exact hr
      · cases hr'
    · cases hr
end

/-- Rounds over the numbers below N. -/
theorem idx_loop {β : Type} {N : Nat} {p : Nat → Bool} {F : Nat → Int → Option β} {R X : Int → Option β}
    (hs : ∀ n (i : Nat), i < N → F (n + 1) (i : Int) = bif p i then R i else F n ((i + 1 : Nat) : Int)) (hx : ∀ n, F (n + 1) (N : Int) = X (N : Nat)) :
    F (N + 1) 0 = bif (List.range N).any p then R ((List.range N).findIdx p : Nat) else X (N : Nat) := by
  have main : ∀ d i : Nat, i + d = N → F (d + 1) (i : Int) = bif (List.range' i d).any p then R (i + (List.range' i d).findIdx p : Nat) else X (N : Nat) := by
    intro d
    induction d with
    | zero =>
      intro i hi
      have : i = N := by omega
      subst this
      rw [hx]
      simp
    | succ d ih =>
      intro i hi
      rw [hs _ _ (by omega), List.range'_succ]
      simp only [List.any_cons, List.findIdx_cons]
      cases h : p i with
      | true => simp
      | false =>
        rw [cond_false, Bool.false_or, ih (i + 1) (by omega), cond_false, show i + 1 + (List.range' (i + 1) d).findIdx p = i + ((List.range' (i + 1) d).findIdx p + 1) by omega]
  have := main N 0 (by omega)
  rw [List.range_eq_range']
  simpa using this
end Go.SX

/- PRINTED BY A PROGRAM OF THIS SEAT: contracts, batch h: touches. No statement of the seat is proved here. -/
namespace Go.SX
open Go.Proofs
set_option maxRecDepth 20000
theorem decG_inv191 {l : List (RV G)} {q : TD .point} (h : decG .point l = some q) : l = encG .point q := by
  simp only [decG] at h
  split at h
  · cases h; rfl
  · cases h
theorem zip_any {α : Type} {same : α → α → Bool} (d : α) : ∀ {xs ys : List α}, xs.length = ys.length → (List.range xs.length).any (fun i => !same (xs.getD i d) (ys.getD i d)) = !(List.zipWith same xs ys).all id := by
  intro xs ys h
  rw [Bool.eq_iff_iff]
  simp only [List.any_eq_true, List.mem_range, Bool.not_eq_true', Bool.not_eq_eq_eq_not, Bool.not_true, List.all_eq_false, id_eq]
  constructor
  · rintro ⟨i, hi, hs⟩
    refine ⟨same xs[i] ys[i], ?_, ?_⟩
    · rw [List.mem_iff_getElem?]
      exact ⟨i, by rw [List.getElem?_zipWith, List.getElem?_eq_getElem hi, List.getElem?_eq_getElem (by omega)]⟩
    · rw [List.getD_eq_getElem?_getD, List.getD_eq_getElem?_getD, List.getElem?_eq_getElem hi, List.getElem?_eq_getElem (by omega)] at hs
      simpa using hs
  · rintro ⟨b, hb, hs⟩
    obtain ⟨i, hi⟩ := List.mem_iff_getElem?.1 hb
    rw [List.getElem?_zipWith] at hi
    cases h1 : xs[i]? with
    | none => rw [h1] at hi; simp at hi
    | some x => cases h2 : ys[i]? with
      | none => rw [h1, h2] at hi; simp at hi
      | some y =>
        rw [h1, h2] at hi
        simp only [Option.some.injEq] at hi
        refine ⟨i, (List.getElem?_eq_some_iff.1 h1).1, ?_⟩
        rw [List.getD_eq_getElem?_getD, List.getD_eq_getElem?_getD, h1, h2]
        simp only [Option.getD_some]
        rw [hi]
        simpa using hs
def c34 : FC G := FC.sp [.s .i64] fun (n, _) => .flt (bif decide (n ≥ 0) then 9218868437227405312 else 18442240474082181120)
theorem ok34 : FcOk Tryz.prog 34 c34 := sp0 L80ok Tryz.func34 (by kernel_rfl) (by kernel_rfl) (by kernel_rfl) fun (n, _) K => (show xfn (EV L80 []) Tryz.f34 [] (encs [.s .i64] (n, ())) [] K = (bif decide (n ≥ 0) then K (.flt 9218868437227405312) [] [] else K (.flt 18442240474082181120) [] []) from by kernel_rfl).trans (show (bif decide (n ≥ 0) then K (.flt 9218868437227405312) [] [] else K (.flt 18442240474082181120) [] []) = K (.flt (bif decide (n ≥ 0) then 9218868437227405312 else 18442240474082181120)) [] [] from by cases decide (n ≥ 0) <;> rfl)
def L34 : Ctr := (34, c34) :: L80
theorem L34ok : AllOk L34 := .cons ok34 L80ok
def c75 : FC G := FC.sp [] fun _ => .tuple [encR .row ⟨0, 1, ⟨0, 13830554455654793216⟩, ⟨0, 4607182418800017408⟩, 0, 0, 0, 0, 9218868437227405312, 0, -1, 0⟩, encR .still ⟨4607182418800017408, 4602678819172646912, ⟨0, 13835058055282163712⟩, 0⟩]
theorem ok75 : FcOk Tryz.prog 75 c75 := sp0 L34ok Tryz.func75 (by kernel_rfl) (by kernel_rfl) (by kernel_rfl) fun _ K => by kernel_rfl
def L75 : Ctr := (75, c75) :: L34
theorem L75ok : AllOk L75 := .cons ok75 L34ok
def c79 : FC G := FC.sp [.s .part, .s .part] fun (a, b, _) => .tuple [.flt ((FloatKind.f64.format.sqrt (fmul a.Friction b.Friction)).getD qnan), .flt (fmost a.Bounce b.Bounce)]
theorem ok79 : FcOk Tryz.prog 79 c79 := sp0 L75ok Tryz.func79 (by kernel_rfl) (by kernel_rfl) (by kernel_rfl) fun (a, b, _) K => by kernel_rfl
def L79 : Ctr := (79, c79) :: L75
theorem L79ok : AllOk L79 := .cons ok79 L75ok
def c24 : FC G := FC.sp [] fun _ => .bool true
theorem ok24 : FcOk Tryz.prog 24 c24 := sp0 L79ok Tryz.func24 (by kernel_rfl) (by kernel_rfl) (by kernel_rfl) fun _ K => by kernel_rfl
def L24 : Ctr := (24, c24) :: L79
theorem L24ok : AllOk L24 := .cons ok24 L79ok
def c217 : FC G := FC.sp [.s .i64] fun (n, _) => .bool (partOk n)
theorem ok217 : FcOk Tryz.prog 217 c217 := sp0 L24ok Tryz.func217 (by kernel_rfl) (by kernel_rfl) (by kernel_rfl) fun (n, _) K => by kernel_rfl
def L217 : Ctr := (217, c217) :: L24
theorem L217ok : AllOk L217 := .cons ok217 L24ok
def c163 : FC G := FC.sp [.s .pair] fun (p, _) => .bool (pairOk p)
theorem ok163 : FcOk Tryz.prog 163 c163 := sp0 L217ok Tryz.func163 (by kernel_rfl) (by kernel_rfl) (by kernel_rfl) fun (p, _) K => (show xfn (EV L217 []) Tryz.f163 [] (encs [.s .pair] (p, ())) [] K = (bif ((decide (p.A ≥ 0) && decide (p.B ≥ 0)) && (p.A != p.B)) then (bif (true && partOk p.PartA) then K (.bool (true && partOk p.PartB)) [] [] else K (.bool false) [] []) else K (.bool false) [] []) from by kernel_rfl).trans (show (bif ((decide (p.A ≥ 0) && decide (p.B ≥ 0)) && (p.A != p.B)) then (bif (true && partOk p.PartA) then K (.bool (true && partOk p.PartB)) [] [] else K (.bool false) [] []) else K (.bool false) [] []) = K (.bool (pairOk p)) [] [] from by unfold pairOk; cases ((decide (p.A ≥ 0) && decide (p.B ≥ 0)) && (p.A != p.B)) <;> cases partOk p.PartA <;> cases partOk p.PartB <;> rfl)
def L163 : Ctr := (163, c163) :: L217
theorem L163ok : AllOk L163 := .cons ok163 L217ok
def c164 : FC G := FC.sp [.s .vec] fun (a, _) => .bool (vunit a)
theorem ok164 : FcOk Tryz.prog 164 c164 := sp0 L163ok Tryz.func164 (by kernel_rfl) (by kernel_rfl) (by kernel_rfl) fun (a, _) K => by kernel_rfl
def L164 : Ctr := (164, c164) :: L163
theorem L164ok : AllOk L164 := .cons ok164 L163ok
def c165 : FC G := FC.sp [.s .point, .p .point] fun (q, p, _) => .bool (q.ID == p.ID)
theorem ok165 : FcOk Tryz.prog 165 c165 := sp0 L164ok Tryz.func165 (by kernel_rfl) (by kernel_rfl) (by kernel_rfl) fun (q, p, _) K => by kernel_rfl
def L165 : Ctr := (165, c165) :: L164
theorem L165ok : AllOk L165 := .cons ok165 L164ok
def lc191 : LC G := ⟨hdFind, fun vs bs K => match vs, bs with
  | [.rslice .point xs, .func 165 [.rptr cs 0], .int .i64 0, .int .i64 n, .int .i64 i], [] => match decG .point cs with
    | some p => bif i == 0 && (n == (xs.length : Int) && decide (xs.length < 9223372036854775808)) then
      (bif xs.any (fun q => q.ID == p.ID) then K .ret [.rslice .point xs, .func 165 [.rptr cs 0], .int .i64 (xs.findIdx (fun q => q.ID == p.ID) : Nat), .int .i64 n, .int .i64 (xs.findIdx (fun q => q.ID == p.ID) : Nat)] []
       else K (.exit 0) [.rslice .point xs, .func 165 [.rptr cs 0], .int .i64 0, .int .i64 n, .int .i64 (xs.length : Nat)] []) else none
    | none => none
  | _, _ => none⟩
theorem step218 (p : TD .point) (xs : List (TD .point)) (n : Nat) (i : Int) (K) : iter (EV L165 [(2, lc191)]) hdFind (lpBody Tryz.f218 0) (n + 1) [.rslice .point xs, .func 165 [.rptr (encG .point p) 0], .int .i64 0, .int .i64 xs.length, .int .i64 i] [] K =
    bif decide (i < (xs.length : Int)) then (getI xs i).bind fun x => bif (fun q => q.ID == p.ID) x then K .ret [.rslice .point xs, .func 165 [.rptr (encG .point p) 0], .int .i64 i, .int .i64 xs.length, .int .i64 i] [] else
      iter (EV L165 [(2, lc191)]) hdFind (lpBody Tryz.f218 0) n [.rslice .point xs, .func 165 [.rptr (encG .point p) 0], .int .i64 0, .int .i64 xs.length, .int .i64 (IntKind.i64.wrap (i + 1))] [] K
    else K (.exit 0) [.rslice .point xs, .func 165 [.rptr (encG .point p) 0], .int .i64 0, .int .i64 xs.length, .int .i64 i] [] := by kernel_rfl
theorem lp218 : LpOk (EV L165 [(2, lc191)]) [] (lpBody Tryz.f218 0) lc191 := lpOk_of (by kernel_rfl) fun vs bs K o h => by
  simp only [lc191] at h
  split at h
  · rename_i xs cs n i
    split at h
    · rename_i p hq
      obtain ⟨hc, h2⟩ := cond_none h
      simp only [Bool.and_eq_true, beq_iff_eq, decide_eq_true_eq] at hc
      obtain ⟨rfl, rfl, hc⟩ := hc
      have e := decG_inv191 hq
      subst e
      exact ⟨_, (find_loop (F := fun n i => iter (EV L165 [(2, lc191)]) hdFind (lpBody Tryz.f218 0) n [.rslice .point xs, .func 165 [.rptr (encG .point p) 0], .int .i64 0, .int .i64 xs.length, .int .i64 i] [] K) (R := fun i => K .ret [.rslice .point xs, .func 165 [.rptr (encG .point p) 0], .int .i64 i, .int .i64 xs.length, .int .i64 i] []) (X := fun i => K (.exit 0) [.rslice .point xs, .func 165 [.rptr (encG .point p) 0], .int .i64 0, .int .i64 xs.length, .int .i64 i] []) (fun n i => step218 p xs n i K) hc).trans h2⟩
    · cases h
  · cases h
def c218 : FC G := FC.sp [.l .point, .fp 165 .point] fun (xs, p, _) => .int .i64 (bif xs.any (fun q => q.ID == p.ID) then (xs.findIdx (fun q => q.ID == p.ID) : Nat) else -1)
theorem ok218 : FcOk Tryz.prog 218 c218 := sp_wf L165ok Tryz.func218 (by kernel_rfl) [(2, lc191)] (lps1 (i := 2) (by kernel_rfl) rfl lp218) (by kernel_rfl) fun (xs, p, _) ⟨hx, _⟩ K => (show xfn (EV L165 [(2, lc191)]) Tryz.f218 [] (encs [.l .point, .fp 165 .point] (xs, p, ())) [] K = (bif (0 : Int) == 0 && ((xs.length : Int) == (xs.length : Int) && decide (xs.length < 9223372036854775808)) then (bif xs.any (fun q => q.ID == p.ID) then K (.int .i64 (xs.findIdx (fun q => q.ID == p.ID) : Nat)) [] [] else K (.int .i64 (-1)) [] []) else none) from by kernel_rfl).trans (show (bif (0 : Int) == 0 && ((xs.length : Int) == (xs.length : Int) && decide (xs.length < 9223372036854775808)) then (bif xs.any (fun q => q.ID == p.ID) then K (.int .i64 (xs.findIdx (fun q => q.ID == p.ID) : Nat)) [] [] else K (.int .i64 (-1)) [] []) else none) = K (.int .i64 (bif xs.any (fun q => q.ID == p.ID) then (xs.findIdx (fun q => q.ID == p.ID) : Nat) else -1)) [] [] from by have hx : xs.length < 9223372036854775808 := hx; simp only [BEq.rfl, hx, decide_true, Bool.and_self, cond_true]; cases xs.any (fun q => q.ID == p.ID) <;> rfl)
def L218 : Ctr := (218, c218) :: L165
theorem L218ok : AllOk L218 := .cons ok218 L165ok
def c166 : FC G := FC.sp [.l .point, .fp 165 .point] fun (xs, p, _) => .bool (xs.any (fun q => q.ID == p.ID))
theorem ok166 : FcOk Tryz.prog 166 c166 := sp0 L218ok Tryz.func166 (by kernel_rfl) (by kernel_rfl) (by kernel_rfl) fun (xs, p, _) K => (show xfn (EV L218 []) Tryz.f166 [] (encs [.l .point, .fp 165 .point] (xs, p, ())) [] K = (K (.bool (decide ((bif xs.any (fun q => q.ID == p.ID) then ((xs.findIdx (fun q => q.ID == p.ID) : Nat) : Int) else -1) ≥ 0))) [] []) from by kernel_rfl).trans (by rw [idx_ge])
def L166 : Ctr := (166, c166) :: L218
theorem L166ok : AllOk L166 := .cons ok166 L218ok
def hdSame : LH G := ⟨[0, 1, 4, 5], [], []⟩
end Go.SX

/- slices.Clone: whether what comes in is nil or not. No statement of the seat is proved here. -/
namespace Go.SX
open Go.Proofs
set_option maxRecDepth 20000

theorem CallPost.nil_own {cx : Cx} {w w' : World} {v : Value} {c : TC} (h : CallPost cx [] w (.nilslice : RV G) [] [] v w') : CallPost cx [] w (.own 0 c 0 : RV G) [] [.rows c []] v w' := by
  obtain ⟨φr, St', hr, hs, hf, hm, hfr⟩ := h
  cases hr
  refine ⟨fun j => if j = 0 then some ⟨none, 0, 0⟩ else none, St', .own0 rfl, hs, ⟨fun j hj => ?_, fun j x hx => ?_, fun j j' l l' k h1 h2 h3 h4 => ?_⟩, hm, hfr⟩
  · cases j with
    | zero => simp at hj
    | succ j => rfl
  · cases j with
    | zero =>
      simp only [List.getElem?_cons_zero, Option.some.injEq] at hx
      subst hx
      exact ⟨rfl, _, rfl, ⟨rfl, rfl⟩, fun k hk => by cases hk⟩
    | succ j => simp at hx
  · split at h1
    · cases h1; cases h3
    · cases h1

theorem clone_ok {L : Ctr} (hL : AllOk L) {f : Nat} {fn : Func} (hf : Tryz.prog.funcs[f]? = some fn) (ho : fnOK fn = true) (hl : loops (bodyD fn) = []) (hn : Nat.ble 1 fn.ntmps = true) {c : TC} {b : Nat}
    (e1 : ∀ x r K, xfn (EV L []) fn [] [.rslice c (x :: r)] [] K = bif decide ((x :: r).length * b ≤ 2 ^ 47) then K (.own 0 c (x :: r).length) [] [.rows c (x :: r)] else none)
    (e2 : ∀ K, xfn (EV L []) fn [] [.nilslice] [] K = K .nilslice [] []) (e3 : ∀ K, xfn (EV L []) fn [] [.eslice] [] K = bif decide (0 * b ≤ 2 ^ 47) then K (.own 0 c 0) [] [.rows c []] else none) :
    FcOk Tryz.prog f (FC.rn [.l c] fun (xs, _) K => bif decide (xs.length * b ≤ 2 ^ 47) then K (.own 0 c xs.length) [] [.rows c xs] else none) where
  pure _ _ h := by cases h
  run vs bs K o hr := by
    simp only [FC.rn, FC.ofRun] at hr
    split at hr
    · rename_i x hx
      obtain ⟨xs, ⟨⟩⟩ := x
      obtain ⟨o1, o2, o3⟩ := fnOK_spec ho
      have hn' := Nat.le_of_ble_eq_true hn
      have m2 : muIds [] vs = [] := by simp [muIds, mutsOf_nil]
      obtain ⟨hb, hr⟩ := cond_none hr
      have go : ∀ (a : RV G) (r : RV G) (bs' fr : List (Blk G)), xfn (EV L []) fn [] [a] [] (fun r bs fr => some (r, bs, fr)) = some (r, bs', fr) → ∀ (cx : Cx) (w : World) (us : Array Value), ArgsRel cx.φ cx.St us [a] → Inv w.heap.size (Mof cx []) cx (startM [] []) w → CallsTo Tryz.prog f us w (CallPost cx [] w r bs' fr) := fun a r bs' fr hx cx w us ha hi => by
        obtain ⟨r1, b1, f1, h1, h2⟩ := fn_ok (EV_ok hL []) mixed hf o1 o2 o3 (.none hl) (by exact hn') (by simp [muIds, mutsOf_nil]) hx
        cases h1
        exact h2 cx w us [] (by simp [muIds, mutsOf_nil]) rfl ha (fun x hx => by simp at hx) hi
      refine ⟨_, _, _, hr, fun cx w us ids hids hl ha hal hi => ?_⟩
      have : ids = [] := by rw [hids]; exact m2
      subst this
      have hb0 : bs = [] := by cases bs with
        | nil => rfl
        | cons _ _ => simp at hl
      subst hb0
      have ha1 := decs'_rel hx ha
      cases xs with
      | cons x r => exact go (.rslice c (x :: r)) _ _ _ ((e1 x r _).trans (by rw [show decide ((x :: r).length * b ≤ 2 ^ 47) = true from hb]; rfl)) cx w us ha1 hi
      | nil =>
        obtain ⟨v, rfl, hv⟩ := ha1.one
        have mk : ∀ a : RV G, RVal cx.φ cx.St v a → ArgsRel cx.φ cx.St #[v] [a] := fun a h => ⟨rfl, fun j u r hu hr => by
          cases j with
          | zero => cases hu; cases hr; exact h
          | succ j => simp at hr⟩
        have hsplit : RVal cx.φ cx.St v (.nilslice : RV G) ∨ RVal cx.φ cx.St v (.eslice : RV G) := by
          cases hv with
          | rslice hn' hk hc => cases hn'; exact .inr .eslice
          | @rslice0 _ a cap h0 => cases a with
            | none => rw [h0 rfl]; exact .inl .nilslice
            | some a => exact .inr .eslice
        rcases hsplit with h | h
        · exact (go _ _ _ _ (e2 _) cx w _ (mk _ h) hi).mono fun v w' hp => hp.nil_own
        · exact go _ _ _ _ (by rw [e3, Nat.zero_mul]; rfl) cx w _ (mk _ h) hi
    · cases hr

end Go.SX

/- PRINTED BY A PROGRAM OF THIS SEAT: contracts, batch j: touches held against each other. No statement of the seat is proved here. -/
namespace Go.SX
open Go.Proofs
set_option maxRecDepth 20000
def touchOwn (t : GTouch) (n : Nat) : RV G := .agg [.int .i64 t.Pair.A, .int .i64 t.Pair.PartA, .int .i64 t.Pair.B, .int .i64 t.Pair.PartB, .bool t.Sensor, .flt t.Normal.X, .flt t.Normal.Y, .own 0 .point n]
end Go.SX

/- touch.Check and the reference's. No statement of the seat is proved here. -/
namespace Go.SX
open Go.Proofs
set_option maxRecDepth 20000

/-! ### bounds, by the sign and without -/
theorem neg_fabs (a : Nat) : neg? (fabs a) = false ∧ rung (fabs a) = rung a := by
  have : fabs a < 9223372036854775808 := by unfold fabs; omega
  refine ⟨by unfold neg?; rw [Nat.div_eq_of_lt this]; rfl, by unfold rung fabs; omega⟩
theorem isNan_fabs (a : Nat) : isNan (fabs a) = isNan a := by rw [isNan_rung, isNan_rung, (neg_fabs a).2]
theorem val_fabs (a : Nat) : val (fabs a) = (mg (rung a) : Int) := by unfold val; rw [(neg_fabs a).1, (neg_fabs a).2]; rfl
theorem val_cases (a : Nat) : val a = (mg (rung a) : Int) ∨ val a = -(mg (rung a) : Int) := by
  unfold val sg
  split
  · exact .inr rfl
  · exact .inl rfl
theorem within_abs {a m : Nat} (h1 : isNan m = false) (h2 : isNan (fneg m) = false) (h3 : val (fneg m) = -val m) : fwithin a m = fawithin a m := by
  unfold fwithin fawithin
  cases h : isNan a with
  | true => rw [fle_nan (.inr h), fle_nan (.inl ((isNan_fabs a).trans h))]; rfl
  | false =>
    rw [fle_val h2 h, fle_val h h1, fle_val ((isNan_fabs a).trans h) h1, val_fabs, h3, Bool.eq_iff_iff]
    simp only [Bool.and_eq_true, decide_eq_true_eq]
    have := val_cases a
    omega
theorem within_far (a : Nat) : fwithin a 4796333603149578240 = fawithin a 4796333603149578240 := within_abs (by decide) (by decide) (by decide)
theorem within_max (a : Nat) : fwithin a 4787326403894837248 = fawithin a 4787326403894837248 := within_abs (by decide) (by decide) (by decide)
theorem within_two (a : Nat) : fwithin a 4611686018427387904 = fawithin a 4611686018427387904 := within_abs (by decide) (by decide) (by decide)
theorem within_low (a : Nat) : (fwithin a 4796333603149578240 && !flt a 0) = (fle 0 a && fle a 4796333603149578240) := by
  have h0 : isNan 0 = false := by decide
  have h1 : isNan 4796333603149578240 = false := by decide
  have h2 : isNan (fneg 4796333603149578240) = false := by decide
  have h3 : val (fneg 4796333603149578240) = -val 4796333603149578240 := by decide
  have h4 : 0 ≤ val 4796333603149578240 := by decide
  have h5 : val 0 = 0 := by decide
  unfold fwithin
  cases h : isNan a with
  | true => rw [fle_nan (.inr h), fle_nan (.inr h)]; rfl
  | false =>
    rw [fle_val h2 h, fle_val h h1, fle_val h0 h, flt_val h h0, h3, h5, Bool.eq_iff_iff]
    simp only [Bool.and_eq_true, decide_eq_true_eq, Bool.not_eq_true', decide_eq_false_iff_not]
    omega

/-! ### touch.Check -/
def hd81 : LH G := ⟨[1, 2, 35, 36, 37], [], [1]⟩
def W81 (t : GTouch) (e i : Int) : List (RV G) := [.ptr 1 0 0 0, .int .i64 e, .rslice .point t.Points, .int .i64 t.Points.length, .int .i64 i]
def B81 (t : GTouch) : List (Blk G) := [.cells (encG .touch t)]
def OUT81 (t : GTouch) (K : XE → List (RV G) → List (Blk G) → Ans G) : Ans G :=
  bif (List.range t.Points.length).any (badAt t.Points) then K .ret (W81 t 2 ((List.range t.Points.length).findIdx (badAt t.Points) : Nat)) (B81 t) else K (.exit 0) (W81 t 0 (t.Points.length : Nat)) (B81 t)
noncomputable def E81 (t : GTouch) : List (Nat × LC G) := [(4, lcOf hd81 (W81 t 0 0) (B81 t) (OUT81 t))]
theorem step81 (t : GTouch) (n : Nat) (i : Int) (K) : iter (EV L166 (E81 t)) hd81 (lpBody Tryz.f81 0) (n + 1) (W81 t 0 i) (B81 t) K = bif decide (i < (t.Points.length : Int)) then (getI t.Points i).bind fun p =>
    bif ((((!vwithin p.At 4796333603149578240 || !fwithin p.Depth 4796333603149578240) || flt p.Depth 0) || !fwithin p.Push 4787326403894837248) || !fwithin p.Drag 4787326403894837248) then K .ret (W81 t 2 i) (B81 t)
    else bif decide (0 ≤ i ∧ i ≤ (t.Points.length : Int)) then
      bif (false || (t.Points.take i.toNat).any fun q => q.ID == p.ID) then K .ret (W81 t 2 i) (B81 t) else iter (EV L166 (E81 t)) hd81 (lpBody Tryz.f81 0) n (W81 t 0 (IntKind.i64.wrap (i + 1))) (B81 t) K
    else none
  else K (.exit 0) (W81 t 0 i) (B81 t) := by kernel_rfl
theorem lp81 (t : GTouch) (hx : t.Points.length < 9223372036854775808) : LpOk (EV L166 (E81 t)) [] (lpBody Tryz.f81 0) (lcOf hd81 (W81 t 0 0) (B81 t) (OUT81 t)) := lcOf_ok (by kernel_rfl) fun K => ⟨_, idx_loop (N := t.Points.length) (p := badAt t.Points)
  (F := fun n i => iter (EV L166 (E81 t)) hd81 (lpBody Tryz.f81 0) n (W81 t 0 i) (B81 t) K) (R := fun i => K .ret (W81 t 2 i) (B81 t)) (X := fun i => K (.exit 0) (W81 t 0 i) (B81 t))
  (fun n i hi => by
    rw [step81, decide_eq_true (show (i : Int) < (t.Points.length : Int) by omega), cond_true]
    simp only [getI_at hi, Option.bind_some, wrap_succ (show i + 1 < 9223372036854775808 by omega)]
    rw [decide_eq_true (show 0 ≤ (i : Int) ∧ (i : Int) ≤ (t.Points.length : Int) by omega), cond_true, Int.toNat_natCast]
    unfold badAt twiceAt
    simp only [List.getD_eq_getElem?_getD, List.getElem?_eq_getElem hi, Option.getD_some]
    generalize t.Points[i] = p
    generalize (List.take i t.Points).any (fun q => q.ID == p.ID) = z
    unfold pointOk
    cases vwithin p.At 4796333603149578240 <;> cases fwithin p.Depth 4796333603149578240 <;> cases flt p.Depth 0 <;> cases fwithin p.Push 4787326403894837248 <;> cases fwithin p.Drag 4787326403894837248 <;> cases z <;> rfl)
  (fun n => by rw [step81, decide_eq_false (by omega)]; rfl)⟩
def c81 : FC G := FC.sp [.s .touch] fun (t, _) => .int .i64 (tcheck t)
theorem x81 (t : GTouch) (K) : xfn (EV L166 (E81 t)) Tryz.f81 [] (encs [.s .touch] (t, ())) [] K = K (.int .i64 (tcheck t)) [] [] :=
  (show _ = (bif ((((!pairOk t.Pair || !vunit t.Normal) || !vwithin t.Normal 4611686018427387904) || ((t.Points.length : Int) == 0)) || decide ((t.Points.length : Int) > 8)) then K (.int .i64 2) [] [] else
    gate (W81 t 0 0 = W81 t 0 0 ∧ B81 t = B81 t) (bif (List.range t.Points.length).any (badAt t.Points) then K (.int .i64 2) [] [] else K (.int .i64 0) [] [])) from by kernel_rfl).trans (by
  rw [gate_pos ⟨rfl, rfl⟩]
  have e1 : ((t.Points.length : Int) == 0) = !decide (0 < t.Points.length) := by rw [Bool.eq_iff_iff]; simp only [beq_iff_eq, Bool.not_eq_true', decide_eq_false_iff_not]; omega
  have e2 : decide ((t.Points.length : Int) > 8) = !decide (t.Points.length ≤ 8) := by rw [Bool.eq_iff_iff]; simp only [decide_eq_true_eq, Bool.not_eq_true', decide_eq_false_iff_not]; omega
  rw [e1, e2]
  unfold tcheck headOk
  cases pairOk t.Pair <;> cases vunit t.Normal <;> cases vwithin t.Normal 4611686018427387904 <;> cases decide (0 < t.Points.length) <;> cases decide (t.Points.length ≤ 8) <;> cases (List.range t.Points.length).any (badAt t.Points) <;> rfl)
theorem ok81 : FcOk Tryz.prog 81 c81 := sp_lp L166ok Tryz.func81 (by kernel_rfl) (by kernel_rfl) fun (t, _) ⟨hx, _⟩ => ⟨E81 t, lps1 (i := 4) (by kernel_rfl) rfl (lp81 t hx), fun K => x81 t K⟩
def L81 : Ctr := (81, c81) :: L166
theorem L81ok : AllOk L81 := .cons ok81 L166ok

/-! ### the reference's Check: a loop in a loop -/
theorem any_take {α : Type} (d : α) (p : α → Bool) : ∀ (l : List α) (i : Nat), i ≤ l.length → (List.range i).any (fun k => p (l.getD k d)) = (l.take i).any p := by
  intro l i hi
  rw [Bool.eq_iff_iff]
  simp only [List.any_eq_true, List.mem_range]
  constructor
  · rintro ⟨k, hk, hp⟩
    refine ⟨l[k]'(by omega), ?_, ?_⟩
    · rw [List.mem_take_iff_getElem]
      exact ⟨k, by omega, rfl⟩
    · rw [List.getD_eq_getElem?_getD, List.getElem?_eq_getElem (by omega)] at hp
      exact hp
  · rintro ⟨x, hx, hp⟩
    rw [List.mem_take_iff_getElem] at hx
    obtain ⟨k, hk, rfl⟩ := hx
    exact ⟨k, by omega, by rw [List.getD_eq_getElem?_getD, List.getElem?_eq_getElem (by omega)]; exact hp⟩

def VI (e i j : Int) : List (RV G) := [.ptr 1 0 0 0, .int .i64 e, .int .i64 i, .ptr 7 0 0 0, .int .i64 j]
def BI (t : GTouch) (p : GPoint) : List (Blk G) := [.cells (encG .touch t), .cells (encG .point p)]
def sameId (t : GTouch) (p : GPoint) (k : Nat) : Bool := (t.Points.getD k point0).ID == p.ID
def OUTI (t : GTouch) (p : GPoint) (i : Int) (K : XE → List (RV G) → List (Blk G) → Ans G) : Ans G :=
  bif (List.range i.toNat).any (sameId t p) then K .ret (VI 2 i ((List.range i.toNat).findIdx (sameId t p) : Nat)) (BI t p) else K (.exit 2) (VI 0 i (i.toNat : Nat)) (BI t p)
def badR (t : GTouch) (i : Nat) : Bool := ((!vawithin (t.Points.getD i point0).At 4796333603149578240 || !(fawithin (t.Points.getD i point0).Push 4787326403894837248 && fawithin (t.Points.getD i point0).Drag 4787326403894837248)) || !(fle 0 (t.Points.getD i point0).Depth && fle (t.Points.getD i point0).Depth 4796333603149578240)) || (List.range i).any (sameId t (t.Points.getD i point0))
theorem pointOk_ref (p : GPoint) : pointOk p = ((vawithin p.At 4796333603149578240 && (fawithin p.Push 4787326403894837248 && fawithin p.Drag 4787326403894837248)) && (fle 0 p.Depth && fle p.Depth 4796333603149578240)) := by
  unfold pointOk vwithin vawithin
  rw [← within_low, within_max, within_max, within_far, within_far, within_far]
  ac_rfl
theorem badR_eq (t : GTouch) {i : Nat} (hi : i < t.Points.length) : badR t i = badAt t.Points i := by
  unfold badR badAt twiceAt sameId
  rw [pointOk_ref, any_take (d := point0) (p := fun q : GPoint => q.ID == (t.Points.getD i point0).ID) t.Points i (by omega)]
  generalize t.Points.getD i point0 = p
  cases vawithin p.At 4796333603149578240 <;> cases fawithin p.Push 4787326403894837248 <;> cases fawithin p.Drag 4787326403894837248 <;> cases fle 0 p.Depth <;> cases fle p.Depth 4796333603149578240 <;> rfl
theorem any_range_congr {n : Nat} {p q : Nat → Bool} (h : ∀ i, i < n → p i = q i) : (List.range n).any p = (List.range n).any q := by
  rw [Bool.eq_iff_iff]
  simp only [List.any_eq_true, List.mem_range]
  exact ⟨fun ⟨i, hi, hp⟩ => ⟨i, hi, (h i hi) ▸ hp⟩, fun ⟨i, hi, hp⟩ => ⟨i, hi, (h i hi).symm ▸ hp⟩⟩
end Go.SX

/- Keep, of the program and of the reference. No statement of the seat is proved here. -/
namespace Go.SX
open Go.Proofs
set_option maxRecDepth 20000

/-- Rounds that carry a state. -/
theorem fold_loop {β σ : Type} {N : Nat} {g : σ → Nat → σ} {F : Nat → Int → σ → Option β} {X : σ → Option β} {s0 : σ} (I : Nat → σ → Prop) (h0 : I 0 s0)
    (hs : ∀ n i s, i < N → I i s → F (n + 1) (i : Int) s = F n ((i + 1 : Nat) : Int) (g s i)) (hI : ∀ i s, i < N → I i s → I (i + 1) (g s i)) (hx : ∀ n s, I N s → F (n + 1) (N : Int) s = X s) :
    F (N + 1) 0 s0 = X ((List.range N).foldl g s0) := by
  have main : ∀ d i s, i + d = N → I i s → F (d + 1) (i : Int) s = X ((List.range' i d).foldl g s) := by
    intro d
    induction d with
    | zero =>
      intro i s hi h
      have : i = N := by omega
      subst this
      rw [hx _ _ h]
      rfl
    | succ d ih =>
      intro i s hi h
      rw [hs _ _ _ (by omega) h, ih (i + 1) _ (by omega) (hI _ _ (by omega) h)]
      rw [List.range'_succ]
      rfl
  have := main N 0 s0 (by omega) h0
  rw [List.range_eq_range']
  simpa using this
theorem fold_inv {σ : Type} {N : Nat} {g : σ → Nat → σ} (P : σ → Prop) (hI : ∀ i s, i < N → P s → P (g s i)) {s0 : σ} (h0 : P s0) : P ((List.range N).foldl g s0) := by
  induction N with
  | zero => exact h0
  | succ N ih =>
    rw [List.range_succ, List.foldl_append]
    exact hI N _ (by omega) (ih fun i s hi => hI i s (by omega))
/-- The point of a touch with the impulses of its two rows. -/
def keptAt (rows : List GRow) (ps : List GPoint) (i : Nat) : GPoint := { ps.getD i point0 with Push := freal (rows.getD (2 * i + 1) row0).Push, Drag := freal (rows.getD (2 * i) row0).Push }
def keepN (rows : List GRow) (N : Nat) (ps : List GPoint) : List GPoint := (List.range N).foldl (fun s i => s.set i (keptAt rows s i)) ps
def cells2 (t : GTouch) (n : Nat) : List (RV G) := [.int .i64 t.Pair.A, .int .i64 t.Pair.PartA, .int .i64 t.Pair.B, .int .i64 t.Pair.PartB, .bool t.Sensor, .flt t.Normal.X, .flt t.Normal.Y, .own 4125 .point n]
def cells0 : List (RV G) := [.int .i64 0, .int .i64 0, .int .i64 0, .int .i64 0, .bool false, .flt 0, .flt 0, .nilslice]
theorem keepN_len (rows : List GRow) (N : Nat) (ps : List GPoint) : (keepN rows N ps).length = ps.length :=
  fold_inv (P := fun s : List GPoint => s.length = ps.length) (fun i s _ h => by rw [List.length_set]; exact h) rfl
def keepWant (t : GTouch) : Int := bif t.Sensor then 0 else 2 * (t.Points.length : Int)
def cellsK (t : GTouch) (n : Nat) : List (RV G) := [.int .i64 t.Pair.A, .int .i64 t.Pair.PartA, .int .i64 t.Pair.B, .int .i64 t.Pair.PartB, .bool t.Sensor, .flt t.Normal.X, .flt t.Normal.Y, .own 0 .point n]
def runKeep (t : GTouch) (rows : List GRow) (K : RV G → List (Blk G) → List (Blk G) → Ans G) : Ans G :=
  bif tcheck t != 0 then K (.tuple [.agg cells0, .int .i64 (tcheck t)]) [] [] else bif (rows.length : Int) != keepWant t then K (.tuple [.agg cells0, .int .i64 200]) [] []
  else K (.tuple [.agg (cellsK t (keepN rows (keepWant t / 2).toNat t.Points).length), .int .i64 0]) [] [.rows .point (keepN rows (keepWant t / 2).toNat t.Points)]
theorem tcheck_ok {t : GTouch} (h : tcheck t = 0) : 0 < t.Points.length ∧ t.Points.length ≤ 8 := by
  unfold tcheck headOk at h
  cases h1 : decide (0 < t.Points.length) with
  | false => rw [h1] at h; simp at h
  | true => cases h2 : decide (t.Points.length ≤ 8) with
    | false => rw [h2] at h; simp at h
    | true => exact ⟨of_decide_eq_true h1, of_decide_eq_true h2⟩
noncomputable def G17 (t : GTouch) (rows : List GRow) (N : Int) (K : RV G → List (Blk G) → List (Blk G) → Ans G) : Ans G :=
  bif decide (t.Points.length * 48 ≤ 2 ^ 47) then gate (rows = rows ∧ (0 : Int) = 0 ∧ 0 ≤ N ∧ N ≤ (t.Points.length : Int) ∧ 2 * N ≤ (rows.length : Int) ∧ cells2 t t.Points.length = cells2 t t.Points.length ∧ cells0 = cells0 ∧ t.Points.length < 1000 ∧ rows.length < 1000)
    (K (.tuple [.agg (cellsK t (keepN rows N.toNat t.Points).length), .int .i64 0]) [] [.rows .point (keepN rows N.toNat t.Points)]) else none
theorem runKeep_K (t : GTouch) (rows : List GRow) (K) (o) (h : runKeep t rows K = some o) : ∃ r bs fr, K r bs fr = some o := by
  unfold runKeep at h
  cases h1 : tcheck t != 0 with
  | true => rw [h1] at h; exact ⟨_, _, _, h⟩
  | false => cases h2 : (rows.length : Int) != keepWant t with
    | true => rw [h1, h2] at h; exact ⟨_, _, _, h⟩
    | false => rw [h1, h2] at h; exact ⟨_, _, _, h⟩
end Go.SX

/- The reference's Keep; what the law lends and holds against. No statement of the seat is proved here. -/
namespace Go.SX
open Go.Proofs
set_option maxRecDepth 20000
def cells8 (t : GTouch) (n : Nat) : List (RV G) := [.int .i64 t.Pair.A, .int .i64 t.Pair.PartA, .int .i64 t.Pair.B, .int .i64 t.Pair.PartB, .bool t.Sensor, .flt t.Normal.X, .flt t.Normal.Y, .own 4124 .point n]
noncomputable def G18 (t : GTouch) (rows : List GRow) (want : Int) (K : RV G → List (Blk G) → List (Blk G) → Ans G) : Ans G :=
  bif decide (t.Points.length * 48 ≤ 2 ^ 47) then gate (rows = rows ∧ (0 : Int) = 0 ∧ 0 ≤ want ∧ want / 2 ≤ (t.Points.length : Int) ∧ want ≤ (rows.length : Int) ∧ cells0 = cells0 ∧ cells8 t t.Points.length = cells8 t t.Points.length ∧ t.Points.length < 1000 ∧ rows.length < 1000)
    (K (.tuple [.agg (cellsK t (keepN rows (want / 2).toNat t.Points).length), .int .i64 0]) [] [.rows .point (keepN rows (want / 2).toNat t.Points)]) else none
/-! ### lent, and back -/
def mark : GPoint := ⟨⟨0, 0⟩, 0, 77, 0, 0⟩
def cellsS (t : GTouch) (n : Nat) : List (RV G) := [.int .i64 t.Pair.A, .int .i64 t.Pair.PartA, .int .i64 t.Pair.B, .int .i64 t.Pair.PartB, .bool t.Sensor, .flt t.Normal.X, .flt t.Normal.Y, .slice 0 .point 0 n]
end Go.SX

/- The law RowKeeps: what it lends, what it holds against each other. No statement of the seat is proved here. -/
namespace Go.SX
open Go.Proofs
set_option maxRecDepth 20000

/-- A contract that answers less often. -/
theorem FcOk.sub {f : Nat} {fc fc' : FC G} (h : FcOk Tryz.prog f fc) (hm : fc'.mu = fc.mu) (hp : ∀ a, fc'.pure a = none) (hr : ∀ a bs K o, fc'.run a bs K = some o → fc.run a bs K = some o) : FcOk Tryz.prog f fc' where
  pure a r e := by rw [hp] at e; cases e
  run a bs K o e := by
    obtain ⟨r, bs', fr, h1, h2⟩ := h.run a bs K o (hr a bs K o e)
    exact ⟨r, bs', fr, h1, fun cx w vs ids hids => h2 cx w vs ids (by rw [← hm]; exact hids)⟩

/-- A contract told for one input. -/
noncomputable def FC.at (ks : List AK) (x0 : dens ks) (r : RV G) (fr : List (Blk G)) : FC G := FC.rn ks fun x K => gate (x = x0) (K r [] fr)
theorem at_ok {f : Nat} {ks : List AK} {run : dens ks → (RV G → List (Blk G) → List (Blk G) → Ans G) → Ans G} (h : FcOk Tryz.prog f (FC.rn ks run)) {x0 : dens ks} {r : RV G} {fr : List (Blk G)} (hr : ∀ K, run x0 K = K r [] fr) : FcOk Tryz.prog f (FC.at ks x0 r fr) :=
  h.sub rfl (fun _ => rfl) fun a bs K o e => by
    simp only [FC.at, FC.rn, FC.ofRun] at e ⊢
    split at e
    · obtain ⟨hx, e2⟩ := gate_some e
      subst hx
      rw [hr]
      exact e2
    · cases e

section
variable {f : Nat} {fn : Func} (hf : Tryz.prog.funcs[f]? = some fn) (ho : fnOK fn = true)
include hf ho
/-- A contract proved input by input, each with contracts and loops of its own. -/
theorem sp_any {ks : List AK} {res : dens ks → RV G} (hn : Nat.ble ks.length fn.ntmps = true)
    (h : ∀ (x : dens ks), wfs ks x → ∃ L lp, AllOk L ∧ LpsOk (EV L lp) [] (bodyD fn) ∧ ∀ K, xfn (EV L lp) fn [] (encs ks x) [] K = K (res x) [] []) : FcOk Tryz.prog f (FC.sp ks res) where
  pure vs r hr K := by
    simp only [FC.sp, FC.ofPure] at hr ⊢
    split at hr
    · cases hr; rfl
    · cases hr
  run vs bs K o hr := by
    simp only [FC.sp, FC.ofPure] at hr
    split at hr
    · rename_i r hr'
      split at hr'
      · rename_i x hx
        cases hr'
        by_cases hw : wfs ks x
        · obtain ⟨L, lp, hL, hlp, h⟩ := h x hw
          have h1 : FcOk Tryz.prog f (FC.at ks x (res x) []) := rn_ok hL hf ho lp hlp hn fun y K o hk => by
            obtain ⟨rfl, hk⟩ := gate_some hk
            rw [h]
            exact hk
          refine h1.run vs bs K o ?_
          simp only [FC.at, FC.rn, FC.ofRun, hx]
          rw [gate_pos trivial]
          exact hr
        · refine ⟨_, _, _, hr, fun cx w us ids hids hl ha hal hi => absurd ?_ hw⟩
          obtain ⟨g1, g2⟩ := decs'_rel hx ha
          exact wfs_rel (vs := us.toList) (by rw [Array.length_toList, g1, encs_len]) fun j u r hu hr => g2 j u r (by simpa using hu) hr
      · cases hr'
    · cases hr
end

/-! ### lent -/
/-! ### what is the same as itself -/
theorem fis_self (x : Nat) : fis x x = true := by simp [fis]
theorem vsame_self (a : GVec) : vsame a a = true := by simp [vsame, fis_self]
theorem psame_self (p : GPoint) : psame p p = true := by simp [psame, fis_self, vsame_self]
theorem rsame_self (r : GRow) : rsame r r = true := by simp [rsame, fis_self, vsame_self]
theorem lsame_self {α : Type} {same : α → α → Bool} (h : ∀ x, same x x = true) (xs : List α) : lsame same xs xs = true := by
  unfold lsame
  simp only [BEq.rfl, Bool.true_and, List.all_eq_true, id_eq]
  intro b hb
  obtain ⟨i, hi⟩ := List.mem_iff_getElem?.1 hb
  rw [List.getElem?_zipWith] at hi
  cases hx : xs[i]? with
  | none => rw [hx] at hi; simp at hi
  | some x =>
    rw [hx] at hi
    simp only [Option.some.injEq] at hi
    rw [← hi]
    exact h x
theorem tsame_self (t : GTouch) : tsame t t = true := by simp [tsame, vsame_self, lsame_self psame_self, pairEq]

/-! ### the law -/
/-- What Keep comes to, with the rows that it makes. -/
inductive KeepRes where
  | fails (e : Int)
  | keeps (ps : List GPoint)
def KeepRes.r (t : GTouch) : KeepRes → RV G
  | .fails e => .tuple [.agg cells0, .int .i64 e]
  | .keeps ps => .tuple [.agg (cellsK t ps.length), .int .i64 0]
def KeepRes.fr : KeepRes → List (Blk G)
  | .fails _ => []
  | .keeps ps => [.rows .point ps]
theorem runKeep_res (t : GTouch) (rows : List GRow) : ∃ q : KeepRes, (∀ ps, q = .keeps ps → ps.length = t.Points.length) ∧ ∀ K, runKeep t rows K = K (q.r t) [] q.fr := by
  unfold runKeep
  cases h1 : tcheck t != 0 with
  | true => exact ⟨.fails (tcheck t), fun ps h => (by cases h), fun K => rfl⟩
  | false => cases h2 : (rows.length : Int) != keepWant t with
    | true => exact ⟨.fails 200, fun ps h => (by cases h), fun K => rfl⟩
    | false => exact ⟨.keeps _, fun ps h => (by cases h; exact keepN_len _ _ _), fun K => rfl⟩
def lentT (t : GTouch) : GTouch := { t with Points := ((t.Points ++ [mark]).drop 0).take t.Points.length }
theorem lentT_eq (t : GTouch) : lentT t = t := by unfold lentT; simp

noncomputable def cLent (t : GTouch) : FC G := FC.at [.s .touch] (t, ()) (.agg (cellsS t t.Points.length)) [.rows .point (t.Points ++ [mark])]
noncomputable def cKeep (t : GTouch) (l : List GRow) (q : KeepRes) : FC G := FC.at [.s .touch, .l .row] (t, l, ()) (q.r t) q.fr
noncomputable def cBack (t : GTouch) : FC G := FC.at [.tc, .s .touch] (({ t with Points := t.Points ++ [mark] }, t.Points.length), t, ()) (.bool true) []
noncomputable def LK (t : GTouch) (l : List GRow) (q : KeepRes) : Ctr := (16, cLent t) :: (20, cBack t) :: (17, cKeep t l q) :: (18, cKeep t l q) :: L81
end Go.SX

/- What the functions of 'solve' and of its reference come to; a float that is finite. No statement of the seat is proved here. -/
namespace Go.SX
open Ieee

theorem signed_self (s : Bool) (m k : Nat) : signed s m k + signed (!s) m k = 0 := by
  rw [signed_sg, signed_sg]
  unfold sg
  cases s <;> simp <;> omega
theorem fsub_self {x : Nat} (h : rung x < 9218868437227405312) : fsub x x = 0 := by
  obtain ⟨m, k, e, _⟩ := read_fin h
  unfold fsub Format.sub
  rw [e]
  simp only [Datum.opposite, Datum.sum, Int.min_self, Int.sub_self, Int.toNat_zero, signed_self, if_true, Option.map_some, Option.getD_some, Int.natAbs_zero]
  cases neg? x <;> rfl
theorem ffin_rung (x : Nat) : ffin x = decide (rung x < 9218868437227405312) := by
  unfold ffin
  by_cases h : rung x < 9218868437227405312
  · rw [fsub_self h, decide_eq_true h]
    decide
  · rw [decide_eq_false h]
    have e : fsub x x = qnan := by
      unfold fsub Format.sub
      rw [read_eq, if_neg (by omega), if_neg h]
      split
      · simp only [Datum.opposite, Datum.sum]
        cases neg? x <;> rfl
      · rfl
    rw [e]
    exact feq_nan (.inl isNan_qnan)
/-- A float that is a number, finite, and not below nought. -/
def fpos (x : Nat) : Bool := ffin x && fle 0 x
theorem fpos_max (x : Nat) : fpos x = (fle 0 x && fle x 9218868437227405311) := by
  unfold fpos
  rw [ffin_rung]
  have h0 : isNan 0 = false := by decide
  have h1 : isNan 9218868437227405311 = false := by decide
  have v0 : val 0 = 0 := by decide
  have v1 : val 9218868437227405311 = (mg 9218868437227405311 : Int) := (val_pos (by decide)).1
  cases h : isNan x with
  | true => rw [fle_nan (.inr h), fle_nan (.inl h)]; simp
  | false =>
    rw [fle_val h0 h, fle_val h h1, v0, v1, Bool.eq_iff_iff]
    simp only [Bool.and_eq_true, decide_eq_true_eq]
    have hr : rung x ≤ 9218868437227405312 := by rw [isNan_rung, decide_eq_false_iff_not] at h; omega
    have hc : val x = (mg (rung x) : Int) ∨ val x = -(mg (rung x) : Int) := by
      unfold val sg
      split
      · exact .inr rfl
      · exact .inl rfl
    have hm := mg_lt_iff (r := rung x) (s := 9218868437227405312)
    have hs : mg 9218868437227405312 > mg 9218868437227405311 := mg_lt (by decide)
    have hi := mg_lt_iff (r := 9218868437227405311) (s := rung x)
    have hz := mg_zero (r := rung x)
    constructor
    · rintro ⟨a, b⟩
      refine ⟨b, ?_⟩
      rcases hc with hc | hc <;> omega
    · rintro ⟨a, b⟩
      refine ⟨?_, a⟩
      rcases hc with hc | hc <;> omega

/-! ### solve -/
def smay (s : GStill) : Bool := ((ffin s.Mass && fle 0 s.Mass) && ffin s.Inertia) && fle 0 s.Inertia
def rbad (n m : Int) (r : GRow) : Bool := rcheck r n m != 0
def sasked (rows : List GRow) (bodies : List GStill) : Int :=
  bif decide ((rows.length : Int) > 1048576) || decide ((bodies.length : Int) > 1024) then 4
  else bif rows.any (rbad rows.length bodies.length) then 200 else bif bodies.any (fun s => !smay s) then 200 else 0
def getR (l : List GRow) (i : Nat) : GRow := l.getD i row0
def getS (l : List GStill) (i : Int) : GStill := l.getD i.toNat still0
/-- A row's ends, of the row that it hangs on. -/
def endsOf (l : List GRow) (i : Nat) : GRow :=
  bif decide ((getR l i).Of ≥ 0) then
    { getR l i with Low := fsub 0 (bif !flt 0 (fmul (getR l i).Ratio (getR l (getR l i).Of.toNat).Push) then 0 else fmul (getR l i).Ratio (getR l (getR l i).Of.toNat).Push),
                    High := bif !flt 0 (fmul (getR l i).Ratio (getR l (getR l i).Of.toNat).Push) then 0 else fmul (getR l i).Ratio (getR l (getR l i).Of.toNat).Push }
  else getR l i
/-- One row's turn: the rows, the stills. -/
def turn1 (q : List GRow × List GStill) (i : Nat) : List GRow × List GStill :=
  let x := endsOf q.1 i
  let a := getS q.2 x.A
  let b := getS q.2 x.B
  bif rok x a b then (q.1.set i (rone x a b), (q.2.set x.A.toNat (roneA x a b)).set x.B.toNat (roneB x a b)) else (q.1.set i x, q.2)
def warm1 (l : List GRow) (s : List GStill) (i : Nat) : List GStill :=
  (s.set (getR l i).A.toNat (rwarmA (getR l i) (getS s (getR l i).A) (getS s (getR l i).B))).set (getR l i).B.toNat (rwarmB (getR l i) (getS s (getR l i).A) (getS s (getR l i).B))
def warmAll (l : List GRow) (s : List GStill) : List GStill := (List.range l.length).foldl (warm1 l) s
def round1 (q : List GRow × List GStill) : List GRow × List GStill := (List.range q.1.length).foldl turn1 q
def rounds (n : Nat) (q : List GRow × List GStill) : List GRow × List GStill := (List.range n).foldl (fun q _ => round1 q) q
def solved (l : List GRow) (s : List GStill) (n : Nat) : List GRow × List GStill := rounds n (l, warmAll l s)
end Go.SX

/- PRINTED BY A PROGRAM OF THIS SEAT: contracts, batch Ja: masses. No statement of the seat is proved here. -/
namespace Go.SX
open Go.Proofs
set_option maxRecDepth 20000
/-- Contracts of one function, each for its own kinds of arguments. -/
def FC.alt {ks : List AK} (run : dens ks → (RV G → List (Blk G) → List (Blk G) → Ans G) → Ans G) (rest : FC G) : FC G := FC.ofRun [] fun vs bs K => match decs' ks vs with | some x => run x K | none => rest.run vs bs K
theorem FcOk.alt {f : Nat} {ks : List AK} {run : dens ks → (RV G → List (Blk G) → List (Blk G) → Ans G) → Ans G} {rest : FC G} (h : FcOk Tryz.prog f (FC.rn ks run)) (g : FcOk Tryz.prog f rest) (hm : rest.mu = []) : FcOk Tryz.prog f (FC.alt run rest) where
  pure _ _ h := by cases h
  run vs bs K o e := by
    simp only [FC.alt, FC.ofRun] at e
    split at e
    · rename_i x hx
      refine h.run vs bs K o ?_
      simp only [FC.rn, FC.ofRun, hx]
      exact e
    · have := g.run vs bs K o e
      rw [hm] at this
      exact this
theorem rn_of_sp {f : Nat} {ks : List AK} {res : dens ks → RV G} (h : FcOk Tryz.prog f (FC.sp ks res)) : FcOk Tryz.prog f (FC.rn ks fun x K => K (res x) [] []) := h.sub rfl (fun _ => rfl) fun a bs K o e => by
  simp only [FC.rn, FC.ofRun, FC.sp, FC.ofPure] at e ⊢
  split at e
  · exact e
  · cases e
/-! ### masses -/
def mass0 : GMass := ⟨0, 0, ⟨0, 0⟩⟩
def mok (m : GMass) : Bool := (fpos m.Mass && fpos m.Inertia) && vwithin m.Centre 4787326403894837248
def merr (m : GMass) : Int := bif mok m then 0 else 80
def mchk (m : GMass) : GMass := bif mok m then m else mass0
def mabout (m : GMass) (p : GVec) : Nat := fadd m.Inertia (fmul m.Mass (vsq (vsub p m.Centre)))
def fover (a : Nat) : Nat := bif ffin (fdiv 4607182418800017408 a) then fdiv 4607182418800017408 a else 0
def msame (a b : GMass) : Bool := (fis a.Mass b.Mass && fis a.Inertia b.Inertia) && vsame a.Centre b.Centre
theorem vwithin_max (a : GVec) : vwithin a 4787326403894837248 = vawithin a 4787326403894837248 := by unfold vwithin vawithin; rw [within_max, within_max]
def c129 : FC G := FC.sp [.s .f64] fun (a, _) => .bool (fpos a)
theorem ok129 : FcOk Tryz.prog 129 c129 := sp0 L34ok Tryz.func129 (by kernel_rfl) (by kernel_rfl) (by kernel_rfl) fun (a, _) K => by kernel_rfl
def L129 : Ctr := (129, c129) :: L34
theorem L129ok : AllOk L129 := .cons ok129 L34ok
def c206 : FC G := FC.sp [.s .f64] fun (a, _) => .bool (fpos a)
theorem ok206 : FcOk Tryz.prog 206 c206 := sp0 L129ok Tryz.func206 (by kernel_rfl) (by kernel_rfl) (by kernel_rfl) fun (a, _) K => (show xfn (EV L129 []) Tryz.f206 [] (encs [.s .f64] (a, ())) [] K = (K (.bool (fle 0 a && feq (fsub a a) 0)) [] []) from by kernel_rfl).trans (show (K (.bool (fle 0 a && feq (fsub a a) 0)) [] []) = K (.bool (fpos a)) [] [] from by unfold fpos ffin; rw [Bool.and_comm])
def L206 : Ctr := (206, c206) :: L129
theorem L206ok : AllOk L206 := .cons ok206 L129ok
def c60 : FC G := FC.sp [.s .mass] fun (m, _) => .int .i64 (merr m)
theorem ok60 : FcOk Tryz.prog 60 c60 := sp0 L206ok Tryz.func60 (by kernel_rfl) (by kernel_rfl) (by kernel_rfl) fun (m, _) K => (show xfn (EV L206 []) Tryz.f60 [] (encs [.s .mass] (m, ())) [] K = (bif ((!fpos m.Mass || !fpos m.Inertia) || !vwithin m.Centre 4787326403894837248) then K (.int .i64 80) [] [] else K (.int .i64 0) [] []) from by kernel_rfl).trans (show (bif ((!fpos m.Mass || !fpos m.Inertia) || !vwithin m.Centre 4787326403894837248) then K (.int .i64 80) [] [] else K (.int .i64 0) [] []) = K (.int .i64 (merr m)) [] [] from by unfold merr mok; cases fpos m.Mass <;> cases fpos m.Inertia <;> cases vwithin m.Centre 4787326403894837248 <;> rfl)
def L60 : Ctr := (60, c60) :: L206
theorem L60ok : AllOk L60 := .cons ok60 L206ok
def c143 : FC G := FC.sp [.s .mass] fun (m, _) => .int .i64 (merr m)
theorem ok143 : FcOk Tryz.prog 143 c143 := sp0 L60ok Tryz.func143 (by kernel_rfl) (by kernel_rfl) (by kernel_rfl) fun (m, _) K => (show xfn (EV L60 []) Tryz.f143 [] (encs [.s .mass] (m, ())) [] K = (bif ((!fpos m.Mass || !fpos m.Inertia) || !vawithin m.Centre 4787326403894837248) then K (.int .i64 80) [] [] else K (.int .i64 0) [] []) from by kernel_rfl).trans (show (bif ((!fpos m.Mass || !fpos m.Inertia) || !vawithin m.Centre 4787326403894837248) then K (.int .i64 80) [] [] else K (.int .i64 0) [] []) = K (.int .i64 (merr m)) [] [] from by rw [← vwithin_max]; unfold merr mok; cases fpos m.Mass <;> cases fpos m.Inertia <;> cases vwithin m.Centre 4787326403894837248 <;> rfl)
def L143 : Ctr := (143, c143) :: L60
theorem L143ok : AllOk L143 := .cons ok143 L60ok
def c20 : FC G := FC.sp [.s .mass, .s .mass] fun (a, b, _) => .bool (msame a b)
theorem ok20 : FcOk Tryz.prog 20 c20 := sp0 L143ok Tryz.func20 (by kernel_rfl) (by kernel_rfl) (by kernel_rfl) fun (a, b, _) K => by kernel_rfl
def L20 : Ctr := (20, c20) :: L143
theorem L20ok : AllOk L20 := .cons ok20 L143ok
def c126 : FC G := FC.sp [.s .mass, .s .vec] fun (m, p, _) => .flt (mabout m p)
theorem ok126 : FcOk Tryz.prog 126 c126 := sp0 L20ok Tryz.func126 (by kernel_rfl) (by kernel_rfl) (by kernel_rfl) fun (m, p, _) K => by kernel_rfl
def L126 : Ctr := (126, c126) :: L20
theorem L126ok : AllOk L126 := .cons ok126 L20ok
def c58 : FC G := FC.sp [.s .mass, .s .vec] fun (m, p, _) => .tuple [.flt (bif mok m && vwithin p 4787326403894837248 then mabout m p else 0), .int .i64 (bif !mok m then 80 else bif !vwithin p 4787326403894837248 then 5 else 0)]
theorem ok58 : FcOk Tryz.prog 58 c58 := sp0 L126ok Tryz.func58 (by kernel_rfl) (by kernel_rfl) (by kernel_rfl) fun (m, p, _) K => (show xfn (EV L126 []) Tryz.f58 [] (encs [.s .mass, .s .vec] (m, p, ())) [] K = (bif merr m != 0 then K (.tuple [.flt 0, .int .i64 (merr m)]) [] [] else bif !vwithin p 4787326403894837248 then K (.tuple [.flt 0, .int .i64 5]) [] [] else K (.tuple [.flt (mabout m p), .int .i64 0]) [] []) from by kernel_rfl).trans (show (bif merr m != 0 then K (.tuple [.flt 0, .int .i64 (merr m)]) [] [] else bif !vwithin p 4787326403894837248 then K (.tuple [.flt 0, .int .i64 5]) [] [] else K (.tuple [.flt (mabout m p), .int .i64 0]) [] []) = K (.tuple [.flt (bif mok m && vwithin p 4787326403894837248 then mabout m p else 0), .int .i64 (bif !mok m then 80 else bif !vwithin p 4787326403894837248 then 5 else 0)]) [] [] from by unfold merr; cases mok m <;> cases vwithin p 4787326403894837248 <;> rfl)
def L58 : Ctr := (58, c58) :: L126
theorem L58ok : AllOk L58 := .cons ok58 L126ok
def c128 : FC G := FC.sp [.s .f64] fun (a, _) => .flt (fover a)
theorem ok128 : FcOk Tryz.prog 128 c128 := sp0 L58ok Tryz.func128 (by kernel_rfl) (by kernel_rfl) (by kernel_rfl) fun (a, _) K => (show xfn (EV L58 []) Tryz.f128 [] (encs [.s .f64] (a, ())) [] K = (bif ffin (fdiv 4607182418800017408 a) then K (.flt (fdiv 4607182418800017408 a)) [] [] else K (.flt 0) [] []) from by kernel_rfl).trans (show (bif ffin (fdiv 4607182418800017408 a) then K (.flt (fdiv 4607182418800017408 a)) [] [] else K (.flt 0) [] []) = K (.flt (fover a)) [] [] from by unfold fover; cases ffin (fdiv 4607182418800017408 a) <;> rfl)
def L128 : Ctr := (128, c128) :: L58
theorem L128ok : AllOk L128 := .cons ok128 L58ok
def c59 : FC G := FC.sp [.s .mass] fun (m, _) => .tuple [.flt (bif mok m then fover m.Mass else 0), .flt (bif mok m then fover m.Inertia else 0), .int .i64 (merr m)]
theorem ok59 : FcOk Tryz.prog 59 c59 := sp0 L128ok Tryz.func59 (by kernel_rfl) (by kernel_rfl) (by kernel_rfl) fun (m, _) K => (show xfn (EV L128 []) Tryz.f59 [] (encs [.s .mass] (m, ())) [] K = (bif merr m != 0 then K (.tuple [.flt 0, .flt 0, .int .i64 (merr m)]) [] [] else K (.tuple [.flt (fover m.Mass), .flt (fover m.Inertia), .int .i64 0]) [] []) from by kernel_rfl).trans (show (bif merr m != 0 then K (.tuple [.flt 0, .flt 0, .int .i64 (merr m)]) [] [] else K (.tuple [.flt (fover m.Mass), .flt (fover m.Inertia), .int .i64 0]) [] []) = K (.tuple [.flt (bif mok m then fover m.Mass else 0), .flt (bif mok m then fover m.Inertia else 0), .int .i64 (merr m)]) [] [] from by unfold merr; cases mok m <;> rfl)
def L59 : Ctr := (59, c59) :: L128
theorem L59ok : AllOk L59 := .cons ok59 L128ok
def c66 : FC G := FC.sp [.s .mass] fun (m, _) => .tuple [encR .mass (mchk m), .int .i64 (merr m)]
theorem ok66 : FcOk Tryz.prog 66 c66 := sp0 L59ok Tryz.func66 (by kernel_rfl) (by kernel_rfl) (by kernel_rfl) fun (m, _) K => (show xfn (EV L59 []) Tryz.f66 [] (encs [.s .mass] (m, ())) [] K = (bif merr m != 0 then K (.tuple [encR .mass mass0, .int .i64 (merr m)]) [] [] else K (.tuple [encR .mass m, .int .i64 0]) [] []) from by kernel_rfl).trans (show (bif merr m != 0 then K (.tuple [encR .mass mass0, .int .i64 (merr m)]) [] [] else K (.tuple [encR .mass m, .int .i64 0]) [] []) = K (.tuple [encR .mass (mchk m), .int .i64 (merr m)]) [] [] from by unfold mchk merr; cases mok m <;> rfl)
def L66 : Ctr := (66, c66) :: L59
theorem L66ok : AllOk L66 := .cons ok66 L59ok
def c68 : FC G := FC.sp [.s .mass] fun (m, _) => .tuple [encR .mass (mchk m), .int .i64 (merr m)]
theorem ok68 : FcOk Tryz.prog 68 c68 := sp0 L66ok Tryz.func68 (by kernel_rfl) (by kernel_rfl) (by kernel_rfl) fun (m, _) K => (show xfn (EV L66 []) Tryz.f68 [] (encs [.s .mass] (m, ())) [] K = (bif merr m != 0 then K (.tuple [encR .mass mass0, .int .i64 (merr m)]) [] [] else K (.tuple [encR .mass m, .int .i64 0]) [] []) from by kernel_rfl).trans (show (bif merr m != 0 then K (.tuple [encR .mass mass0, .int .i64 (merr m)]) [] [] else K (.tuple [encR .mass m, .int .i64 0]) [] []) = K (.tuple [encR .mass (mchk m), .int .i64 (merr m)]) [] [] from by unfold mchk merr; cases mok m <;> rfl)
def L68 : Ctr := (68, c68) :: L66
theorem L68ok : AllOk L68 := .cons ok68 L66ok
def c122 : FC G := FC.sp [.s .mass] fun (m, _) => .flt m.Mass
theorem ok122 : FcOk Tryz.prog 122 c122 := sp0 L68ok Tryz.func122 (by kernel_rfl) (by kernel_rfl) (by kernel_rfl) fun (m, _) K => by kernel_rfl
def L122 : Ctr := (122, c122) :: L68
theorem L122ok : AllOk L122 := .cons ok122 L68ok
def c123 : FC G := FC.sp [.s .mass] fun (m, _) => .flt (fmul m.Mass m.Centre.X)
theorem ok123 : FcOk Tryz.prog 123 c123 := sp0 L122ok Tryz.func123 (by kernel_rfl) (by kernel_rfl) (by kernel_rfl) fun (m, _) K => by kernel_rfl
def L123 : Ctr := (123, c123) :: L122
theorem L123ok : AllOk L123 := .cons ok123 L122ok
def c124 : FC G := FC.sp [.s .mass] fun (m, _) => .flt (fmul m.Mass m.Centre.Y)
theorem ok124 : FcOk Tryz.prog 124 c124 := sp0 L123ok Tryz.func124 (by kernel_rfl) (by kernel_rfl) (by kernel_rfl) fun (m, _) K => by kernel_rfl
def L124 : Ctr := (124, c124) :: L123
theorem L124ok : AllOk L124 := .cons ok124 L123ok
def c125 : FC G := FC.sp [.s .mass, .p .vec] fun (m, c, _) => .flt (mabout m c)
theorem ok125 : FcOk Tryz.prog 125 c125 := sp0 L124ok Tryz.func125 (by kernel_rfl) (by kernel_rfl) (by kernel_rfl) fun (m, c, _) K => by kernel_rfl
def L125 : Ctr := (125, c125) :: L124
theorem L125ok : AllOk L125 := .cons ok125 L124ok
end Go.SX

/- The reference's All. No statement of the seat is proved here. -/
namespace Go.SX
open Go.Proofs
set_option maxRecDepth 20000
def atN {α : Type} (n : Nat) (l : List α) (i : Int) (f : α → Ans G) : Ans G := bif decide (0 ≤ i ∧ i < (n : Int)) then (l[i.toNat]?).bind f else none
def Vw (l : List GRow) (s : List GStill) (n i : Int) : List (RV G) := [.int .i64 n, .own 37 .row l.length, .own 40 .still s.length, .int .i64 i]
def Vi (q : List GRow × List GStill) (n j i : Int) : List (RV G) := [.int .i64 n, .own 37 .row q.1.length, .own 40 .still q.2.length, .int .i64 j, .int .i64 i]
end Go.SX

/- The reference's All, whole. No statement of the seat is proved here. -/
namespace Go.SX
open Go.Proofs
set_option maxRecDepth 20000
theorem atN_at {α : Type} {n : Nat} {l : List α} {i : Int} {x : α} (h0 : 0 ≤ i) (h1 : i < (n : Int)) (h : l[i.toNat]? = some x) (f : α → Ans G) : atN n l i f = f x := by
  unfold atN
  rw [decide_eq_true ⟨h0, h1⟩, cond_true, h, Option.bind_some]
theorem atN_set {α : Type} {n : Nat} {l : List α} {i : Int} {j : Nat} {y : α} {r : Ans G} (h0 : 0 ≤ i) (h1 : i < (n : Int)) (hn : n ≤ l.length) : atN n (l.set j y) i (fun _ => r) = r := by
  unfold atN
  rw [decide_eq_true ⟨h0, h1⟩, cond_true, List.getElem?_eq_getElem (by rw [List.length_set]; omega), Option.bind_some]
theorem atN_any {α : Type} {n : Nat} {l : List α} {i : Int} {r : Ans G} (h0 : 0 ≤ i) (h1 : i < (n : Int)) (hn : n ≤ l.length) : atN n l i (fun _ => r) = r := by
  unfold atN
  rw [decide_eq_true ⟨h0, h1⟩, cond_true, List.getElem?_eq_getElem (by omega), Option.bind_some]
end Go.SX

/- Sums; what several masses weigh together, by the program. No statement of the seat is proved here. -/
namespace Go.SX
open Go.Proofs
set_option maxRecDepth 20000
def fsum (l : List Nat) : Nat := match l with | [] => 0 | x :: r => r.foldl fadd x
def h138 : LH G := ⟨[3, 13, 14, 15], [], []⟩
def V138 (r : List Nat) (s : Nat) (i : Int) : List (RV G) := [.flt s, .rslice .f64 r, .int .i64 r.length, .int .i64 i]
noncomputable def E138 (l : List Nat) : List (Nat × LC G) := [(5, lcOf h138 (V138 (l.drop 1) (l.getD 0 0) 0) [] fun K => K (.exit 0) (V138 (l.drop 1) (fsum l) (l.drop 1).length) [])]
theorem step138 (lp : List (Nat × LC G)) (r : List Nat) (s : Nat) (n : Nat) (i : Int) (K) : iter (EV L125 lp) h138 (lpBody Tryz.f138 0) (n + 1) (V138 r s i) [] K = bif decide (i < (r.length : Int)) then
    (getI r i).bind fun y => iter (EV L125 lp) h138 (lpBody Tryz.f138 0) n (V138 r (fadd s y) (IntKind.i64.wrap (i + 1))) [] K
  else K (.exit 0) (V138 r s i) [] := by kernel_rfl
theorem x138 (l : List Nat) (K) : xfn (EV L125 (E138 l)) Tryz.f138 [] (encs [.l .f64] (l, ())) [] K = bif (l.length : Int) == 0 then K (.flt 0) [] [] else (getI l 0).bind fun x =>
    bif decide ((0 : Int) ≤ 1 ∧ (1 : Int) ≤ (l.length : Int)) then gate (V138 (l.drop (1 : Int).toNat) x 0 = V138 (l.drop 1) (l.getD 0 0) 0 ∧ ([] : List (Blk G)) = []) (K (.flt (fsum l)) [] []) else none := by kernel_rfl
theorem x138n (l : List Nat) (K) : xfn (EV L125 []) Tryz.f138 [] (encs [.l .f64] (l, ())) [] K = bif (l.length : Int) == 0 then K (.flt 0) [] [] else (getI l 0).bind fun x =>
    bif decide ((0 : Int) ≤ 1 ∧ (1 : Int) ≤ (l.length : Int)) then none else none := by kernel_rfl
theorem foldl_range {σ α : Type} (f : σ → α → σ) (d : α) : ∀ (l : List α) (s : σ), (List.range l.length).foldl (fun s i => f s (l.getD i d)) s = l.foldl f s := by
  intro l
  induction l with
  | nil => intro s; rfl
  | cons x r ih =>
    intro s
    rw [List.length_cons, List.range_succ_eq_map, List.foldl_cons, List.foldl_map]
    exact ih _
theorem lp138 (l : List Nat) (hx : l.length < 9223372036854775808) (hl : l ≠ []) : LpOk (EV L125 (E138 l)) [] (lpBody Tryz.f138 0) (lcOf h138 (V138 (l.drop 1) (l.getD 0 0) 0) [] fun K => K (.exit 0) (V138 (l.drop 1) (fsum l) (l.drop 1).length) []) :=
  lcOf_ok (by kernel_rfl) fun K => ⟨_, (fold_loop (N := (l.drop 1).length) (g := fun s i => fadd s ((l.drop 1).getD i 0)) (F := fun n i s => iter (EV L125 (E138 l)) h138 (lpBody Tryz.f138 0) n (V138 (l.drop 1) s i) [] K) (X := fun s => K (.exit 0) (V138 (l.drop 1) s (l.drop 1).length) []) (s0 := l.getD 0 0) (fun _ _ => True) trivial
    (fun n i s hi _ => by
      have hd : (l.drop 1).length ≤ l.length := by rw [List.length_drop]; omega
      rw [step138, decide_eq_true (by omega), cond_true, getI_at hi, Option.bind_some, wrap_succ (by omega), List.getD_eq_getElem?_getD, List.getElem?_eq_getElem hi]
      rfl)
    (fun _ _ _ _ => trivial) (fun n s _ => by rw [step138, decide_eq_false (by omega)]; rfl)).trans (by
      rw [foldl_range fadd 0 (l.drop 1)]
      cases l with
      | nil => exact absurd rfl hl
      | cons x r => rfl)⟩
def c138 : FC G := FC.sp [.l .f64] fun (l, _) => .flt (fsum l)
theorem ok138 : FcOk Tryz.prog 138 c138 := sp_lp L125ok Tryz.func138 (by kernel_rfl) (by kernel_rfl) fun (l, _) ⟨hx, _⟩ => by
  have hx : (l : List Nat).length < 9223372036854775808 := hx
  cases l with
  | nil => exact ⟨[], LpsOk.of _ fun _ _ _ _ h => (by cases h), fun K => (x138n [] K).trans rfl⟩
  | cons y r =>
    have e : (((y :: r : List Nat).length : Int) == 0) = false := by simp; omega
    refine ⟨E138 (y :: r), lps1 (i := 5) (by kernel_rfl) rfl (lp138 (y :: r) hx (by simp)), fun K => (x138 (y :: r) K).trans ?_⟩
    rw [e, cond_false]
    have g : getI (y :: r : List Nat) 0 = some y := rfl
    rw [g, Option.bind_some, decide_eq_true (by simp; omega), cond_true]
    exact gate_pos ⟨rfl, rfl⟩ _
noncomputable def L138 : Ctr := (138, c138) :: L125
theorem L138ok : AllOk L138 := .cons ok138 L125ok
/-! ### sums over masses -/
def h121 : LH G := ⟨[1, 5, 11, 12, 13], [], [10]⟩
def V121 (f : RV G) (l : List GMass) (s : List Nat) (i : Int) : List (RV G) := [f, .own 10 .f64 s.length, .rslice .mass l, .int .i64 l.length, .int .i64 i]
def B121 (s : List Nat) : List (Blk G) := [.rows .f64 s]
noncomputable def E121 (f : RV G) (g : GMass → Nat) (l : List GMass) : List (Nat × LC G) := [(3, lcOf h121 (V121 f l (List.replicate l.length 0) 0) (B121 (List.replicate l.length 0)) fun K => K (.exit 0) (V121 f l (l.map g) l.length) (B121 (l.map g)))]
def put121 (g : GMass → Nat) (l : List GMass) (s : List Nat) (i : Int) (next : List Nat → Ans G) : Ans G := (getI l i).bind fun m => atN s.length s i fun _ => next (s.set i.toNat (g m))
theorem step121a (lp : List (Nat × LC G)) (l : List GMass) (s : List Nat) (n : Nat) (i : Int) (K) : iter (EV L138 lp) h121 (lpBody Tryz.f121 0) (n + 1) (V121 (.func 122 []) l s i) (B121 s) K = bif decide (i < (l.length : Int)) then
    put121 (fun m => m.Mass) l s i fun s' => iter (EV L138 lp) h121 (lpBody Tryz.f121 0) n (V121 (.func 122 []) l s' (IntKind.i64.wrap (i + 1))) (B121 s') K else K (.exit 0) (V121 (.func 122 []) l s i) (B121 s) := by kernel_rfl
theorem step121b (lp : List (Nat × LC G)) (l : List GMass) (s : List Nat) (n : Nat) (i : Int) (K) : iter (EV L138 lp) h121 (lpBody Tryz.f121 0) (n + 1) (V121 (.func 123 []) l s i) (B121 s) K = bif decide (i < (l.length : Int)) then
    put121 (fun m => fmul m.Mass m.Centre.X) l s i fun s' => iter (EV L138 lp) h121 (lpBody Tryz.f121 0) n (V121 (.func 123 []) l s' (IntKind.i64.wrap (i + 1))) (B121 s') K else K (.exit 0) (V121 (.func 123 []) l s i) (B121 s) := by kernel_rfl
theorem step121c (lp : List (Nat × LC G)) (l : List GMass) (s : List Nat) (n : Nat) (i : Int) (K) : iter (EV L138 lp) h121 (lpBody Tryz.f121 0) (n + 1) (V121 (.func 124 []) l s i) (B121 s) K = bif decide (i < (l.length : Int)) then
    put121 (fun m => fmul m.Mass m.Centre.Y) l s i fun s' => iter (EV L138 lp) h121 (lpBody Tryz.f121 0) n (V121 (.func 124 []) l s' (IntKind.i64.wrap (i + 1))) (B121 s') K else K (.exit 0) (V121 (.func 124 []) l s i) (B121 s) := by kernel_rfl
theorem step121d (lp : List (Nat × LC G)) (c : GVec) (l : List GMass) (s : List Nat) (n : Nat) (i : Int) (K) : iter (EV L138 lp) h121 (lpBody Tryz.f121 0) (n + 1) (V121 (.func 125 [.rptr (encG .vec c) 0]) l s i) (B121 s) K = bif decide (i < (l.length : Int)) then
    put121 (fun m => mabout m c) l s i fun s' => iter (EV L138 lp) h121 (lpBody Tryz.f121 0) n (V121 (.func 125 [.rptr (encG .vec c) 0]) l s' (IntKind.i64.wrap (i + 1))) (B121 s') K else K (.exit 0) (V121 (.func 125 [.rptr (encG .vec c) 0]) l s i) (B121 s) := by kernel_rfl
theorem lp121 (f : RV G) (g : GMass → Nat) (l : List GMass) (hl : l.length ≤ 1048576)
    (hs : ∀ (s : List Nat) (n : Nat) (i : Int) K, iter (EV L138 (E121 f g l)) h121 (lpBody Tryz.f121 0) (n + 1) (V121 f l s i) (B121 s) K = bif decide (i < (l.length : Int)) then
      put121 g l s i fun s' => iter (EV L138 (E121 f g l)) h121 (lpBody Tryz.f121 0) n (V121 f l s' (IntKind.i64.wrap (i + 1))) (B121 s') K else K (.exit 0) (V121 f l s i) (B121 s)) :
    LpOk (EV L138 (E121 f g l)) [] (lpBody Tryz.f121 0) (lcOf h121 (V121 f l (List.replicate l.length 0) 0) (B121 (List.replicate l.length 0)) fun K => K (.exit 0) (V121 f l (l.map g) l.length) (B121 (l.map g))) :=
  lcOf_ok (by kernel_rfl) fun K => ⟨_, (fold_loop (N := l.length) (g := fun s i => s.set i (g (l.getD i mass0))) (F := fun n i s => iter (EV L138 (E121 f g l)) h121 (lpBody Tryz.f121 0) n (V121 f l s i) (B121 s) K) (X := fun s => K (.exit 0) (V121 f l s l.length) (B121 s)) (s0 := List.replicate l.length 0) (fun _ s => s.length = l.length) (by simp)
    (fun n i s hi h => by
      have hm : getI l (i : Int) = some (l.getD i mass0) := by rw [getI_at hi, List.getD_eq_getElem?_getD, List.getElem?_eq_getElem hi]; rfl
      rw [hs, decide_eq_true (by omega), cond_true]
      unfold put121
      rw [hm, Option.bind_some, atN_any (by omega) (by omega) (Nat.le_refl _), wrap_succ (by omega), Int.toNat_natCast])
    (fun i s _ h => by simp [h]) (fun n s _ => by rw [hs, decide_eq_false (by omega)]; rfl)).trans (by
      have main : ∀ n, n ≤ l.length → ∀ k, k < l.length → ((List.range n).foldl (fun s i => s.set i (g (l.getD i mass0))) (List.replicate l.length 0))[k]? = some (if k < n then g (l.getD k mass0) else 0) ∧ ((List.range n).foldl (fun s i => s.set i (g (l.getD i mass0))) (List.replicate l.length 0)).length = l.length := by
        intro n
        induction n with
        | zero => intro _ k hk; simp [hk]
        | succ n ih =>
          intro hn k hk
          obtain ⟨g1, g2⟩ := ih (by omega) k hk
          rw [List.range_succ, List.foldl_append]
          simp only [List.foldl_cons, List.foldl_nil, List.length_set, g2, and_true]
          rw [List.getElem?_set, g1, g2]
          by_cases e : n = k
          · subst e; simp [hk]
          · rw [if_neg e]
            congr 1
            by_cases h : k < n
            · rw [if_pos h, if_pos (by omega)]
            · rw [if_neg h, if_neg (by omega)]
      have e : (List.range l.length).foldl (fun s i => s.set i (g (l.getD i mass0))) (List.replicate l.length 0) = l.map g := by
        apply List.ext_getElem?
        intro k
        by_cases hk : k < l.length
        · rw [(main l.length (Nat.le_refl _) k hk).1, if_pos hk, List.getElem?_map, List.getD_eq_getElem?_getD, List.getElem?_eq_getElem hk]
          rfl
        · rcases Nat.eq_zero_or_pos l.length with h0 | h0
          · have : l = [] := List.eq_nil_of_length_eq_zero h0
            subst this; rfl
          · rw [List.getElem?_eq_none (by rw [(main l.length (Nat.le_refl _) 0 h0).2]; omega), List.getElem?_eq_none (by simp; omega)]
      rw [e])⟩
theorem x121a (l : List GMass) (K) : xfn (EV L138 (E121 (.func 122 []) (fun m => m.Mass) l)) Tryz.f121 [] (encs [.l .mass, .f 122] (l, (), ())) [] K = bif decide (0 ≤ (l.length : Int) ∧ (l.length : Int) * ((8 : Nat) : Int) ≤ 2 ^ 47 ∧ 0 < 8) then
    gate (V121 (.func 122 []) l (List.replicate (l.length : Int).toNat 0) 0 = V121 (.func 122 []) l (List.replicate l.length 0) 0 ∧ B121 (List.replicate (l.length : Int).toNat 0) = B121 (List.replicate l.length 0)) (K (.flt (fsum (l.map fun m => m.Mass))) [] []) else none := by kernel_rfl
theorem x121b (l : List GMass) (K) : xfn (EV L138 (E121 (.func 123 []) (fun m => fmul m.Mass m.Centre.X) l)) Tryz.f121 [] (encs [.l .mass, .f 123] (l, (), ())) [] K = bif decide (0 ≤ (l.length : Int) ∧ (l.length : Int) * ((8 : Nat) : Int) ≤ 2 ^ 47 ∧ 0 < 8) then
    gate (V121 (.func 123 []) l (List.replicate (l.length : Int).toNat 0) 0 = V121 (.func 123 []) l (List.replicate l.length 0) 0 ∧ B121 (List.replicate (l.length : Int).toNat 0) = B121 (List.replicate l.length 0)) (K (.flt (fsum (l.map fun m => fmul m.Mass m.Centre.X))) [] []) else none := by kernel_rfl
theorem x121c (l : List GMass) (K) : xfn (EV L138 (E121 (.func 124 []) (fun m => fmul m.Mass m.Centre.Y) l)) Tryz.f121 [] (encs [.l .mass, .f 124] (l, (), ())) [] K = bif decide (0 ≤ (l.length : Int) ∧ (l.length : Int) * ((8 : Nat) : Int) ≤ 2 ^ 47 ∧ 0 < 8) then
    gate (V121 (.func 124 []) l (List.replicate (l.length : Int).toNat 0) 0 = V121 (.func 124 []) l (List.replicate l.length 0) 0 ∧ B121 (List.replicate (l.length : Int).toNat 0) = B121 (List.replicate l.length 0)) (K (.flt (fsum (l.map fun m => fmul m.Mass m.Centre.Y))) [] []) else none := by kernel_rfl
theorem x121d (l : List GMass) (c : GVec) (K) : xfn (EV L138 (E121 (.func 125 [.rptr (encG .vec c) 0]) (fun m => mabout m c) l)) Tryz.f121 [] (encs [.l .mass, .fp 125 .vec] (l, c, ())) [] K = bif decide (0 ≤ (l.length : Int) ∧ (l.length : Int) * ((8 : Nat) : Int) ≤ 2 ^ 47 ∧ 0 < 8) then
    gate (V121 (.func 125 [.rptr (encG .vec c) 0]) l (List.replicate (l.length : Int).toNat 0) 0 = V121 (.func 125 [.rptr (encG .vec c) 0]) l (List.replicate l.length 0) 0 ∧ B121 (List.replicate (l.length : Int).toNat 0) = B121 (List.replicate l.length 0)) (K (.flt (fsum (l.map fun m => mabout m c))) [] []) else none := by kernel_rfl
theorem none121 : LpsOk (EV L138 []) [] (bodyD Tryz.f121) := LpsOk.of _ fun _ _ _ _ h => (by cases h)
theorem ok121a : FcOk Tryz.prog 121 (FC.rn [.l .mass, .f 122] fun (l, _, _) K => gate ((l : List GMass).length ≤ 1048576) (K (.flt (fsum ((l : List GMass).map fun m => m.Mass))) [] [])) := rn_lp L138ok Tryz.func121 (by kernel_rfl) (by kernel_rfl) (fun _ K o h => ⟨_, _, _, (gate_some h).2⟩) fun (l, _, _) _ => by
  by_cases hl : (l : List GMass).length ≤ 1048576
  · refine ⟨_, lps1 (i := 3) (by kernel_rfl) rfl (lp121 _ _ l hl (step121a _ l)), fun K o h => (x121a l K).trans ?_⟩
    rw [decide_eq_true (by omega), cond_true, gate_pos ⟨rfl, rfl⟩]
    exact (gate_some h).2
  · exact ⟨[], none121, fun K o h => absurd (gate_some h).1 hl⟩
theorem ok121b : FcOk Tryz.prog 121 (FC.rn [.l .mass, .f 123] fun (l, _, _) K => gate ((l : List GMass).length ≤ 1048576) (K (.flt (fsum ((l : List GMass).map fun m => fmul m.Mass m.Centre.X))) [] [])) := rn_lp L138ok Tryz.func121 (by kernel_rfl) (by kernel_rfl) (fun _ K o h => ⟨_, _, _, (gate_some h).2⟩) fun (l, _, _) _ => by
  by_cases hl : (l : List GMass).length ≤ 1048576
  · refine ⟨_, lps1 (i := 3) (by kernel_rfl) rfl (lp121 _ _ l hl (step121b _ l)), fun K o h => (x121b l K).trans ?_⟩
    rw [decide_eq_true (by omega), cond_true, gate_pos ⟨rfl, rfl⟩]
    exact (gate_some h).2
  · exact ⟨[], none121, fun K o h => absurd (gate_some h).1 hl⟩
theorem ok121c : FcOk Tryz.prog 121 (FC.rn [.l .mass, .f 124] fun (l, _, _) K => gate ((l : List GMass).length ≤ 1048576) (K (.flt (fsum ((l : List GMass).map fun m => fmul m.Mass m.Centre.Y))) [] [])) := rn_lp L138ok Tryz.func121 (by kernel_rfl) (by kernel_rfl) (fun _ K o h => ⟨_, _, _, (gate_some h).2⟩) fun (l, _, _) _ => by
  by_cases hl : (l : List GMass).length ≤ 1048576
  · refine ⟨_, lps1 (i := 3) (by kernel_rfl) rfl (lp121 _ _ l hl (step121c _ l)), fun K o h => (x121c l K).trans ?_⟩
    rw [decide_eq_true (by omega), cond_true, gate_pos ⟨rfl, rfl⟩]
    exact (gate_some h).2
  · exact ⟨[], none121, fun K o h => absurd (gate_some h).1 hl⟩
theorem ok121d : FcOk Tryz.prog 121 (FC.rn [.l .mass, .fp 125 .vec] fun (l, c, _) K => gate ((l : List GMass).length ≤ 1048576) (K (.flt (fsum ((l : List GMass).map fun m => mabout m c))) [] [])) := rn_lp L138ok Tryz.func121 (by kernel_rfl) (by kernel_rfl) (fun _ K o h => ⟨_, _, _, (gate_some h).2⟩) fun (l, c, _) _ => by
  by_cases hl : (l : List GMass).length ≤ 1048576
  · refine ⟨_, lps1 (i := 3) (by kernel_rfl) rfl (lp121 _ _ l hl (step121d _ c l)), fun K o h => (x121d l c K).trans ?_⟩
    rw [decide_eq_true (by omega), cond_true, gate_pos ⟨rfl, rfl⟩]
    exact (gate_some h).2
  · exact ⟨[], none121, fun K o h => absurd (gate_some h).1 hl⟩
noncomputable def c121 : FC G := FC.alt (ks := [.l .mass, .f 122]) (fun (l, _, _) K => gate ((l : List GMass).length ≤ 1048576) (K (.flt (fsum ((l : List GMass).map fun m => m.Mass))) [] []))
  (FC.alt (ks := [.l .mass, .f 123]) (fun (l, _, _) K => gate ((l : List GMass).length ≤ 1048576) (K (.flt (fsum ((l : List GMass).map fun m => fmul m.Mass m.Centre.X))) [] []))
  (FC.alt (ks := [.l .mass, .f 124]) (fun (l, _, _) K => gate ((l : List GMass).length ≤ 1048576) (K (.flt (fsum ((l : List GMass).map fun m => fmul m.Mass m.Centre.Y))) [] []))
  (FC.rn [.l .mass, .fp 125 .vec] fun (l, c, _) K => gate ((l : List GMass).length ≤ 1048576) (K (.flt (fsum ((l : List GMass).map fun m => mabout m c))) [] []))))
theorem ok121 : FcOk Tryz.prog 121 c121 := .alt ok121a (.alt ok121b (.alt ok121c ok121d rfl) rfl) rfl
noncomputable def L121 : Ctr := (121, c121) :: L138
theorem L121ok : AllOk L121 := .cons ok121 L138ok
/-! ### Join -/
def jall (l : List GMass) : Nat := fsum (l.map fun m => m.Mass)
def jx (l : List GMass) : Nat := fsum (l.map fun m => fmul m.Mass m.Centre.X)
def jy (l : List GMass) : Nat := fsum (l.map fun m => fmul m.Mass m.Centre.Y)
def jc (l : List GMass) : GVec := ⟨fdiv (jx l) (jall l), fdiv (jy l) (jall l)⟩
def jturn (l : List GMass) : Nat := fsum (l.map fun m => mabout m (jc l))
def jmass (l : List GMass) : GMass := ⟨jall l, jturn l, jc l⟩
def joinM (l : List GMass) : GMass := bif decide ((l.length : Int) > 16384) then mass0 else bif l.any (fun m => !mok m) then mass0 else bif (l.length : Int) == 0 then mass0 else bif (l.length : Int) == 1 then l.getD 0 mass0 else bif feq (jall l) 0 then mass0 else mchk (jmass l)
def joinE (l : List GMass) : Int := bif decide ((l.length : Int) > 16384) then 4 else bif l.any (fun m => !mok m) then 80 else bif (l.length : Int) == 0 then 0 else bif (l.length : Int) == 1 then 0 else bif feq (jall l) 0 then 0 else merr (jmass l)
def h57 : LH G := ⟨[0, 2, 3, 16, 17, 18], [], [2]⟩
def V57 (l : List GMass) (e i : Int) : List (RV G) := [.rslice .mass l, .ptr 2 0 0 0, .int .i64 e, .rslice .mass l, .int .i64 l.length, .int .i64 i]
def B57 : List (Blk G) := [.cells (encG .mass mass0)]
def OUT57 (l : List GMass) (K : XE → List (RV G) → List (Blk G) → Ans G) : Ans G := bif l.any (fun m => !mok m) then K .ret (V57 l 80 (l.findIdx (fun m => !mok m) : Nat)) B57 else K (.exit 0) (V57 l 0 (l.length : Nat)) B57
noncomputable def E57 (l : List GMass) : List (Nat × LC G) := [(4, lcOf h57 (V57 l 0 0) B57 (OUT57 l))]
theorem step57 (l : List GMass) (n : Nat) (i : Int) (K) : iter (EV L121 (E57 l)) h57 (lpBody Tryz.f57 0) (n + 1) (V57 l 0 i) B57 K = bif decide (i < (l.length : Int)) then (getI l i).bind fun m =>
    bif merr m != 0 then K .ret (V57 l (merr m) i) B57 else iter (EV L121 (E57 l)) h57 (lpBody Tryz.f57 0) n (V57 l 0 (IntKind.i64.wrap (i + 1))) B57 K
  else K (.exit 0) (V57 l 0 i) B57 := by kernel_rfl
theorem merr_K {β : Type} (m : GMass) (X : Int → β) (Y : β) : (bif merr m != 0 then X (merr m) else Y) = bif !mok m then X 80 else Y := by
  unfold merr
  cases mok m <;> rfl
theorem lp57 (l : List GMass) (hx : l.length < 9223372036854775808) : LpOk (EV L121 (E57 l)) [] (lpBody Tryz.f57 0) (lcOf h57 (V57 l 0 0) B57 (OUT57 l)) := lcOf_ok (by kernel_rfl) fun K => ⟨_, find_loop (xs := l) (p := fun m => !mok m) (F := fun n i => iter (EV L121 (E57 l)) h57 (lpBody Tryz.f57 0) n (V57 l 0 i) B57 K)
  (R := fun i => K .ret (V57 l 80 i) B57) (X := fun i => K (.exit 0) (V57 l 0 i) B57) (fun n i => by
    rw [step57]
    congr 1
    congr 1
    funext m
    exact merr_K m (fun e => K .ret (V57 l e i) B57) _) hx⟩
def jres (m : GMass) (e : Int) : RV G := .tuple [encR .mass m, .int .i64 e]
theorem x57 (l : List GMass) (K) : xfn (EV L121 (E57 l)) Tryz.f57 [] (encs [.l .mass] (l, ())) [] K = bif decide ((l.length : Int) > 16384) then K (jres mass0 4) [] [] else gate (V57 l 0 0 = V57 l 0 0 ∧ B57 = B57)
    (bif l.any (fun m => !mok m) then K (jres mass0 80) [] [] else bif (l.length : Int) == 0 then K (jres mass0 0) [] [] else bif (l.length : Int) == 1 then (getI l 0).bind fun m => K (jres m 0) [] [] else
      gate (l.length ≤ 1048576) (bif feq (jall l) 0 then K (jres mass0 0) [] [] else gate (l.length ≤ 1048576) (gate (l.length ≤ 1048576) (gate (l.length ≤ 1048576) (K (jres (mchk (jmass l)) (merr (jmass l))) [] []))))) := by kernel_rfl
def c57 : FC G := FC.sp [.l .mass] fun (l, _) => jres (joinM l) (joinE l)
theorem ok57 : FcOk Tryz.prog 57 c57 := sp_lp L121ok Tryz.func57 (by kernel_rfl) (by kernel_rfl) fun (l, _) ⟨hx, _⟩ => ⟨E57 l, lps1 (i := 4) (by kernel_rfl) rfl (lp57 l hx), fun K => (x57 l K).trans (by
  show _ = K (jres (joinM l) (joinE l)) [] []
  unfold joinM joinE
  cases h1 : decide (((l : List GMass).length : Int) > 16384) with
  | true => rfl
  | false =>
    have hl : (l : List GMass).length ≤ 1048576 := by simp at h1; omega
    rw [gate_pos ⟨rfl, rfl⟩]
    cases (l : List GMass).any (fun m => !mok m) with
    | true => rfl
    | false =>
      cases h3 : ((l : List GMass).length : Int) == 0 with
      | true => rfl
      | false => cases h4 : ((l : List GMass).length : Int) == 1 with
        | true =>
          cases l with
          | nil => simp at h4
          | cons y r => rfl
        | false =>
          rw [gate_pos hl]
          cases feq (jall l) 0 with
          | true => rfl
          | false => rw [gate_pos hl, gate_pos hl, gate_pos hl]; rfl)⟩
noncomputable def L57 : Ctr := (57, c57) :: L121
theorem L57ok : AllOk L57 := .cons ok57 L121ok
end Go.SX

/- What several masses weigh together, by the reference. No statement of the seat is proved here. -/
namespace Go.SX
open Go.Proofs Ieee
set_option maxRecDepth 20000
/-! ### a difference and its opposite -/
theorem neg_word (b : Bool) (r : Nat) (h : r < 9223372036854775808) : rung (double.word b r) = r ∧ neg? (double.word b r) = b := by
  unfold Format.word Format.signWeight double rung neg?
  cases b
  · simp; omega
  · simp; omega
theorem nearest_word (m : Nat) (p : Int) : ∃ r, r < 9223372036854775808 ∧ ∀ b, double.nearest b m p = double.word b r := by
  by_cases h : m = 0
  · exact ⟨0, by omega, fun b => by unfold Format.nearest; rw [if_pos h]⟩
  · refine ⟨min ((max (p + m.log2 - double.fractionBits) double.leastPlace - double.leastPlace).toNat * double.binade + Toward.even.cut false (m <<< (p - max (p + m.log2 - double.fractionBits) double.leastPlace).toNat) (max (p + m.log2 - double.fractionBits) double.leastPlace - p).toNat) double.infRung, ?_, fun b => ?_⟩
    · have : double.infRung < 9223372036854775808 := by decide
      omega
    · unfold Format.nearest
      rw [if_neg h]
      rfl
/-- The square of a float does not ask its sign. -/
theorem fmul_self_rung {x y : Nat} (h : rung x = rung y) : fmul x x = fmul y y := by
  unfold fmul Format.mul
  have hf : FloatKind.f64.format = double := rfl
  rw [read_eq, read_eq, h]
  by_cases h1 : rung y < 4503599627370496
  · simp only [if_pos h1, Datum.product, Bool.xor_self]
  · by_cases h2 : rung y < 9218868437227405312
    · simp only [if_neg h1, if_pos h2, Datum.product, Bool.xor_self]
    · by_cases h3 : rung y = 9218868437227405312
      · simp only [if_neg h1, if_neg h2, if_pos h3, Datum.product, Bool.xor_self]
      · simp only [if_neg h1, if_neg h2, if_neg h3, Datum.product]
theorem rung_nearest (b c : Bool) (m : Nat) (p : Int) : rung (double.nearest b m p) = rung (double.nearest c m p) := by
  obtain ⟨r, hr, h⟩ := nearest_word m p
  rw [h, h, (neg_word b r hr).1, (neg_word c r hr).1]
theorem signed_not (b : Bool) (m k : Nat) : signed (!b) m k = -signed b m k := by
  unfold signed
  cases b <;> simp
def subD (a b : Datum) : Nat := ((a.sum b.opposite).map double.write).getD qnan
theorem subD_rung (a b : Datum) : rung (subD a b) = rung (subD b a) := by
  unfold subD
  cases a with
  | nan s f => cases b <;> rfl
  | infinity s => cases b with
    | nan t f => rfl
    | infinity t => cases s <;> cases t <;> rfl
    | number t n j =>
      simp only [Datum.opposite, Datum.sum, Option.map_some, Option.getD_some, Format.write]
      rw [(neg_word _ _ (by decide)).1, (neg_word _ _ (by decide)).1]
  | number s m i => cases b with
    | nan t f => rfl
    | infinity t =>
      simp only [Datum.opposite, Datum.sum, Option.map_some, Option.getD_some, Format.write]
      rw [(neg_word _ _ (by decide)).1, (neg_word _ _ (by decide)).1]
    | number t n j =>
      simp only [Datum.opposite, Datum.sum, Option.map_some, Option.getD_some, Format.write]
      have e : signed t n (j - min j i).toNat + signed (!s) m (i - min j i).toNat = -(signed s m (i - min i j).toNat + signed (!t) n (j - min i j).toNat) := by
        rw [signed_not, signed_not, Int.min_comm j i]; omega
      rw [e, Int.natAbs_neg, Int.min_comm j i]
      exact rung_nearest _ _ _ _
theorem fsub_rung (x y : Nat) : rung (fsub x y) = rung (fsub y x) := subD_rung _ _
theorem vsq_sub (a b : GVec) : vsq (vsub a b) = vsq (vsub b a) := by
  unfold vsq vdot vsub
  rw [fmul_self_rung (fsub_rung a.X b.X), fmul_self_rung (fsub_rung a.Y b.Y)]
/-! ### a loop from a place on -/
theorem fold_from {β σ : Type} {a N : Nat} {g : σ → Nat → σ} {F : Nat → Int → σ → Option β} {X : σ → Option β} {s0 : σ} (I : Nat → σ → Prop) (h0 : I a s0) (ha : a ≤ N)
    (hs : ∀ n i s, a ≤ i → i < N → I i s → F (n + 1) (i : Int) s = F n ((i + 1 : Nat) : Int) (g s i)) (hI : ∀ i s, a ≤ i → i < N → I i s → I (i + 1) (g s i)) (hx : ∀ n s, I N s → F (n + 1) (N : Int) s = X s) :
    F (N - a + 1) (a : Int) s0 = X ((List.range' a (N - a)).foldl g s0) := by
  have main : ∀ d i s, i + d = N → a ≤ i → I i s → F (d + 1) (i : Int) s = X ((List.range' i d).foldl g s) := by
    intro d
    induction d with
    | zero =>
      intro i s hi _ h
      have : i = N := by omega
      subst this
      exact hx 0 s h
    | succ d ih =>
      intro i s hi ha h
      rw [hs _ i s ha (by omega) h, List.range'_succ, List.foldl_cons]
      exact ih (i + 1) (g s i) (by omega) (by omega) (hI i s ha (by omega) h)
  exact main (N - a) a s0 (by omega) (Nat.le_refl _) h0
/-! ### Join, by the reference -/
def getM (l : List GMass) (i : Nat) : GMass := l.getD i mass0
theorem getI_M {l : List GMass} {k : Nat} (h : k < l.length) : getI l (k : Int) = some (getM l k) := by
  rw [getI_at h]
  unfold getM
  rw [List.getD_eq_getElem?_getD, List.getElem?_eq_getElem h]
  rfl
def h74a : LH G := ⟨[0, 2, 3, 4], [], [2]⟩
def V74a (l : List GMass) (e i : Int) : List (RV G) := [.rslice .mass l, .ptr 2 0 0 0, .int .i64 e, .int .i64 i]
def OUT74a (l : List GMass) (K : XE → List (RV G) → List (Blk G) → Ans G) : Ans G := bif l.any (fun m => !mok m) then K .ret (V74a l 80 (l.findIdx (fun m => !mok m) : Nat)) B57 else K (.exit 0) (V74a l 0 (l.length : Nat)) B57
theorem step74a (lp : List (Nat × LC G)) (l : List GMass) (n : Nat) (i : Int) (K) : iter (EV L57 lp) h74a (lpBody Tryz.f74 0) (n + 1) (V74a l 0 i) B57 K = bif decide (i < (l.length : Int)) then (getI l i).bind fun m =>
    bif merr m != 0 then K .ret (V74a l 80 i) B57 else iter (EV L57 lp) h74a (lpBody Tryz.f74 0) n (V74a l 0 (IntKind.i64.wrap (i + 1))) B57 K
  else K (.exit 0) (V74a l 0 i) B57 := by kernel_rfl
def h74b : LH G := ⟨[0, 2, 3, 5, 6, 7, 8], [], [2, 5]⟩
def V74b (l : List GMass) (x y : Nat) (i : Int) : List (RV G) := [.rslice .mass l, .ptr 2 0 0 0, .int .i64 0, .ptr 5 0 0 0, .flt x, .flt y, .int .i64 i]
def B74 (m : GMass) : List (Blk G) := [.cells (encG .mass mass0), .cells (encG .mass m)]
theorem step74b (lp : List (Nat × LC G)) (l : List GMass) (m : GMass) (x y : Nat) (n : Nat) (i : Int) (K) : iter (EV L57 lp) h74b (lpBody Tryz.f74 1) (n + 1) (V74b l x y i) (B74 m) K = bif decide (i < (l.length : Int)) then
    (getI l i).bind fun a => (getI l i).bind fun b => (getI l i).bind fun c => (getI l i).bind fun d => (getI l i).bind fun e =>
      iter (EV L57 lp) h74b (lpBody Tryz.f74 1) n (V74b l (fadd x (fmul b.Mass c.Centre.X)) (fadd y (fmul d.Mass e.Centre.Y)) (IntKind.i64.wrap (i + 1))) (B74 { m with Mass := fadd m.Mass a.Mass }) K
  else K (.exit 2) (V74b l x y i) (B74 m) := by kernel_rfl
def h74c : LH G := ⟨[0, 2, 3, 5, 9], [], [2, 5]⟩
def V74c (l : List GMass) (i : Int) : List (RV G) := [.rslice .mass l, .ptr 2 0 0 0, .int .i64 0, .ptr 5 0 0 0, .int .i64 i]
def one74 (m a b c : GMass) : Nat := fadd a.Inertia (fmul b.Mass (vsq (vsub c.Centre m.Centre)))
theorem step74c (lp : List (Nat × LC G)) (l : List GMass) (m : GMass) (n : Nat) (i : Int) (K) : iter (EV L57 lp) h74c (lpBody Tryz.f74 2) (n + 1) (V74c l i) (B74 m) K = bif decide (i < (l.length : Int)) then
    (getI l i).bind fun a => (getI l i).bind fun b => (getI l i).bind fun c => bif i == 0 then iter (EV L57 lp) h74c (lpBody Tryz.f74 2) n (V74c l (IntKind.i64.wrap (i + 1))) (B74 { m with Inertia := one74 m a b c }) K
      else iter (EV L57 lp) h74c (lpBody Tryz.f74 2) n (V74c l (IntKind.i64.wrap (i + 1))) (B74 { m with Inertia := fadd m.Inertia (one74 m a b c) }) K
  else K (.exit 4) (V74c l i) (B74 m) := by kernel_rfl
def first74 (l : List GMass) : GMass := getM l 0
/-- The reference's mass behind its second loop, and as it stands at the third one's end. -/
def sum74 (l : List GMass) : GMass := { getM l 0 with Mass := jall l }
def end74 (l : List GMass) : GMass := jmass l
noncomputable def E74 (l : List GMass) : List (Nat × LC G) := [(4, lcOf h74a (V74a l 0 0) B57 (OUT74a l)),
  (16, lcOf h74b (V74b l (fmul (getM l 0).Mass (getM l 0).Centre.X) (fmul (getM l 0).Mass (getM l 0).Centre.Y) 1) (B74 (getM l 0)) fun K => K (.exit 2) (V74b l (jx l) (jy l) l.length) (B74 (sum74 l))),
  (25, lcOf h74c (V74c l 0) (B74 { sum74 l with Centre := jc l }) fun K => K (.exit 4) (V74c l l.length) (B74 (jmass l)))]
noncomputable def E74n (l : List GMass) : List (Nat × LC G) := [(4, lcOf h74a (V74a l 0 0) B57 (OUT74a l))]
theorem x74 (l : List GMass) (K) : xfn (EV L57 (E74 l)) Tryz.f74 [] (encs [.l .mass] (l, ())) [] K = bif decide ((l.length : Int) > 16384) then K (jres mass0 4) [] [] else gate (V74a l 0 0 = V74a l 0 0 ∧ B57 = B57)
    (bif l.any (fun m => !mok m) then K (jres mass0 80) [] [] else bif (l.length : Int) == 0 then K (jres mass0 0) [] [] else (getI l 0).bind fun m => bif (l.length : Int) == 1 then K (jres m 0) [] [] else
      gate (V74b l (fmul m.Mass m.Centre.X) (fmul m.Mass m.Centre.Y) 1 = V74b l (fmul (getM l 0).Mass (getM l 0).Centre.X) (fmul (getM l 0).Mass (getM l 0).Centre.Y) 1 ∧ B74 m = B74 (getM l 0))
        (bif feq (jall l) 0 then K (jres mass0 0) [] [] else gate (V74c l 0 = V74c l 0 ∧ B74 { sum74 l with Centre := jc l } = B74 { sum74 l with Centre := jc l }) (K (jres (mchk (jmass l)) (merr (jmass l))) [] []))) := by kernel_rfl
theorem x74n (l : List GMass) (K) : xfn (EV L57 (E74n l)) Tryz.f74 [] (encs [.l .mass] (l, ())) [] K = bif decide ((l.length : Int) > 16384) then K (jres mass0 4) [] [] else gate (V74a l 0 0 = V74a l 0 0 ∧ B57 = B57)
    (bif l.any (fun m => !mok m) then K (jres mass0 80) [] [] else bif (l.length : Int) == 0 then K (jres mass0 0) [] [] else (getI l 0).bind fun m => bif (l.length : Int) == 1 then K (jres m 0) [] [] else none) := by kernel_rfl
theorem foldl_alike {β : Type} {f g : β → Nat → β} : ∀ (r : List Nat) (a : β), (∀ a k, k ∈ r → f a k = g a k) → r.foldl f a = r.foldl g a
  | [], _, _ => rfl
  | k :: r, a, h => by
    rw [List.foldl_cons, List.foldl_cons, h a k List.mem_cons_self]
    exact foldl_alike r _ fun a k hk => h a k (List.mem_cons_of_mem _ hk)
theorem fsum_range (l : List GMass) (f : GMass → Nat) (h : l ≠ []) : (List.range' 1 (l.length - 1)).foldl (fun s i => fadd s (f (getM l i))) (f (getM l 0)) = fsum (l.map f) := by
  cases l with
  | nil => exact absurd rfl h
  | cons y r =>
    show _ = (r.map f).foldl fadd (f y)
    rw [List.foldl_map, List.length_cons, Nat.add_sub_cancel, List.range'_eq_map_range, List.foldl_map]
    have := foldl_range (fun s m => fadd s (f m)) mass0 r (f y)
    rw [← this]
    refine foldl_alike _ _ fun a k _ => ?_
    congr 2
    show (y :: r).getD (1 + k) mass0 = r.getD k mass0
    rw [Nat.add_comm 1 k]
    rfl
theorem lp74a (lp : List (Nat × LC G)) (l : List GMass) (hx : l.length < 9223372036854775808) : LpOk (EV L57 lp) [] (lpBody Tryz.f74 0) (lcOf h74a (V74a l 0 0) B57 (OUT74a l)) := lcOf_ok (by kernel_rfl) fun K => ⟨_, find_loop (xs := l) (p := fun m => !mok m) (F := fun n i => iter (EV L57 lp) h74a (lpBody Tryz.f74 0) n (V74a l 0 i) B57 K)
  (R := fun i => K .ret (V74a l 80 i) B57) (X := fun i => K (.exit 0) (V74a l 0 i) B57) (fun n i => by
    rw [step74a]
    congr 1
    congr 1
    funext m
    exact merr_K m (fun _ => K .ret (V74a l 80 i) B57) _) hx⟩
theorem lp74b (lp : List (Nat × LC G)) (l : List GMass) (h1 : l ≠ []) (hl : l.length ≤ 16384) : LpOk (EV L57 lp) [] (lpBody Tryz.f74 1) (lcOf h74b (V74b l (fmul (getM l 0).Mass (getM l 0).Centre.X) (fmul (getM l 0).Mass (getM l 0).Centre.Y) 1) (B74 (getM l 0)) fun K => K (.exit 2) (V74b l (jx l) (jy l) l.length) (B74 (sum74 l))) :=
  lcOf_ok (by kernel_rfl) fun K => ⟨_, (fold_from (a := 1) (N := l.length) (g := fun (t : Nat × Nat × Nat) i => (fadd t.1 (getM l i).Mass, fadd t.2.1 (fmul (getM l i).Mass (getM l i).Centre.X), fadd t.2.2 (fmul (getM l i).Mass (getM l i).Centre.Y)))
    (F := fun n i (t : Nat × Nat × Nat) => iter (EV L57 lp) h74b (lpBody Tryz.f74 1) n (V74b l t.2.1 t.2.2 i) (B74 { getM l 0 with Mass := t.1 }) K) (X := fun (t : Nat × Nat × Nat) => K (.exit 2) (V74b l t.2.1 t.2.2 l.length) (B74 { getM l 0 with Mass := t.1 })) (s0 := ((getM l 0).Mass, fmul (getM l 0).Mass (getM l 0).Centre.X, fmul (getM l 0).Mass (getM l 0).Centre.Y)) (fun _ _ => True) trivial (List.length_pos_iff.2 h1)
    (fun n i t _ hi _ => by rw [step74b, decide_eq_true (by omega), cond_true, getI_M hi, Option.bind_some, Option.bind_some, Option.bind_some, Option.bind_some, Option.bind_some, wrap_succ (by omega)])
    (fun _ _ _ _ _ => trivial) (fun n t _ => by rw [step74b, decide_eq_false (by omega)]; rfl)).trans (by
      have e : ∀ (r : List Nat) (t : Nat × Nat × Nat), r.foldl (fun (t : Nat × Nat × Nat) i => (fadd t.1 (getM l i).Mass, fadd t.2.1 (fmul (getM l i).Mass (getM l i).Centre.X), fadd t.2.2 (fmul (getM l i).Mass (getM l i).Centre.Y))) t =
          (r.foldl (fun s i => fadd s (getM l i).Mass) t.1, r.foldl (fun s i => fadd s (fmul (getM l i).Mass (getM l i).Centre.X)) t.2.1, r.foldl (fun s i => fadd s (fmul (getM l i).Mass (getM l i).Centre.Y)) t.2.2) := fun r => by
        induction r with
        | nil => intro t; rfl
        | cons i r ih => intro t; rw [List.foldl_cons, ih]; rfl
      rw [e]
      rw [fsum_range l (fun m => m.Mass) h1, fsum_range l (fun m => fmul m.Mass m.Centre.X) h1, fsum_range l (fun m => fmul m.Mass m.Centre.Y) h1]
      rfl)⟩
theorem lp74c (lp : List (Nat × LC G)) (l : List GMass) (h1 : l ≠ []) (hl : l.length ≤ 16384) : LpOk (EV L57 lp) [] (lpBody Tryz.f74 2) (lcOf h74c (V74c l 0) (B74 { sum74 l with Centre := jc l }) fun K => K (.exit 4) (V74c l l.length) (B74 (jmass l))) :=
  lcOf_ok (by kernel_rfl) fun K => ⟨_, (fold_loop (N := l.length) (g := fun (s : Nat) (i : Nat) => bif ((i : Nat) : Int) == 0 then mabout (getM l i) (jc l) else fadd s (mabout (getM l i) (jc l)))
    (F := fun n i (t : Nat) => iter (EV L57 lp) h74c (lpBody Tryz.f74 2) n (V74c l i) (B74 ⟨jall l, t, jc l⟩) K) (X := fun (t : Nat) => K (.exit 4) (V74c l l.length) (B74 ⟨jall l, t, jc l⟩)) (s0 := (getM l 0).Inertia) (fun _ _ => True) trivial
    (fun n i t hi _ => by
      have ho : ∀ a t, one74 ⟨jall l, t, jc l⟩ a a a = mabout a (jc l) := fun a t => by
        unfold one74 mabout
        rw [vsq_sub]
      rw [step74c, decide_eq_true (by omega), cond_true, getI_M hi, Option.bind_some, Option.bind_some, Option.bind_some, wrap_succ (by omega), ho]
      cases (i : Int) == 0 <;> rfl)
    (fun _ _ _ _ => trivial) (fun n t _ => by rw [step74c, decide_eq_false (by omega)]; rfl)).trans (by
      have hp : 0 < l.length := List.length_pos_iff.2 h1
      have e : (List.range l.length).foldl (fun (s : Nat) (i : Nat) => bif ((i : Nat) : Int) == 0 then mabout (getM l i) (jc l) else fadd s (mabout (getM l i) (jc l))) (getM l 0).Inertia = jturn l := by
        rw [List.range_eq_range', show l.length = (l.length - 1) + 1 by omega, List.range'_succ, List.foldl_cons]
        unfold jturn
        rw [← fsum_range l (fun m => mabout m (jc l)) h1]
        refine foldl_alike _ _ fun a k hk => ?_
        rw [List.mem_range'_1] at hk
        have : ((k : Int) == 0) = false := by simp; omega
        rw [this]
        rfl
      rw [e]
      rfl)⟩
theorem lps74 {E : Env G} (h0 : ∀ lc, E.lp 4 = some lc → LpOk E [] (lpBody Tryz.f74 0) lc) (h1 : ∀ lc, E.lp 16 = some lc → LpOk E [] (lpBody Tryz.f74 1) lc) (h2 : ∀ lc, E.lp 25 = some lc → LpOk E [] (lpBody Tryz.f74 2) lc) : LpsOk E [] (bodyD Tryz.f74) := LpsOk.of _ fun i b lc hb hi => by
  have hl : loops (bodyD Tryz.f74) = [(some 4, lpBody Tryz.f74 0), (some 16, lpBody Tryz.f74 1), (some 25, lpBody Tryz.f74 2)] := by kernel_rfl
  rw [hl] at hb
  simp only [List.mem_cons, Prod.mk.injEq, Option.some.injEq, List.not_mem_nil, or_false] at hb
  rcases hb with ⟨rfl, rfl⟩ | ⟨rfl, rfl⟩ | ⟨rfl, rfl⟩
  · exact h0 _ hi
  · exact h1 _ hi
  · exact h2 _ hi
def c74 : FC G := FC.sp [.l .mass] fun (l, _) => jres (joinM l) (joinE l)
theorem ok74 : FcOk Tryz.prog 74 c74 := sp_lp L57ok Tryz.func74 (by kernel_rfl) (by kernel_rfl) fun (l, _) ⟨hx, _⟩ => by
  have hx : (l : List GMass).length < 9223372036854775808 := hx
  show ∃ lp, LpsOk (EV L57 lp) [] (bodyD Tryz.f74) ∧ ∀ K, xfn (EV L57 lp) Tryz.f74 [] (encs [.l .mass] (l, ())) [] K = K (jres (joinM l) (joinE l)) [] []
  unfold joinM joinE
  cases h2 : decide (((l : List GMass).length : Int) > 16384) || (((l : List GMass).length : Int) == 0) with
  | true =>
    refine ⟨E74n l, lps74 (fun lc h => by cases h; exact lp74a _ l hx) (fun lc h => (by cases h)) (fun lc h => (by cases h)), fun K => (x74n l K).trans ?_⟩
    cases h1 : decide (((l : List GMass).length : Int) > 16384) with
    | true => rfl
    | false =>
      rw [h1, Bool.false_or] at h2
      rw [gate_pos ⟨rfl, rfl⟩, h2]
      cases (l : List GMass).any (fun m => !mok m) <;> rfl
  | false =>
    simp only [Bool.or_eq_false_iff, decide_eq_false_iff_not] at h2
    obtain ⟨h2, h3⟩ := h2
    have hne : (l : List GMass) ≠ [] := fun e => by rw [e] at h3; cases h3
    have hg : getI (l : List GMass) 0 = some (getM l 0) := getI_M (k := 0) (List.length_pos_iff.2 hne)
    have hd : (l : List GMass).getD 0 mass0 = getM l 0 := rfl
    refine ⟨E74 l, lps74 (fun lc h => by cases h; exact lp74a _ l hx) (fun lc h => by cases h; exact lp74b _ l hne (by omega)) (fun lc h => by cases h; exact lp74c _ l hne (by omega)), fun K => (x74 l K).trans ?_⟩
    rw [decide_eq_false h2, cond_false, gate_pos ⟨rfl, rfl⟩, h3, cond_false, hg, Option.bind_some, hd]
    cases (l : List GMass).any (fun m => !mok m) with
    | true => rfl
    | false =>
      cases ((l : List GMass).length : Int) == 1 with
      | true => rfl
      | false =>
        rw [gate_pos ⟨rfl, rfl⟩]
        cases feq (jall l) 0 with
        | true => rfl
        | false => rw [gate_pos ⟨rfl, rfl⟩]; rfl
noncomputable def L74 : Ctr := (74, c74) :: L57
theorem L74ok : AllOk L74 := .cons ok74 L57ok
end Go.SX

/- Polygons, by the program: their points, sides, whether they may be. No statement of the seat is proved here. -/
namespace Go.SX
open Go.Proofs
set_option maxRecDepth 20000
def vec0 : GVec := ⟨0, 0⟩
def getV (l : List GVec) (i : Nat) : GVec := l.getD i vec0
theorem getI_V {l : List GVec} {k : Nat} (h : k < l.length) : getI l (k : Int) = some (getV l k) := by
  rw [getI_at h]
  unfold getV
  rw [List.getD_eq_getElem?_getD, List.getElem?_eq_getElem h]
  rfl
theorem tmod_at {i n : Nat} : ((i : Nat) : Int).tmod (n : Int) = ((i % n : Nat) : Int) := by rw [Int.ofNat_tmod]
/-! ### places -/
def preal (l : List GVec) : Int := bif decide ((l.length : Int) > 64) then 4 else bif l.any (fun p => !vwithin p 4787326403894837248) then 5 else 0
def h242 : LH G := ⟨[2, 8, 9, 10], [], []⟩
def V242 (l : List GVec) (e i : Int) : List (RV G) := [.int .i64 e, .rslice .vec l, .int .i64 l.length, .int .i64 i]
def OUT242 (l : List GVec) (K : XE → List (RV G) → List (Blk G) → Ans G) : Ans G := bif l.any (fun p => !vwithin p 4787326403894837248) then K .ret (V242 l 5 (l.findIdx (fun p => !vwithin p 4787326403894837248) : Nat)) [] else K (.exit 0) (V242 l 0 (l.length : Nat)) []
noncomputable def E242 (l : List GVec) : List (Nat × LC G) := [(4, lcOf h242 (V242 l 0 0) [] (OUT242 l))]
theorem step242 (lp : List (Nat × LC G)) (l : List GVec) (n : Nat) (i : Int) (K) : iter (EV L74 lp) h242 (lpBody Tryz.f242 0) (n + 1) (V242 l 0 i) [] K = bif decide (i < (l.length : Int)) then (getI l i).bind fun p =>
    bif !vwithin p 4787326403894837248 then K .ret (V242 l 5 i) [] else iter (EV L74 lp) h242 (lpBody Tryz.f242 0) n (V242 l 0 (IntKind.i64.wrap (i + 1))) [] K
  else K (.exit 0) (V242 l 0 i) [] := by kernel_rfl
theorem x242 (l : List GVec) (K) : xfn (EV L74 (E242 l)) Tryz.f242 [] (encs [.l .vec] (l, ())) [] K = bif decide ((l.length : Int) > 64) then K (.int .i64 4) [] [] else gate (V242 l 0 0 = V242 l 0 0 ∧ ([] : List (Blk G)) = [])
    (bif l.any (fun p => !vwithin p 4787326403894837248) then K (.int .i64 5) [] [] else K (.int .i64 0) [] []) := by kernel_rfl
def c242 : FC G := FC.sp [.l .vec] fun (l, _) => .int .i64 (preal l)
theorem ok242 : FcOk Tryz.prog 242 c242 := sp_lp L74ok Tryz.func242 (by kernel_rfl) (by kernel_rfl) fun (l, _) ⟨hx, _⟩ => ⟨E242 l, lps1 (i := 4) (by kernel_rfl) rfl (lcOf_ok (by kernel_rfl) fun K => ⟨_, find_loop (xs := l) (p := fun p => !vwithin p 4787326403894837248) (F := fun n i => iter (EV L74 (E242 l)) h242 (lpBody Tryz.f242 0) n (V242 l 0 i) [] K)
    (R := fun i => K .ret (V242 l 5 i) []) (X := fun i => K (.exit 0) (V242 l 0 i) []) (fun n i => step242 _ l n i K) hx⟩), fun K => (x242 l K).trans (by
  show _ = K (.int .i64 (preal l)) [] []
  unfold preal
  rw [gate_pos ⟨rfl, rfl⟩]
  cases decide (((l : List GVec).length : Int) > 64) with
  | true => rfl
  | false => cases (l : List GVec).any (fun p => !vwithin p 4787326403894837248) <;> rfl)⟩
noncomputable def L242 : Ctr := (242, c242) :: L74
theorem L242ok : AllOk L242 := .cons ok242 L74ok
/-! ### sides -/
def vside (l : List GVec) (i : Nat) : GVec := vsub (getV l ((i + 1) % l.length)) (getV l i)
structure In243 (l : List GVec) (i : Int) : Prop where
  i0 : 0 ≤ i
  i1 : i < (l.length : Int)
  few : l.length ≤ 64
theorem x243 (l : List GVec) (i : Int) (K) : xfn (EV L242 []) Tryz.f243 [] (encs [.l .vec, .s .i64] (l, i, ())) [] K = bif (l.length : Int) == 0 then none else (getI l ((IntKind.i64.wrap (i + 1)).tmod l.length)).bind fun p => (getI l i).bind fun q =>
    K (encR .vec (vsub p q)) [] [] := by kernel_rfl
noncomputable def c243 : FC G := FC.rn [.l .vec, .s .i64] fun (l, i, _) K => gate (In243 l i) (K (encR .vec (vside l (i : Int).toNat)) [] [])
theorem side_at {l : List GVec} {i : Nat} (h : i < l.length) (hl : l.length ≤ 64) : getI l ((IntKind.i64.wrap ((i : Int) + 1)).tmod l.length) = some (getV l ((i + 1) % l.length)) := by
  rw [wrap_succ (by omega), tmod_at, getI_V (Nat.mod_lt _ (by omega))]
theorem ok243 : FcOk Tryz.prog 243 c243 := rn_ok L242ok Tryz.func243 (by kernel_rfl) [] (.none (by kernel_rfl)) (by kernel_rfl) fun (l, i, _) K o h => by
  obtain ⟨⟨h0, h1, h2⟩, h3⟩ := gate_some h
  obtain ⟨k, rfl⟩ := Int.eq_ofNat_of_zero_le h0
  have h1 : k < (l : List GVec).length := by omega
  have e : (((l : List GVec).length : Int) == 0) = false := beq_eq_false_iff_ne.2 (by omega)
  refine (x243 l (k : Int) K).trans ?_
  rw [e, cond_false, side_at h1 h2, Option.bind_some, getI_V h1, Option.bind_some]
  exact h3
noncomputable def L243 : Ctr := (243, c243) :: L242
theorem L243ok : AllOk L243 := .cons ok243 L242ok
/-! ### may a polygon be? -/
def pbad2 (l : List GVec) (i k : Nat) : Bool := fle (vcross (vside l i) (vsub (getV l ((i + k) % l.length)) (getV l i))) 0
def pbadk (l : List GVec) (i : Nat) : Bool := (List.range' 2 (l.length - 2)).any (pbad2 l i)
def pbad (l : List GVec) (i : Nat) : Bool := flt (vlen (vside l i)) 4472074429978902528 || pbadk l i
def perr (l : List GVec) : Int := bif preal l != 0 then preal l else bif decide ((l.length : Int) < 3) then 60 else bif (List.range l.length).any (pbad l) then 60 else 0
def h198o : LH G := ⟨[0, 2, 16, 17, 18], [], []⟩
def h198i : LH G := ⟨[0, 2, 4, 5, 6, 7, 16, 17, 18], [], [5, 6]⟩
def V198 (l : List GVec) (e i : Int) : List (RV G) := [.rslice .vec l, .int .i64 e, .rslice .vec l, .int .i64 l.length, .int .i64 i]
def W198 (l : List GVec) (e i k : Int) : List (RV G) := [.rslice .vec l, .int .i64 e, .int .i64 i, .ptr 5 0 0 0, .ptr 6 0 0 0, .int .i64 k, .rslice .vec l, .int .i64 l.length, .int .i64 i]
def C198 (l : List GVec) (i : Nat) : List (Blk G) := [.cells (encG .vec (getV l i)), .cells (encG .vec (vside l i))]
noncomputable def in198 (l : List GVec) : LC G := ⟨h198i, fun vs bs K => match vs with
  | [_, _, .int .i64 i, _, _, _, _, _, _] => gate (0 ≤ i ∧ i < (l.length : Int) ∧ vs = W198 l 0 i 2 ∧ bs = C198 l i.toNat)
      (bif pbadk l i.toNat then K .ret (W198 l 60 i ((2 + (List.range' 2 (l.length - 2)).findIdx (pbad2 l i.toNat) : Nat))) (C198 l i.toNat) else K (.exit 2) (W198 l 0 i l.length) (C198 l i.toNat))
  | _ => none⟩
noncomputable def E198 (l : List GVec) : List (Nat × LC G) := [(7, lcOf h198o (V198 l 0 0) [] fun K => bif (List.range l.length).any (pbad l) then K .ret (V198 l 60 ((List.range l.length).findIdx (pbad l) : Nat)) [] else K (.exit 0) (V198 l 0 l.length) []), (13, in198 l)]
theorem step198i (lp : List (Nat × LC G)) (l : List GVec) (p w : GVec) (e i : Int) (n : Nat) (k : Int) (K) : iter (EV L243 lp) h198i (lpBody Tryz.f198 1) (n + 1) (W198 l 0 i k) [.cells (encG .vec p), .cells (encG .vec w)] K = bif decide (k < (l.length : Int)) then
    bif (l.length : Int) == 0 then none else (getI l ((IntKind.i64.wrap (i + k)).tmod l.length)).bind fun q => bif fle (vcross w (vsub q p)) 0 then K .ret (W198 l 60 i k) [.cells (encG .vec p), .cells (encG .vec w)]
      else iter (EV L243 lp) h198i (lpBody Tryz.f198 1) n (W198 l 0 i (IntKind.i64.wrap (k + 1))) [.cells (encG .vec p), .cells (encG .vec w)] K
  else K (.exit 2) (W198 l 0 i k) [.cells (encG .vec p), .cells (encG .vec w)] := by kernel_rfl
theorem step198o (l : List GVec) (n : Nat) (i : Int) (K) : iter (EV L243 (E198 l)) h198o (lpBody Tryz.f198 0) (n + 1) (V198 l 0 i) [] K = bif decide (i < (l.length : Int)) then (getI l i).bind fun p => gate (In243 l i)
    (bif flt (vlen (vside l i.toNat)) 4472074429978902528 then K .ret (V198 l 60 i) [] else gate (0 ≤ i ∧ i < (l.length : Int) ∧ W198 l 0 i 2 = W198 l 0 i 2 ∧ [.cells (encG .vec p), .cells (encG .vec (vside l i.toNat))] = C198 l i.toNat)
      (bif pbadk l i.toNat then K .ret (V198 l 60 i) [] else iter (EV L243 (E198 l)) h198o (lpBody Tryz.f198 0) n (V198 l 0 (IntKind.i64.wrap (i + 1))) [] K))
  else K (.exit 0) (V198 l 0 i) [] := by kernel_rfl
theorem x198 (l : List GVec) (K) : xfn (EV L243 (E198 l)) Tryz.f198 [] (encs [.l .vec] (l, ())) [] K = bif preal l != 0 then K (.int .i64 (preal l)) [] [] else bif decide ((l.length : Int) < 3) then K (.int .i64 60) [] [] else gate (V198 l 0 0 = V198 l 0 0 ∧ ([] : List (Blk G)) = [])
    (bif (List.range l.length).any (pbad l) then K (.int .i64 60) [] [] else K (.int .i64 0) [] []) := by kernel_rfl
theorem x198n (l : List GVec) (K) : xfn (EV L243 []) Tryz.f198 [] (encs [.l .vec] (l, ())) [] K = bif preal l != 0 then K (.int .i64 (preal l)) [] [] else bif decide ((l.length : Int) < 3) then K (.int .i64 60) [] [] else none := by kernel_rfl
/-- A search from a place on. -/
theorem idx_from {β : Type} {a N : Nat} {p : Nat → Bool} {F : Nat → Int → Option β} {R X : Int → Option β} (ha : a ≤ N)
    (hs : ∀ n (i : Nat), a ≤ i → i < N → F (n + 1) (i : Int) = bif p i then R i else F n ((i + 1 : Nat) : Int)) (hx : ∀ n, F (n + 1) (N : Int) = X (N : Nat)) :
    F (N - a + 1) (a : Int) = bif (List.range' a (N - a)).any p then R ((a + (List.range' a (N - a)).findIdx p : Nat) : Int) else X (N : Nat) := by
  have main : ∀ d i : Nat, i + d = N → a ≤ i → F (d + 1) (i : Int) = bif (List.range' i d).any p then R ((i + (List.range' i d).findIdx p : Nat) : Int) else X (N : Nat) := by
    intro d
    induction d with
    | zero =>
      intro i hi _
      have : i = N := by omega
      subst this
      exact hx 0
    | succ d ih =>
      intro i hi ha
      rw [hs _ i ha (by omega), List.range'_succ, List.any_cons, List.findIdx_cons]
      cases h : p i with
      | true => rfl
      | false =>
        rw [cond_false, ih (i + 1) (by omega) (by omega), Bool.false_or]
        congr 2
        simp only [cond_false]
        omega
  exact main (N - a) a (by omega) (Nat.le_refl _)
theorem lp198i (l : List GVec) (lp : List (Nat × LC G)) (h3 : 3 ≤ l.length) (hl : l.length ≤ 64) : LpOk (EV L243 lp) [] (lpBody Tryz.f198 1) (in198 l) := lpOk_of (by kernel_rfl) fun vs bs K o h => by
  simp only [in198] at h
  split at h
  · rename_i i x1 x2 x3 x4 x5 x6 x7 x8
    obtain ⟨⟨h0, h1, hv, rfl⟩, g⟩ := gate_some h
    obtain ⟨i, rfl⟩ := Int.eq_ofNat_of_zero_le h0
    rw [hv]
    have hi : i < l.length := by omega
    rw [Int.toNat_natCast] at g ⊢
    exact ⟨_, (idx_from (a := 2) (N := l.length) (p := pbad2 l i) (F := fun n k => iter (EV L243 lp) h198i (lpBody Tryz.f198 1) n (W198 l 0 i k) (C198 l i) K) (R := fun k => K .ret (W198 l 60 i k) (C198 l i)) (X := fun k => K (.exit 2) (W198 l 0 i k) (C198 l i)) (by omega)
      (fun n k _ hk => by
        have e : ((l.length : Int) == 0) = false := beq_eq_false_iff_ne.2 (by omega)
        have hw : IntKind.i64.wrap ((i : Int) + (k : Int)) = ((i + k : Nat) : Int) := by rw [IntKind.wrap_i64]; omega
        show iter (EV L243 lp) h198i (lpBody Tryz.f198 1) (n + 1) (W198 l 0 i k) [.cells (encG .vec (getV l i)), .cells (encG .vec (vside l i))] K = _
        rw [step198i lp l _ _ 0, decide_eq_true (by omega), cond_true, e, cond_false, hw, tmod_at, getI_V (Nat.mod_lt _ (by omega)), Option.bind_some, wrap_succ (by omega)]
        rfl)
      (fun n => by
        show iter (EV L243 lp) h198i (lpBody Tryz.f198 1) (n + 1) (W198 l 0 i l.length) [.cells (encG .vec (getV l i)), .cells (encG .vec (vside l i))] K = _
        rw [step198i lp l _ _ 0, decide_eq_false (by omega)]; rfl)).trans g⟩
  · cases h
theorem lp198o (l : List GVec) (hl : l.length ≤ 64) : LpOk (EV L243 (E198 l)) [] (lpBody Tryz.f198 0) (lcOf h198o (V198 l 0 0) [] fun K => bif (List.range l.length).any (pbad l) then K .ret (V198 l 60 ((List.range l.length).findIdx (pbad l) : Nat)) [] else K (.exit 0) (V198 l 0 l.length) []) :=
  lcOf_ok (by kernel_rfl) fun K => ⟨_, idx_loop (N := l.length) (p := pbad l) (F := fun n i => iter (EV L243 (E198 l)) h198o (lpBody Tryz.f198 0) n (V198 l 0 i) [] K) (R := fun i => K .ret (V198 l 60 i) []) (X := fun i => K (.exit 0) (V198 l 0 i) [])
    (fun n i hi => by
      rw [step198o, decide_eq_true (by omega), cond_true, getI_V hi, Option.bind_some, gate_pos ⟨by omega, by omega, hl⟩, Int.toNat_natCast, gate_pos ⟨by omega, by omega, rfl, rfl⟩, wrap_succ (by omega)]
      unfold pbad
      cases flt (vlen (vside l i)) 4472074429978902528 <;> rfl)
    (fun n => by rw [step198o, decide_eq_false (by omega)]; rfl)⟩
theorem preal_few {l : List GVec} (h : (preal l != 0) = false) : l.length ≤ 64 := by
  unfold preal at h
  cases h1 : decide ((l.length : Int) > 64) with
  | true => rw [h1] at h; simp at h
  | false => simp at h1; omega
def c198 : FC G := FC.sp [.l .vec] fun (l, _) => .int .i64 (perr l)
theorem ok198 : FcOk Tryz.prog 198 c198 := sp_lp L243ok Tryz.func198 (by kernel_rfl) (by kernel_rfl) fun (l, _) _ => by
  show ∃ lp, LpsOk (EV L243 lp) [] (bodyD Tryz.f198) ∧ ∀ K, xfn (EV L243 lp) Tryz.f198 [] (encs [.l .vec] (l, ())) [] K = K (.int .i64 (perr l)) [] []
  unfold perr
  cases h1 : (preal (l : List GVec) != 0) with
  | true => exact ⟨[], LpsOk.of _ fun _ _ _ _ h => (by cases h), fun K => (x198n l K).trans (by rw [h1]; rfl)⟩
  | false =>
    cases h2 : decide (((l : List GVec).length : Int) < 3) with
    | true => exact ⟨[], LpsOk.of _ fun _ _ _ _ h => (by cases h), fun K => (x198n l K).trans (by rw [h1, h2]; rfl)⟩
    | false =>
      have hl := preal_few h1
      rw [decide_eq_false_iff_not] at h2
      refine ⟨E198 l, lps2 (i := 7) (j := 13) (by kernel_rfl) rfl (lp198o l hl) rfl (lp198i l _ (by omega) hl), fun K => (x198 l K).trans ?_⟩
      rw [h1, decide_eq_false h2, cond_false, cond_false, gate_pos ⟨rfl, rfl⟩]
      cases (List.range (l : List GVec).length).any (pbad l) <;> rfl
noncomputable def L198 : Ctr := (198, c198) :: L243
theorem L198ok : AllOk L198 := .cons ok198 L243ok
theorem perr_ok {l : List GVec} (h : (perr l != 0) = false) : 3 ≤ l.length ∧ l.length ≤ 64 := by
  unfold perr at h
  cases h1 : preal l != 0 with
  | true => rw [h1, cond_true, h1] at h; cases h
  | false =>
    rw [h1, cond_false] at h
    have := preal_few h1
    cases h2 : decide ((l.length : Int) < 3) with
    | true => rw [h2] at h; simp at h
    | false => simp at h2; omega
end Go.SX

/- Polygons, by the program: what they weigh. No statement of the seat is proved here. -/
namespace Go.SX
open Go.Proofs
set_option maxRecDepth 20000
/-! ### twice the area, the sums for the middle -/
def wc (l : List GVec) (i : Nat) : Nat := vcross (vsub (getV l i) (getV l 0)) (vsub (getV l (i + 1)) (getV l 0))
def wp (l : List GVec) (i : Nat) : GVec := vscale (vadd (vsub (getV l i) (getV l 0)) (vsub (getV l (i + 1)) (getV l 0))) (wc l i)
def w1 (l : List GVec) (t : Nat × GVec) (i : Nat) : Nat × GVec := bif ((i : Nat) : Int) == 1 then (wc l i, wp l i) else (fadd t.1 (wc l i), vadd t.2 (wp l i))
def wall (l : List GVec) : Nat × GVec := (List.range' 1 (l.length - 1 - 1)).foldl (w1 l) (0, vec0)
def h199 : LH G := ⟨[0, 2, 3, 4], [], [3]⟩
def V199 (l : List GVec) (s : Nat) (i : Int) : List (RV G) := [.rslice .vec l, .flt s, .ptr 3 0 0 0, .int .i64 i]
def B199 (m : GVec) : List (Blk G) := [.cells (encG .vec m)]
noncomputable def E199 (l : List GVec) : List (Nat × LC G) := [(2, lcOf h199 (V199 l 0 1) (B199 vec0) fun K => K (.exit 0) (V199 l (wall l).1 (l.length - 1 : Nat)) (B199 (wall l).2))]
theorem step199 (lp : List (Nat × LC G)) (l : List GVec) (s : Nat) (m : GVec) (n : Nat) (i : Int) (K) : iter (EV L198 lp) h199 (lpBody Tryz.f199 0) (n + 1) (V199 l s i) (B199 m) K = bif decide (i < IntKind.i64.wrap ((l.length : Int) - 1)) then
    (getI l i).bind fun a => (getI l 0).bind fun o => (getI l (IntKind.i64.wrap (i + 1))).bind fun b => (getI l 0).bind fun o2 =>
      bif i == 1 then iter (EV L198 lp) h199 (lpBody Tryz.f199 0) n (V199 l (vcross (vsub a o) (vsub b o2)) (IntKind.i64.wrap (i + 1))) (B199 (vscale (vadd (vsub a o) (vsub b o2)) (vcross (vsub a o) (vsub b o2)))) K
      else iter (EV L198 lp) h199 (lpBody Tryz.f199 0) n (V199 l (fadd s (vcross (vsub a o) (vsub b o2))) (IntKind.i64.wrap (i + 1))) (B199 (vadd m (vscale (vadd (vsub a o) (vsub b o2)) (vcross (vsub a o) (vsub b o2))))) K
  else K (.exit 0) (V199 l s i) (B199 m) := by kernel_rfl
theorem x199 (l : List GVec) (K) : xfn (EV L198 (E199 l)) Tryz.f199 [] (encs [.l .vec] (l, ())) [] K = gate (V199 l 0 1 = V199 l 0 1 ∧ B199 vec0 = B199 vec0) (K (.tuple [.flt (wall l).1, encR .vec (wall l).2]) [] []) := by kernel_rfl
noncomputable def c199 : FC G := FC.rn [.l .vec] fun (l, _) K => gate (3 ≤ (l : List GVec).length ∧ (l : List GVec).length ≤ 64) (K (.tuple [.flt (wall l).1, encR .vec (wall l).2]) [] [])
theorem ok199 : FcOk Tryz.prog 199 c199 := rn_lp L198ok Tryz.func199 (by kernel_rfl) (by kernel_rfl) (fun _ K o h => ⟨_, _, _, (gate_some h).2⟩) fun (l, _) _ => by
  by_cases hl : 3 ≤ (l : List GVec).length ∧ (l : List GVec).length ≤ 64
  · obtain ⟨h3, hmx⟩ := hl
    have hw : IntKind.i64.wrap (((l : List GVec).length : Int) - 1) = (((l : List GVec).length - 1 : Nat) : Int) := by rw [IntKind.wrap_i64]; omega
    have h0 : getI (l : List GVec) 0 = some (getV l 0) := getI_V (k := 0) (by omega)
    refine ⟨E199 l, lps1 (i := 2) (by kernel_rfl) rfl (lcOf_ok (by kernel_rfl) fun K => ⟨_, (fold_from (a := 1) (N := (l : List GVec).length - 1) (g := w1 l) (F := fun n i (t : Nat × GVec) => iter (EV L198 (E199 l)) h199 (lpBody Tryz.f199 0) n (V199 l t.1 i) (B199 t.2) K)
        (X := fun (t : Nat × GVec) => K (.exit 0) (V199 l t.1 ((l : List GVec).length - 1 : Nat)) (B199 t.2)) (s0 := (0, vec0)) (fun _ _ => True) trivial (by omega)
        (fun n i t _ hi _ => by
          rw [step199, hw, decide_eq_true (by omega), cond_true, getI_V (by omega), Option.bind_some, h0, Option.bind_some, wrap_succ (by omega), getI_V (by omega), Option.bind_some, Option.bind_some]
          unfold w1
          cases ((i : Nat) : Int) == 1 <;> rfl)
        (fun _ _ _ _ _ => trivial) (fun n t _ => by rw [step199, hw, decide_eq_false (by omega)]; rfl))⟩), fun K o h => (x199 l K).trans ?_⟩
    rw [gate_pos ⟨rfl, rfl⟩]
    exact (gate_some h).2
  · exact ⟨[], LpsOk.of _ fun _ _ _ _ h => (by cases h), fun K o h => absurd (gate_some h).1 hl⟩
noncomputable def L199 : Ctr := (199, c199) :: L198
theorem L199ok : AllOk L199 := .cons ok199 L198ok
/-! ### area, middle -/
def pflat (l : List GVec) : Bool := !flt 0 (wall l).1
def areaE (l : List GVec) : Int := bif perr l != 0 then perr l else bif pflat l then 61 else 0
def areaM (l : List GVec) : Nat := bif areaE l != 0 then 0 else fmul (wall l).1 4602678819172646912
def midOf (l : List GVec) : GVec := vadd (getV l 0) ⟨fdiv (wall l).2.X (fmul 4613937818241073152 (wall l).1), fdiv (wall l).2.Y (fmul 4613937818241073152 (wall l).1)⟩
def midM (l : List GVec) : GVec := bif areaE l != 0 then vec0 else midOf l
theorem x134 (l : List GVec) (K) : xfn (EV L199 []) Tryz.f134 [] (encs [.l .vec] (l, ())) [] K = bif perr l != 0 then K (.tuple [.flt 0, .int .i64 (perr l)]) [] [] else gate (3 ≤ l.length ∧ l.length ≤ 64) (bif pflat l then K (.tuple [.flt 0, .int .i64 61]) [] [] else
    K (.tuple [.flt (fmul (wall l).1 4602678819172646912), .int .i64 0]) [] []) := by kernel_rfl
def c134 : FC G := FC.sp [.l .vec] fun (l, _) => .tuple [.flt (areaM l), .int .i64 (areaE l)]
theorem ok134 : FcOk Tryz.prog 134 c134 := sp0 L199ok Tryz.func134 (by kernel_rfl) (by kernel_rfl) (by kernel_rfl) fun (l, _) K => (x134 l K).trans (by
  show _ = K (.tuple [.flt (areaM l), .int .i64 (areaE l)]) [] []
  unfold areaM areaE
  cases h1 : perr (l : List GVec) != 0 with
  | true => simp only [cond_true, h1]
  | false =>
    rw [gate_pos (perr_ok h1)]
    cases pflat l <;> rfl)
noncomputable def L134 : Ctr := (134, c134) :: L199
theorem L134ok : AllOk L134 := .cons ok134 L199ok
theorem x135 (l : List GVec) (K) : xfn (EV L134 []) Tryz.f135 [] (encs [.l .vec] (l, ())) [] K = bif perr l != 0 then K (.tuple [encR .vec vec0, .int .i64 (perr l)]) [] [] else gate (3 ≤ l.length ∧ l.length ≤ 64) (bif pflat l then K (.tuple [encR .vec vec0, .int .i64 61]) [] [] else
    (getI l 0).bind fun p => K (.tuple [encR .vec (vadd p ⟨fdiv (wall l).2.X (fmul 4613937818241073152 (wall l).1), fdiv (wall l).2.Y (fmul 4613937818241073152 (wall l).1)⟩), .int .i64 0]) [] []) := by kernel_rfl
def c135 : FC G := FC.sp [.l .vec] fun (l, _) => .tuple [encR .vec (midM l), .int .i64 (areaE l)]
theorem ok135 : FcOk Tryz.prog 135 c135 := sp0 L134ok Tryz.func135 (by kernel_rfl) (by kernel_rfl) (by kernel_rfl) fun (l, _) K => (x135 l K).trans (by
  show _ = K (.tuple [encR .vec (midM l), .int .i64 (areaE l)]) [] []
  unfold midM areaE
  cases h1 : perr (l : List GVec) != 0 with
  | true => simp only [cond_true, h1]
  | false =>
    have h3 := perr_ok h1
    have h0 : getI (l : List GVec) 0 = some (getV l 0) := getI_V (k := 0) (by omega)
    rw [gate_pos h3, h0]
    cases pflat l <;> rfl)
noncomputable def L135 : Ctr := (135, c135) :: L134
theorem L135ok : AllOk L135 := .cons ok135 L134ok
/-! ### the kinds of shapes -/
def fdisc (r d : Nat) : Nat := fmul d (fmul 4614256656552045848 (fmul r r))
def c131 : FC G := FC.sp [.s .f64, .s .f64] fun (r, d, _) => .flt (fdisc r d)
theorem ok131 : FcOk Tryz.prog 131 c131 := sp0 L135ok Tryz.func131 (by kernel_rfl) (by kernel_rfl) (by kernel_rfl) fun (r, d, _) K => by kernel_rfl
noncomputable def L131 : Ctr := (131, c131) :: L135
theorem L131ok : AllOk L131 := .cons ok131 L135ok
def circM (s : GShape) (d : Nat) : GMass := ⟨fdisc s.Radius d, fmul (fmul (fdisc s.Radius d) (fmul s.Radius s.Radius)) 4602678819172646912, getV s.Points 0⟩
theorem x63 (s : GShape) (d : Nat) (K) : xfn (EV L131 []) Tryz.f63 [] (encs [.s .shape, .s .f64] (s, d, ())) [] K = (getI s.Points 0).bind fun p => K (encR .mass ⟨fdisc s.Radius d, fmul (fmul (fdisc s.Radius d) (fmul s.Radius s.Radius)) 4602678819172646912, p⟩) [] [] := by kernel_rfl
noncomputable def c63 : FC G := FC.rn [.s .shape, .s .f64] fun (s, d, _) K => gate (1 ≤ (s : GShape).Points.length) (K (encR .mass (circM s d)) [] [])
theorem ok63 : FcOk Tryz.prog 63 c63 := rn_ok L131ok Tryz.func63 (by kernel_rfl) [] (.none (by kernel_rfl)) (by kernel_rfl) fun (s, d, _) K o h => by
  obtain ⟨h1, h2⟩ := gate_some h
  have h0 : getI (s : GShape).Points 0 = some (getV (s : GShape).Points 0) := getI_V (k := 0) (by omega)
  refine (x63 s d K).trans ?_
  rw [h0]
  exact h2
noncomputable def L63 : Ctr := (63, c63) :: L131
theorem L63ok : AllOk L63 := .cons ok63 L131ok
def capN (a b : GVec) : Nat := vlen (vsub b a)
def capP (r d n : Nat) : Nat := fmul d (fmul (fmul 4611686018427387904 r) n)
def capD (r : Nat) : Nat := fdiv (fmul 4616189618054758400 r) (fmul 4613937818241073152 4614256656552045848)
def capBar (r p n : Nat) : Nat := fdiv (fmul p (fadd (fmul n n) (fmul (fmul 4616189618054758400 r) r))) 4622945017495814144
def capEnds (r q n : Nat) : Nat := fmul q (fadd (fadd (fmul (fmul r r) 4602678819172646912) (fmul (fmul n n) 4598175219545276416)) (fmul n (capD r)))
def capOf (r d : Nat) (a b : GVec) : GMass := ⟨fadd (capP r d (capN a b)) (fdisc r d), fadd (capBar r (capP r d (capN a b)) (capN a b)) (capEnds r (fdisc r d) (capN a b)), vscale (vadd a b) 4602678819172646912⟩
def capM (s : GShape) (d : Nat) : GMass := capOf s.Radius d (getV s.Points 0) (getV s.Points 1)
theorem x64 (s : GShape) (d : Nat) (K) : xfn (EV L63 []) Tryz.f64 [] (encs [.s .shape, .s .f64] (s, d, ())) [] K = (getI s.Points 0).bind fun a => (getI s.Points 1).bind fun b => K (encR .mass (capOf s.Radius d a b)) [] [] := by kernel_rfl
noncomputable def c64 : FC G := FC.rn [.s .shape, .s .f64] fun (s, d, _) K => gate (2 ≤ (s : GShape).Points.length) (K (encR .mass (capM s d)) [] [])
theorem ok64 : FcOk Tryz.prog 64 c64 := rn_ok L63ok Tryz.func64 (by kernel_rfl) [] (.none (by kernel_rfl)) (by kernel_rfl) fun (s, d, _) K o h => by
  obtain ⟨h1, h2⟩ := gate_some h
  have h0 : getI (s : GShape).Points 0 = some (getV (s : GShape).Points 0) := getI_V (k := 0) (by omega)
  have h3 : getI (s : GShape).Points 1 = some (getV (s : GShape).Points 1) := getI_V (k := 1) (by omega)
  refine (x64 s d K).trans ?_
  rw [h0, Option.bind_some, h3]
  exact h2
noncomputable def L64 : Ctr := (64, c64) :: L63
theorem L64ok : AllOk L64 := .cons ok64 L63ok
end Go.SX

/- What a shape weighs, by the program; whether a shape may be. No statement of the seat is proved here. -/
namespace Go.SX
open Go.Proofs
set_option maxRecDepth 20000
/-! ### a polygon -/
def ptri (a b : GVec) : Nat := fmul (vcross a b) (fadd (fadd (vdot a a) (vdot a b)) (vdot b b))
def polyAt (l : List GVec) (c : GVec) (i : Nat) : Nat := ptri (vsub (getV l i) c) (vsub (getV l ((i + 1) % l.length)) c)
def polyI (l : List GVec) (c : GVec) : List Nat := (List.range l.length).map (polyAt l c)
def polyM (s : GShape) (d : Nat) : GMass := ⟨fmul d (areaM s.Points), fmul d (fdiv (fsum (polyI s.Points (midM s.Points))) 4622945017495814144), midM s.Points⟩
def h65 : LH G := ⟨[1, 2, 4, 6, 8, 9, 38, 39], [], [2, 4, 8, 36]⟩
def V65 (d a : Nat) (L : List Nat) (n i : Int) : List (RV G) := [.flt d, .ptr 2 0 0 0, .ptr 4 0 0 0, .flt a, .ptr 8 0 0 0, .own 36 .f64 L.length, .int .i64 n, .int .i64 i]
def B65 (s : GShape) (c : GVec) (L : List Nat) : List (Blk G) := [.cells (encG .shape s), .cells (encG .mass mass0), .cells (encG .vec c), .rows .f64 L]
def nought65 (l : List GVec) : List Nat := List.replicate (l.length : Int).toNat 0
noncomputable def E65 (s : GShape) (d : Nat) : List (Nat × LC G) := [(9, lcOf h65 (V65 d (areaM s.Points) (nought65 s.Points) (nought65 s.Points).length 0) (B65 s (midM s.Points) (nought65 s.Points))
  fun K => K (.exit 0) (V65 d (areaM s.Points) (polyI s.Points (midM s.Points)) (nought65 s.Points).length (nought65 s.Points).length) (B65 s (midM s.Points) (polyI s.Points (midM s.Points))))]
theorem step65 (lp : List (Nat × LC G)) (s : GShape) (d a : Nat) (c : GVec) (L : List Nat) (N : Int) (n : Nat) (i : Int) (K) : iter (EV L64 lp) h65 (lpBody Tryz.f65 0) (n + 1) (V65 d a L N i) (B65 s c L) K = bif decide (i < N) then
    (getI s.Points i).bind fun p => bif (L.length : Int) == 0 then none else (getI s.Points ((IntKind.i64.wrap (i + 1)).tmod L.length)).bind fun q => atN L.length L i fun _ =>
      iter (EV L64 lp) h65 (lpBody Tryz.f65 0) n (V65 d a (L.set i.toNat (ptri (vsub p c) (vsub q c))) N (IntKind.i64.wrap (i + 1))) (B65 s c (L.set i.toNat (ptri (vsub p c) (vsub q c)))) K
  else K (.exit 0) (V65 d a L N i) (B65 s c L) := by kernel_rfl
theorem x65 (s : GShape) (d : Nat) (K) : xfn (EV L64 (E65 s d)) Tryz.f65 [] (encs [.s .shape, .s .f64] (s, d, ())) [] K = bif areaE s.Points != 0 then K (.tuple [encR .mass mass0, .int .i64 (areaE s.Points)]) [] [] else
    bif areaE s.Points != 0 then K (.tuple [encR .mass mass0, .int .i64 (areaE s.Points)]) [] [] else bif decide (0 ≤ (s.Points.length : Int) ∧ (s.Points.length : Int) * ((8 : Nat) : Int) ≤ 2 ^ 47 ∧ 0 < 8) then
      gate (V65 d (areaM s.Points) (nought65 s.Points) (nought65 s.Points).length 0 = V65 d (areaM s.Points) (nought65 s.Points) (nought65 s.Points).length 0 ∧ B65 s (midM s.Points) (nought65 s.Points) = B65 s (midM s.Points) (nought65 s.Points))
        (K (.tuple [encR .mass (polyM s d), .int .i64 0]) [] []) else none := by kernel_rfl
theorem x65n (s : GShape) (d : Nat) (K) : xfn (EV L64 []) Tryz.f65 [] (encs [.s .shape, .s .f64] (s, d, ())) [] K = bif areaE s.Points != 0 then K (.tuple [encR .mass mass0, .int .i64 (areaE s.Points)]) [] [] else
    bif areaE s.Points != 0 then K (.tuple [encR .mass mass0, .int .i64 (areaE s.Points)]) [] [] else bif decide (0 ≤ (s.Points.length : Int) ∧ (s.Points.length : Int) * ((8 : Nat) : Int) ≤ 2 ^ 47 ∧ 0 < 8) then none else none := by kernel_rfl
/-- A list written place by place. -/
theorem fold_set (n : Nat) (g : Nat → Nat) (z : List Nat) (hz : z.length = n) : (List.range n).foldl (fun s i => s.set i (g i)) z = (List.range n).map g := by
  have main : ∀ m, m ≤ n → ((List.range m).foldl (fun s i => s.set i (g i)) z).length = n ∧ ∀ k, k < n → ((List.range m).foldl (fun s i => s.set i (g i)) z)[k]? = if k < m then some (g k) else z[k]? := by
    intro m
    induction m with
    | zero => intro _; exact ⟨hz, fun k _ => by simp⟩
    | succ m ih =>
      intro hm
      obtain ⟨g1, g2⟩ := ih (by omega)
      rw [List.range_succ, List.foldl_append]
      refine ⟨by simp [g1], fun k hk => ?_⟩
      simp only [List.foldl_cons, List.foldl_nil]
      rw [List.getElem?_set, g1]
      by_cases e : m = k
      · subst e; simp [hk]
      · rw [if_neg e, g2 k hk]
        by_cases h : k < m
        · rw [if_pos h, if_pos (by omega)]
        · rw [if_neg h, if_neg (by omega)]
  obtain ⟨h1, h2⟩ := main n (Nat.le_refl _)
  apply List.ext_getElem?
  intro k
  by_cases hk : k < n
  · rw [h2 k hk, if_pos hk]; simp [hk]
  · rw [List.getElem?_eq_none (by omega), List.getElem?_eq_none (by simp; omega)]
theorem areaE_ok {l : List GVec} (h : (areaE l != 0) = false) : 3 ≤ l.length ∧ l.length ≤ 64 := by
  refine perr_ok ?_
  unfold areaE at h
  cases h1 : perr l != 0 with
  | false => rfl
  | true => rw [h1, cond_true, h1] at h; cases h
theorem lp65 (s : GShape) (d : Nat) (h : 3 ≤ s.Points.length ∧ s.Points.length ≤ 64) : LpOk (EV L64 (E65 s d)) [] (lpBody Tryz.f65 0) (lcOf h65 (V65 d (areaM s.Points) (nought65 s.Points) (nought65 s.Points).length 0) (B65 s (midM s.Points) (nought65 s.Points))
    fun K => K (.exit 0) (V65 d (areaM s.Points) (polyI s.Points (midM s.Points)) (nought65 s.Points).length (nought65 s.Points).length) (B65 s (midM s.Points) (polyI s.Points (midM s.Points)))) := by
  have hz : (nought65 s.Points).length = s.Points.length := by unfold nought65; simp
  exact lcOf_ok (by kernel_rfl) fun K => ⟨_, (fold_loop (N := (nought65 s.Points).length) (g := fun L i => L.set i (polyAt s.Points (midM s.Points) i)) (F := fun n i L => iter (EV L64 (E65 s d)) h65 (lpBody Tryz.f65 0) n (V65 d (areaM s.Points) L (nought65 s.Points).length i) (B65 s (midM s.Points) L) K)
    (X := fun L => K (.exit 0) (V65 d (areaM s.Points) L (nought65 s.Points).length (nought65 s.Points).length) (B65 s (midM s.Points) L)) (s0 := nought65 s.Points) (fun _ L => L.length = s.Points.length) hz
    (fun n i L hi hL => by
      have e : ((L.length : Int) == 0) = false := beq_eq_false_iff_ne.2 (by omega)
      rw [step65, decide_eq_true (by omega), cond_true, getI_V (by omega), Option.bind_some, e, cond_false, wrap_succ (by omega), tmod_at, getI_V (by rw [hL]; exact Nat.mod_lt _ (by omega)), Option.bind_some, atN_any (by omega) (by omega) (Nat.le_refl _), hL, Int.toNat_natCast]
      rfl)
    (fun i L _ hL => by simp [hL]) (fun n L _ => by rw [step65, decide_eq_false (by omega)]; rfl)).trans (by
      rw [hz, fold_set s.Points.length _ _ hz]
      rfl)⟩
def c65 : FC G := FC.sp [.s .shape, .s .f64] fun (s, d, _) => .tuple [encR .mass (bif areaE (s : GShape).Points != 0 then mass0 else polyM s d), .int .i64 (areaE (s : GShape).Points)]
theorem ok65 : FcOk Tryz.prog 65 c65 := sp_lp L64ok Tryz.func65 (by kernel_rfl) (by kernel_rfl) fun (s, d, _) _ => by
  show ∃ lp, LpsOk (EV L64 lp) [] (bodyD Tryz.f65) ∧ ∀ K, xfn (EV L64 lp) Tryz.f65 [] (encs [.s .shape, .s .f64] (s, d, ())) [] K = K (.tuple [encR .mass (bif areaE (s : GShape).Points != 0 then mass0 else polyM s d), .int .i64 (areaE (s : GShape).Points)]) [] []
  cases h1 : areaE (s : GShape).Points != 0 with
  | true => exact ⟨[], LpsOk.of _ fun _ _ _ _ h => (by cases h), fun K => (x65n s d K).trans (by rw [h1]; rfl)⟩
  | false =>
    have h3 := areaE_ok h1
    have h0 : areaE (s : GShape).Points = 0 := by simpa using h1
    refine ⟨E65 s d, lps1 (i := 9) (by kernel_rfl) rfl (lp65 s d h3), fun K => (x65 s d K).trans ?_⟩
    rw [h1, cond_false, cond_false, decide_eq_true (by omega), cond_true, gate_pos ⟨rfl, rfl⟩, h0]
    rfl
noncomputable def L65 : Ctr := (65, c65) :: L64
theorem L65ok : AllOk L65 := .cons ok65 L64ok
/-! ### may a shape be? -/
def flen (a : Nat) : Bool := fle 4472074429978902528 a && fle a 4787326403894837248
def c313 : FC G := FC.sp [.s .f64] fun (a, _) => .bool (flen a)
theorem ok313 : FcOk Tryz.prog 313 c313 := sp0 L65ok Tryz.func313 (by kernel_rfl) (by kernel_rfl) (by kernel_rfl) fun (a, _) K => by kernel_rfl
noncomputable def L313 : Ctr := (313, c313) :: L65
theorem L313ok : AllOk L313 := .cons ok313 L65ok
def cirE (c : GCircle) : Int := bif (!vwithin c.At 4787326403894837248) || !flen c.Radius then 5 else 0
def capE (c : GCapsule) : Int := bif ((!vwithin c.A 4787326403894837248) || !vwithin c.B 4787326403894837248) || !flen c.Radius then 5 else bif flt (vlen (vsub c.B c.A)) 4472074429978902528 then 6 else 0
def c310 : FC G := FC.sp [.s .circle] fun (c, _) => .int .i64 (cirE c)
theorem ok310 : FcOk Tryz.prog 310 c310 := sp0 L313ok Tryz.func310 (by kernel_rfl) (by kernel_rfl) (by kernel_rfl) fun (c, _) K => (show xfn (EV L313 []) Tryz.f310 [] (encs [.s .circle] (c, ())) [] K = (bif ((!vwithin c.At 4787326403894837248) || !flen c.Radius) then K (.int .i64 5) [] [] else K (.int .i64 0) [] []) from by kernel_rfl).trans (by
  show _ = K (.int .i64 (cirE c)) [] []
  unfold cirE
  cases ((!vwithin (c : GCircle).At 4787326403894837248) || !flen (c : GCircle).Radius) <;> rfl)
noncomputable def L310 : Ctr := (310, c310) :: L313
theorem L310ok : AllOk L310 := .cons ok310 L313ok
def c315 : FC G := FC.sp [.s .capsule] fun (c, _) => .int .i64 (capE c)
theorem ok315 : FcOk Tryz.prog 315 c315 := sp0 L310ok Tryz.func315 (by kernel_rfl) (by kernel_rfl) (by kernel_rfl) fun (c, _) K => (show xfn (EV L310 []) Tryz.f315 [] (encs [.s .capsule] (c, ())) [] K = (bif (((!vwithin c.A 4787326403894837248) || !vwithin c.B 4787326403894837248) || !flen c.Radius) then K (.int .i64 5) [] [] else
    bif flt (vlen (vsub c.B c.A)) 4472074429978902528 then K (.int .i64 6) [] [] else K (.int .i64 0) [] []) from by kernel_rfl).trans (by
  show _ = K (.int .i64 (capE c)) [] []
  unfold capE
  cases (((!vwithin (c : GCapsule).A 4787326403894837248) || !vwithin (c : GCapsule).B 4787326403894837248) || !flen (c : GCapsule).Radius) with
  | true => rfl
  | false => cases flt (vlen (vsub (c : GCapsule).B (c : GCapsule).A)) 4472074429978902528 <;> rfl)
noncomputable def L315 : Ctr := (315, c315) :: L310
theorem L315ok : AllOk L315 := .cons ok315 L310ok
def c319 : FC G := FC.sp [.l .vec] fun (l, _) => .int .i64 (perr l)
theorem ok319 : FcOk Tryz.prog 319 c319 := sp0 L315ok Tryz.func319 (by kernel_rfl) (by kernel_rfl) (by kernel_rfl) fun (l, _) K => by kernel_rfl
noncomputable def L319 : Ctr := (319, c319) :: L315
theorem L319ok : AllOk L319 := .cons ok319 L315ok
def wild (s : GShape) : Bool := decide (s.Kind < 1) || decide (s.Kind > 3)
def isCir (s : GShape) : Bool := (s.Kind == 1) && ((s.Points.length : Int) == 1)
def isCap (s : GShape) : Bool := (s.Kind == 2) && ((s.Points.length : Int) == 2)
def isPol (s : GShape) : Bool := (((s.Kind == 3) && decide ((s.Points.length : Int) ≥ 3)) && decide ((s.Points.length : Int) ≤ 8)) && feq s.Radius 0
def runOpen (s : GShape) (K : RV G → List (Blk G) → List (Blk G) → Ans G) : Ans G := bif wild s then K (.tuple [.nilif, .int .i64 70]) [] [] else bif isCir s then (getI s.Points 0).bind fun p => K (.tuple [.iface 298 (encR .circle ⟨p, s.Radius⟩), .int .i64 0]) [] [] else
  bif isCap s then (getI s.Points 0).bind fun p => (getI s.Points 1).bind fun q => K (.tuple [.iface 300 (encR .capsule ⟨p, q, s.Radius⟩), .int .i64 0]) [] [] else
  bif isPol s then K (.tuple [.iface 301 (.rslice .vec s.Points), .int .i64 0]) [] [] else K (.tuple [.nilif, .int .i64 6]) [] []
def c196 : FC G := FC.rn [.s .shape] fun (s, _) K => runOpen s K
theorem ok196 : FcOk Tryz.prog 196 c196 := rn0 L319ok Tryz.func196 (by kernel_rfl) (by kernel_rfl) (by kernel_rfl) fun (s, _) K => by kernel_rfl
noncomputable def L196 : Ctr := (196, c196) :: L319
theorem L196ok : AllOk L196 := .cons ok196 L319ok
def runMay (s : GShape) (K : RV G → List (Blk G) → List (Blk G) → Ans G) : Ans G := bif wild s then K (.tuple [.nilif, .int .i64 70]) [] [] else bif isCir s then (getI s.Points 0).bind fun p => bif cirE ⟨p, s.Radius⟩ != 0 then K (.tuple [.nilif, .int .i64 (cirE ⟨p, s.Radius⟩)]) [] [] else K (.tuple [.iface 298 (encR .circle ⟨p, s.Radius⟩), .int .i64 0]) [] [] else
  bif isCap s then (getI s.Points 0).bind fun p => (getI s.Points 1).bind fun q => bif capE ⟨p, q, s.Radius⟩ != 0 then K (.tuple [.nilif, .int .i64 (capE ⟨p, q, s.Radius⟩)]) [] [] else K (.tuple [.iface 300 (encR .capsule ⟨p, q, s.Radius⟩), .int .i64 0]) [] [] else
  bif isPol s then (bif perr s.Points != 0 then K (.tuple [.nilif, .int .i64 (perr s.Points)]) [] [] else K (.tuple [.iface 301 (.rslice .vec s.Points), .int .i64 0]) [] []) else K (.tuple [.nilif, .int .i64 6]) [] []
def c130 : FC G := FC.rn [.s .shape] fun (s, _) K => runMay s K
theorem ok130 : FcOk Tryz.prog 130 c130 := rn0 L196ok Tryz.func130 (by kernel_rfl) (by kernel_rfl) (by kernel_rfl) fun (s, _) K => by kernel_rfl
noncomputable def L130 : Ctr := (130, c130) :: L196
theorem L130ok : AllOk L130 := .cons ok130 L196ok
def shE (s : GShape) : Int := bif wild s then 70 else bif isCir s then cirE ⟨getV s.Points 0, s.Radius⟩ else bif isCap s then capE ⟨getV s.Points 0, getV s.Points 1, s.Radius⟩ else bif isPol s then perr s.Points else 6
theorem x61 (s : GShape) (K) : xfn (EV L130 []) Tryz.f61 [] (encs [.s .shape] (s, ())) [] K = runMay s (fun r _ _ => match r with | .tuple [_, e] => K e [] [] | _ => none) := by kernel_rfl
def c61 : FC G := FC.sp [.s .shape] fun (s, _) => .int .i64 (shE s)
theorem ok61 : FcOk Tryz.prog 61 c61 := sp0 L130ok Tryz.func61 (by kernel_rfl) (by kernel_rfl) (by kernel_rfl) fun (s, _) K => (x61 s K).trans (by
  show runMay (s : GShape) _ = K (.int .i64 (shE s)) [] []
  unfold runMay shE
  cases wild (s : GShape) with
  | true => rfl
  | false =>
    cases h1 : isCir (s : GShape) with
    | true =>
      have hl : (s : GShape).Points.length = 1 := by
        unfold isCir at h1
        simp at h1; omega
      have h0 : getI (s : GShape).Points 0 = some (getV (s : GShape).Points 0) := getI_V (k := 0) (by omega)
      rw [h0]
      simp only [cond_false, cond_true, Option.bind_some]
      cases h : cirE ⟨getV (s : GShape).Points 0, (s : GShape).Radius⟩ != 0 with
      | true => rfl
      | false => rw [show cirE ⟨getV (s : GShape).Points 0, (s : GShape).Radius⟩ = 0 by simpa using h]; rfl
    | false =>
      cases h2 : isCap (s : GShape) with
      | true =>
        have hl : (s : GShape).Points.length = 2 := by
          unfold isCap at h2
          simp at h2; omega
        have h0 : getI (s : GShape).Points 0 = some (getV (s : GShape).Points 0) := getI_V (k := 0) (by omega)
        have h3 : getI (s : GShape).Points 1 = some (getV (s : GShape).Points 1) := getI_V (k := 1) (by omega)
        rw [h0, h3]
        simp only [cond_false, cond_true, Option.bind_some]
        cases h : capE ⟨getV (s : GShape).Points 0, getV (s : GShape).Points 1, (s : GShape).Radius⟩ != 0 with
        | true => rfl
        | false => rw [show capE ⟨getV (s : GShape).Points 0, getV (s : GShape).Points 1, (s : GShape).Radius⟩ = 0 by simpa using h]; rfl
      | false =>
        cases isPol (s : GShape) with
        | true =>
          simp only [cond_false, cond_true]
          cases h : perr (s : GShape).Points != 0 with
          | true => rfl
          | false => rw [show perr (s : GShape).Points = 0 by simpa using h]; rfl
        | false => rfl)
noncomputable def L61 : Ctr := (61, c61) :: L130
theorem L61ok : AllOk L61 := .cons ok61 L130ok
end Go.SX

/- What a shape weighs, by the program, whole; what the laws of masses ask of themselves. No statement of the seat is proved here. -/
namespace Go.SX
open Go.Proofs
set_option maxRecDepth 20000
def dwild (d : Nat) : Bool := (!fwithin d 4787326403894837248) || flt d 0
def polyR (s : GShape) (d : Nat) : GMass := bif areaE s.Points != 0 then mass0 else polyM s d
def kindM (s : GShape) (d : Nat) : GMass := bif s.Kind == 1 then circM s d else bif s.Kind == 2 then capM s d else polyR s d
def kindE (s : GShape) : Int := bif s.Kind == 1 then 0 else bif s.Kind == 2 then 0 else areaE s.Points
def ofM (s : GShape) (d : Nat) : GMass := bif shE s != 0 then mass0 else bif dwild d then mass0 else bif kindE s != 0 then mass0 else mchk (kindM s d)
def ofE (s : GShape) (d : Nat) : Int := bif shE s != 0 then shE s else bif dwild d then 5 else bif kindE s != 0 then kindE s else merr (kindM s d)
theorem x18 (s : GShape) (d : Nat) (K) : xfn (EV L61 []) Tryz.f18 [] (encs [.s .shape, .s .f64] (s, d, ())) [] K = bif shE s != 0 then K (jres mass0 (shE s)) [] [] else bif dwild d then K (jres mass0 5) [] [] else
    bif s.Kind == 1 then gate (1 ≤ s.Points.length) (K (jres (mchk (circM s d)) (merr (circM s d))) [] []) else bif s.Kind == 2 then gate (2 ≤ s.Points.length) (K (jres (mchk (capM s d)) (merr (capM s d))) [] []) else
    bif areaE s.Points != 0 then K (jres mass0 (areaE s.Points)) [] [] else K (jres (mchk (polyR s d)) (merr (polyR s d))) [] [] := by kernel_rfl
theorem shE_len {s : GShape} (h : (shE s != 0) = false) : ((s.Kind == 1) = true → s.Points.length = 1) ∧ ((s.Kind == 2) = true → s.Points.length = 2) := by
  unfold shE at h
  cases h0 : wild s with
  | true => rw [h0] at h; simp at h
  | false =>
    rw [h0, cond_false] at h
    cases h1 : isCir s with
    | true =>
      unfold isCir at h1
      simp at h1
      refine ⟨fun _ => by omega, fun h2 => ?_⟩
      simp at h2; omega
    | false =>
      rw [h1, cond_false] at h
      cases h2 : isCap s with
      | true =>
        unfold isCap at h2
        simp at h2
        refine ⟨fun h3 => ?_, fun _ => by omega⟩
        simp at h3; omega
      | false =>
        rw [h2, cond_false] at h
        cases h3 : isPol s with
        | true =>
          unfold isPol at h3
          simp at h3
          refine ⟨fun h4 => ?_, fun h4 => ?_⟩
          · simp at h4; omega
          · simp at h4; omega
        | false => rw [h3] at h; simp at h
def c18 : FC G := FC.sp [.s .shape, .s .f64] fun (s, d, _) => jres (ofM s d) (ofE s d)
theorem ok18 : FcOk Tryz.prog 18 c18 := sp0 L61ok Tryz.func18 (by kernel_rfl) (by kernel_rfl) (by kernel_rfl) fun (s, d, _) K => (x18 s d K).trans (by
  show _ = K (jres (ofM s d) (ofE s d)) [] []
  unfold ofM ofE
  cases h0 : shE (s : GShape) != 0 with
  | true => rfl
  | false =>
    obtain ⟨h1, h2⟩ := shE_len h0
    cases dwild d with
    | true => rfl
    | false =>
      unfold kindE kindM
      cases h3 : (s : GShape).Kind == 1 with
      | true => rw [gate_pos (by rw [h1 h3]; exact Nat.le_refl _)]; rfl
      | false => cases h4 : (s : GShape).Kind == 2 with
        | true => simp only [cond_false, cond_true]; rw [gate_pos (by rw [h2 h4]; exact Nat.le_refl _)]; rfl
        | false =>
          simp only [cond_false]
          cases h5 : areaE (s : GShape).Points != 0 <;> rfl)
noncomputable def L18 : Ctr := (18, c18) :: L61
theorem L18ok : AllOk L18 := .cons ok18 L61ok
def c55 : FC G := FC.sp [.l .vec] fun (l, _) => encR .shape ⟨3, 0, l⟩
theorem ok55 : FcOk Tryz.prog 55 c55 := sp0 L18ok Tryz.func55 (by kernel_rfl) (by kernel_rfl) (by kernel_rfl) fun (l, _) K => by kernel_rfl
noncomputable def L55 : Ctr := (55, c55) :: L18
theorem L55ok : AllOk L55 := .cons ok55 L18ok
def c56 : FC G := FC.rn [.s .f64] fun (r, _) K => K (.agg [.int .u8 1, .flt r, .own 0 .vec 1]) [] [.rows .vec [vec0]]
theorem ok56 : FcOk Tryz.prog 56 c56 := rn0 L55ok Tryz.func56 (by kernel_rfl) (by kernel_rfl) (by kernel_rfl) fun (r, _) K => by kernel_rfl
noncomputable def L56 : Ctr := (56, c56) :: L55
theorem L56ok : AllOk L56 := .cons ok56 L55ok
theorem ok16 : FcOk Tryz.prog 16 (FC.sp [] fun _ => .bool true) := sp0 L56ok Tryz.func16 (by kernel_rfl) (by kernel_rfl) (by kernel_rfl) fun _ K => (show xfn (EV L56 []) Tryz.f16 [] [] [] K = K (.bool true) [] [] from by kernel_rfl)
end Go.SX

/- Rounding: a rounded number lies between the floats about it. No statement of the seat is proved here. -/
namespace Go.SX
open Ieee
set_option maxRecDepth 20000
/-! ### cutting digits -/
theorem cut_spec (b : Bool) (n d : Nat) : n / 2 ^ d ≤ Toward.even.cut b n d ∧ Toward.even.cut b n d ≤ n / 2 ^ d + 1 ∧ (n % 2 ^ d = 0 → Toward.even.cut b n d = n / 2 ^ d) := by
  unfold Toward.cut
  by_cases h : d ≤ n.log2 + 2
  · rw [Nat.min_eq_left h]
    simp only [Nat.one_shiftLeft]
    have hb : ∀ c : Bool, c.toNat ≤ 1 := fun c => by cases c <;> decide
    refine ⟨Nat.le_add_right _ _, Nat.add_le_add_left (hb _) _, fun h0 => ?_⟩
    rw [h0]
    have hp : 0 < 2 ^ d := Nat.two_pow_pos d
    have e1 : decide (2 ^ d < 2 * 0) = false := decide_eq_false (by omega)
    have e2 : (2 ^ d == 2 * 0) = false := by simp
    simp only [e1, e2, Bool.false_or, Bool.false_and]
    rfl
  · rw [Nat.min_eq_right (by omega)]
    simp only [Nat.one_shiftLeft]
    have hlt : n < 2 ^ (n.log2 + 1) := Nat.lt_log2_self
    have h2 : 2 ^ (n.log2 + 2) = 2 * 2 ^ (n.log2 + 1) := by rw [Nat.pow_succ]; omega
    have h3 : 2 ^ (n.log2 + 2) ≤ 2 ^ d := Nat.pow_le_pow_right (by decide) (by omega)
    have e0 : n / 2 ^ d = 0 := Nat.div_eq_of_lt (by omega)
    have e1 : n / 2 ^ (n.log2 + 2) = 0 := Nat.div_eq_of_lt (by omega)
    have e2 : n % 2 ^ (n.log2 + 2) = n := Nat.mod_eq_of_lt (by omega)
    rw [e0, e1, e2]
    have e3 : decide (2 ^ (n.log2 + 2) < 2 * n) = false := decide_eq_false (by omega)
    have e4 : (2 ^ (n.log2 + 2) == 2 * n) = false := beq_eq_false_iff_ne.2 (by omega)
    simp only [e3, e4, Bool.false_or, Bool.false_and]
    exact ⟨Nat.le_refl _, by decide, fun _ => rfl⟩
/-! ### rungs -/
theorem mg_at {k c : Nat} (h : k = 0 ∨ 4503599627370496 ≤ c) (hc : c ≤ 9007199254740992) : mg (k * 4503599627370496 + c) = c * 2 ^ k := by
  unfold mg
  rcases Nat.lt_or_ge c 4503599627370496 with g | g
  · have hk : k = 0 := by omega
    subst hk
    rw [if_pos (by omega)]; simp
  · rw [if_neg (by omega)]
    rcases Nat.lt_or_ge c 9007199254740992 with g2 | g2
    · have e1 : (k * 4503599627370496 + c) % 4503599627370496 = c - 4503599627370496 := by omega
      have e2 : (k * 4503599627370496 + c) / 4503599627370496 - 1 = k := by omega
      rw [e1, e2, show 4503599627370496 + (c - 4503599627370496) = c by omega]
    · have e0 : c = 9007199254740992 := by omega
      subst e0
      have e1 : (k * 4503599627370496 + 9007199254740992) % 4503599627370496 = 0 := by omega
      have e2 : (k * 4503599627370496 + 9007199254740992) / 4503599627370496 - 1 = k + 1 := by omega
      rw [e1, e2, Nat.pow_succ]
      omega
theorem mg_le {r s : Nat} (h : r ≤ s) : mg r ≤ mg s := by
  rcases Nat.lt_or_ge r s with g | g
  · exact Nat.le_of_lt (mg_lt g)
  · have : r = s := by omega
    rw [this]; exact Nat.le_refl _
/-! ### the nearest float: between its neighbours -/
/-- The rung that a number 'm * 2^p' is rounded to, infinity not looked at. -/
def lastOf (m : Nat) (p : Int) : Int := max (p + m.log2 - 52) (-1074)
def keptOf (m : Nat) (p : Int) : Nat := Toward.even.cut false (m <<< (p - lastOf m p).toNat) (lastOf m p - p).toNat
def rdOf (m : Nat) (p : Int) : Nat := if m = 0 then 0 else (lastOf m p + 1074).toNat * 4503599627370496 + keptOf m p
theorem nearest_rd (b : Bool) (m : Nat) (p : Int) : double.nearest b m p = double.word b (min (rdOf m p) 9218868437227405312) := by
  unfold Format.nearest rdOf
  by_cases h : m = 0
  · rw [if_pos h, if_pos h]; rfl
  · rw [if_neg h, if_neg h]
    have h1 : double.fractionBits = 52 := rfl
    have h2 : double.leastPlace = -1074 := by decide
    have h3 : double.binade = 4503599627370496 := by decide
    have h4 : double.infRung = 9218868437227405312 := by decide
    rw [h2, h3, h4]
    simp only [h1]
    show double.word b (min ((lastOf m p - -1074).toNat * 4503599627370496 + keptOf m p) 9218868437227405312) = _
    rw [show lastOf m p - -1074 = lastOf m p + 1074 by omega]
/-- The number in units of the least place, as a fraction over a power of two. -/
def numOf (m : Nat) (p : Int) : Nat := m * 2 ^ (p + 1074).toNat
def denOf (p : Int) : Nat := 2 ^ (-(p + 1074)).toNat
theorem denOf_pos (p : Int) : 0 < denOf p := Nat.two_pow_pos _
structure Cutting (m : Nat) (p : Int) (k c f : Nat) : Prop where
  rd : rdOf m p = k * 4503599627370496 + c
  lo : f ≤ c
  hi : c ≤ f + 1
  top : f < 9007199254740992
  bot : k = 0 ∨ 4503599627370496 ≤ f
  floor : f * 2 ^ k * denOf p ≤ numOf m p
  ceil : numOf m p < (f + 1) * 2 ^ k * denOf p
  exact_ : numOf m p = f * 2 ^ k * denOf p → c = f
theorem log2_le {m : Nat} (h : m ≠ 0) : 2 ^ m.log2 ≤ m := Nat.log2_self_le h
theorem cutting {m : Nat} (hm : m ≠ 0) (p : Int) : ∃ k c f, Cutting m p k c f := by
  have hl := log2_le hm
  have hh : m < 2 ^ (m.log2 + 1) := Nat.lt_log2_self
  refine ⟨(lastOf m p + 1074).toNat, keptOf m p, (m <<< (p - lastOf m p).toNat) / 2 ^ (lastOf m p - p).toNat, ?_⟩
  have hlast : -1074 ≤ lastOf m p ∧ p + m.log2 - 52 ≤ lastOf m p ∧ (lastOf m p = -1074 ∨ lastOf m p = p + m.log2 - 52) := by
    unfold lastOf; omega
  obtain ⟨c1, c2, c3⟩ := cut_spec false (m <<< (p - lastOf m p).toNat) (lastOf m p - p).toNat
  have hsh : m <<< (p - lastOf m p).toNat = m * 2 ^ (p - lastOf m p).toNat := Nat.shiftLeft_eq _ _
  rw [hsh] at c1 c2 c3 ⊢
  generalize hL : lastOf m p = L at *
  -- one of the two shifts is nought
  have key : numOf m p * 2 ^ (L - p).toNat = m * 2 ^ (p - L).toNat * (2 ^ (L + 1074).toNat * denOf p) := by
    unfold numOf denOf
    rw [Nat.mul_assoc, Nat.mul_assoc, ← Nat.pow_add, ← Nat.pow_add, ← Nat.pow_add]
    congr 2
    omega
  have hd : 0 < 2 ^ (L - p).toNat := Nat.two_pow_pos _
  have hu : 0 < 2 ^ (L + 1074).toNat * denOf p := Nat.mul_pos (Nat.two_pow_pos _) (denOf_pos p)
  generalize hN : m * 2 ^ (p - L).toNat = N at *
  generalize hD : 2 ^ (L - p).toNat = D at *
  generalize hU : 2 ^ (L + 1074).toNat * denOf p = U at *
  have hdm := Nat.div_add_mod N D
  have hml := Nat.mod_lt N hd
  generalize hF : N / D = F at *
  generalize hR : N % D = R at *
  refine ⟨?_, ?_, ?_, ?_, ?_, ?_, ?_, ?_⟩
  · unfold rdOf; rw [if_neg hm, hL]
  · unfold keptOf; rw [hL, hsh]; exact c1
  · unfold keptOf; rw [hL, hsh]; exact c2
  · -- the digits kept are few
    have : N < 2 ^ 53 * D := by
      rw [← hN, ← hD]
      have e : m * 2 ^ (p - L).toNat < 2 ^ (m.log2 + 1) * 2 ^ (p - L).toNat := Nat.mul_lt_mul_of_pos_right hh (Nat.two_pow_pos _)
      refine Nat.lt_of_lt_of_le e ?_
      rw [← Nat.pow_add, ← Nat.pow_add]
      exact Nat.pow_le_pow_right (by decide) (by omega)
    have : N / D < 2 ^ 53 := (Nat.div_lt_iff_lt_mul hd).2 this
    rw [hF] at this
    exact this
  · by_cases hk : (L + 1074).toNat = 0
    · exact .inl hk
    · right
      have hLe : L = p + m.log2 - 52 := by omega
      have : 2 ^ 52 * D ≤ N := by
        rw [← hN, ← hD]
        refine Nat.le_trans ?_ (Nat.mul_le_mul_right _ hl)
        rw [← Nat.pow_add, ← Nat.pow_add]
        exact Nat.pow_le_pow_right (by decide) (by omega)
      have := (Nat.le_div_iff_mul_le hd).2 this
      rw [hF] at this
      exact this
  · rw [Nat.mul_assoc, hU]
    refine Nat.le_of_mul_le_mul_right (c := D) ?_ hd
    rw [key, ← hdm]
    calc F * U * D = D * F * U := by rw [Nat.mul_comm (F * U) D, ← Nat.mul_assoc]
      _ ≤ (D * F + R) * U := Nat.mul_le_mul_right _ (Nat.le_add_right _ _)
  · rw [Nat.mul_assoc, hU]
    refine Nat.lt_of_mul_lt_mul_right (a := D) ?_
    rw [key, ← hdm]
    calc (D * F + R) * U < (D * F + D) * U := Nat.mul_lt_mul_of_pos_right (by omega) hu
      _ = (F + 1) * U * D := by rw [← Nat.mul_succ, Nat.mul_comm ((F + 1) * U) D, ← Nat.mul_assoc]
  · intro he
    rw [Nat.mul_assoc, hU] at he
    have h0 : R = 0 := by
      rw [he] at key
      rw [← hdm] at key
      have e1 : F * U * D = D * F * U := by rw [Nat.mul_comm (F * U) D, ← Nat.mul_assoc]
      rw [e1, Nat.add_mul] at key
      have : R * U = 0 := by omega
      rcases Nat.mul_eq_zero.1 this with h | h
      · exact h
      · omega
    unfold keptOf
    rw [hL, hsh]
    exact c3 h0
/-- What is at least a float is rounded to no less. -/
theorem rd_ge {m : Nat} {p : Int} {t : Nat} (h : mg t * denOf p ≤ numOf m p) : t ≤ rdOf m p := by
  by_cases hm : m = 0
  · subst hm
    have h0 : numOf 0 p = 0 := by unfold numOf; simp
    rw [h0] at h
    have := denOf_pos p
    have : mg t = 0 := by
      rcases Nat.mul_eq_zero.1 (Nat.le_zero.1 h) with g | g
      · exact g
      · omega
    rw [mg_zero] at this
    omega
  · obtain ⟨k, c, f, hc⟩ := cutting hm p
    rw [hc.rd]
    refine Nat.le_of_not_lt fun hlt => ?_
    have hcc := hc.lo
    have htop := hc.top
    have hbot := hc.bot
    have h1 : mg (k * 4503599627370496 + f + 1) ≤ mg t := mg_le (by omega)
    have h2 : mg (k * 4503599627370496 + (f + 1)) = (f + 1) * 2 ^ k := mg_at (by omega) (by omega)
    rw [Nat.add_assoc, h2] at h1
    have := hc.ceil
    have := Nat.mul_le_mul_right (denOf p) h1
    omega
/-- What is at most a float is rounded to no more. -/
theorem rd_le {m : Nat} {p : Int} {t : Nat} (h : numOf m p ≤ mg t * denOf p) : rdOf m p ≤ t := by
  by_cases hm : m = 0
  · unfold rdOf; rw [if_pos hm]; omega
  · obtain ⟨k, c, f, hc⟩ := cutting hm p
    rw [hc.rd]
    refine Nat.le_of_not_lt fun hlt => ?_
    have hcc := hc.hi
    have hlo := hc.lo
    have htop := hc.top
    have hbot := hc.bot
    have hd := denOf_pos p
    have h1 : mg t ≤ mg (k * 4503599627370496 + f) := mg_le (by omega)
    have h2 : mg (k * 4503599627370496 + f) = f * 2 ^ k := mg_at (by omega) (by omega)
    rw [h2] at h1
    have h3 := Nat.mul_le_mul_right (denOf p) h1
    have h4 := hc.floor
    have h5 : numOf m p = f * 2 ^ k * denOf p := by omega
    have h6 := hc.exact_ h5
    subst h6
    have h7 : mg t < mg (k * 4503599627370496 + c) := mg_lt (by omega)
    rw [h2] at h7
    have := Nat.mul_lt_mul_of_pos_right h7 hd
    omega
end Go.SX

/- Sums and products of floats that are finite; a half. No statement of the seat is proved here. -/
namespace Go.SX
open Ieee
set_option maxRecDepth 20000
def Fin64 (x : Nat) : Prop := rung x < 9218868437227405312
/-- A float that 'a' over 'd' (in units of the least place) is rounded to. -/
structure Rounds (z : Nat) (a : Int) (d : Nat) : Prop where
  is : ∃ (R : Nat) (b : Bool), z = double.word b (min R 9218868437227405312) ∧ (∀ t, mg t * d ≤ a.natAbs → t ≤ R) ∧ (∀ t, a.natAbs ≤ mg t * d → R ≤ t) ∧ (0 < a → b = false) ∧ (a < 0 → b = true)
theorem word_parts (b : Bool) {r : Nat} (h : r ≤ 9218868437227405312) : rung (double.word b r) = r ∧ neg? (double.word b r) = b := by
  unfold Format.word Format.signWeight double rung neg?
  cases b
  · simp; omega
  · simp; omega
theorem Rounds.nan {z : Nat} {a : Int} {d : Nat} (h : Rounds z a d) : isNan z = false := by
  obtain ⟨R, b, rfl, _⟩ := h
  rw [isNan_rung, (word_parts b (Nat.min_le_right _ _)).1, decide_eq_false_iff_not]
  omega
theorem Rounds.le {z : Nat} {a : Int} {d t : Nat} (h : Rounds z a d) (ha : a.natAbs ≤ mg t * d) : rung z ≤ t := by
  obtain ⟨R, b, rfl, _, h2, _⟩ := h
  rw [(word_parts b (Nat.min_le_right _ _)).1]
  have := h2 t ha
  omega
theorem Rounds.ge {z : Nat} {a : Int} {d t : Nat} (h : Rounds z a d) (ht : t ≤ 9218868437227405312) (ha : mg t * d ≤ a.natAbs) : t ≤ rung z := by
  obtain ⟨R, b, rfl, h1, _⟩ := h
  rw [(word_parts b (Nat.min_le_right _ _)).1]
  have := h1 t ha
  omega
theorem Rounds.sign {z : Nat} {a : Int} {d : Nat} (h : Rounds z a d) : (0 < a → neg? z = false) ∧ (a < 0 → neg? z = true) := by
  obtain ⟨R, b, rfl, _, _, h3, h4⟩ := h
  rw [(word_parts b (Nat.min_le_right _ _)).2]
  exact ⟨h3, h4⟩
theorem val_abs (x : Nat) : (val x).natAbs = mg (rung x) := by
  unfold val sg
  cases neg? x <;> simp
theorem fin_nan {x : Nat} (h : Fin64 x) : isNan x = false := by
  unfold Fin64 at h
  rw [isNan_rung, decide_eq_false_iff_not]; omega
/-- A number that is written. -/
theorem writes (b : Bool) (m : Nat) (p : Int) (a : Int) (d : Nat) (hd : 0 < d) (hv : numOf m p * d = a.natAbs * denOf p) (h1 : 0 < a → b = false) (h2 : a < 0 → b = true) : Rounds (double.nearest b m p) a d := by
  have hp := denOf_pos p
  refine ⟨rdOf m p, b, nearest_rd b m p, fun t ht => rd_ge ?_, fun t ht => rd_le ?_, h1, h2⟩
  · refine Nat.le_of_mul_le_mul_right (c := d) ?_ hd
    rw [hv, Nat.mul_right_comm]
    exact Nat.mul_le_mul_right _ ht
  · refine Nat.le_of_mul_le_mul_right (c := d) ?_ hd
    rw [hv, Nat.mul_right_comm]
    exact Nat.mul_le_mul_right _ ht
theorem signed_neg (b : Bool) (m k : Nat) : signed (!b) m k = -signed b m k := by
  unfold signed
  cases b <;> simp
theorem val_read {x : Nat} (h : Fin64 x) : ∃ m k : Nat, FloatKind.f64.format.read x = .number (neg? x) m (-1074 + (k : Int)) ∧ val x = signed (neg? x) m k ∧ mg (rung x) = m * 2 ^ k := by
  obtain ⟨m, k, e, g⟩ := read_fin h
  refine ⟨m, k, e, ?_, g⟩
  rw [signed_sg, ← g]
  rfl
theorem sg_shift (b : Bool) (m k j : Nat) : signed b m (k + j) = signed b m k * ((2 ^ j : Nat) : Int) := by
  rw [signed_sg, signed_sg, Nat.pow_add, ← Nat.mul_assoc, sg_mul]
theorem sum_rounds {s t : Bool} {m n i j : Nat} : ∃ z, ((Datum.number s m (-1074 + (i : Int))).sum (.number t n (-1074 + (j : Int)))).map double.write = some z ∧ Rounds z (signed s m i + signed t n j) 1 := by
  refine ⟨_, rfl, ?_⟩
  have hb : min (-1074 + (i : Int)) (-1074 + (j : Int)) = -1074 + ((min i j : Nat) : Int) := by omega
  simp only [Format.write, hb]
  have e1 : (-1074 + (i : Int) - (-1074 + ((min i j : Nat) : Int))).toNat = i - min i j := by omega
  have e2 : (-1074 + (j : Int) - (-1074 + ((min i j : Nat) : Int))).toNat = j - min i j := by omega
  rw [e1, e2]
  have f1 : signed s m i = signed s m (i - min i j) * ((2 ^ min i j : Nat) : Int) := by rw [← sg_shift]; congr 1; omega
  have f2 : signed t n j = signed t n (j - min i j) * ((2 ^ min i j : Nat) : Int) := by rw [← sg_shift]; congr 1; omega
  rw [f1, f2, ← Int.add_mul]
  generalize signed s m (i - min i j) + signed t n (j - min i j) = T
  have hp : (0 : Int) < ((2 ^ min i j : Nat) : Int) := by exact_mod_cast Nat.two_pow_pos _
  refine writes _ _ _ _ 1 (by decide) ?_ (fun h => ?_) (fun h => ?_)
  · unfold numOf denOf
    have g1 : (-1074 + ((min i j : Nat) : Int) + 1074).toNat = min i j := by omega
    have g2 : (-(-1074 + ((min i j : Nat) : Int) + 1074)).toNat = 0 := by omega
    rw [g1, g2, Int.natAbs_mul, Int.natAbs_natCast]
  · have hT : 0 < T := by
      refine Int.lt_of_not_ge fun hle => ?_
      have := Int.mul_nonpos_of_nonpos_of_nonneg hle (Int.le_of_lt hp)
      omega
    rw [if_neg (by omega), decide_eq_false (by omega)]
  · have hT : T < 0 := by
      refine Int.lt_of_not_ge fun hle => ?_
      have := Int.mul_nonneg hle (Int.le_of_lt hp)
      omega
    rw [if_neg (by omega), decide_eq_true hT]
theorem fadd_rounds {x y : Nat} (hx : Fin64 x) (hy : Fin64 y) : Rounds (fadd x y) (val x + val y) 1 := by
  obtain ⟨m, i, e1, v1, _⟩ := val_read hx
  obtain ⟨n, j, e2, v2, _⟩ := val_read hy
  unfold fadd Format.add
  rw [e1, e2, v1, v2]
  obtain ⟨z, h1, h2⟩ := sum_rounds (s := neg? x) (t := neg? y) (m := m) (n := n) (i := i) (j := j)
  have h1' : Option.map FloatKind.f64.format.write ((Datum.number (neg? x) m (-1074 + (i : Int))).sum (.number (neg? y) n (-1074 + (j : Int)))) = some z := h1
  rw [h1']
  exact h2
theorem fsub_rounds {x y : Nat} (hx : Fin64 x) (hy : Fin64 y) : Rounds (fsub x y) (val x - val y) 1 := by
  obtain ⟨m, i, e1, v1, _⟩ := val_read hx
  obtain ⟨n, j, e2, v2, _⟩ := val_read hy
  unfold fsub Format.sub
  rw [e1, e2, v1, v2]
  obtain ⟨z, h1, h2⟩ := sum_rounds (s := neg? x) (t := !neg? y) (m := m) (n := n) (i := i) (j := j)
  have h1' : Option.map FloatKind.f64.format.write ((Datum.number (neg? x) m (-1074 + (i : Int))).sum (Datum.number (neg? y) n (-1074 + (j : Int))).opposite) = some z := h1
  rw [h1']
  rw [signed_neg] at h2
  exact h2
theorem fmul_rounds {x y : Nat} (hx : Fin64 x) (hy : Fin64 y) : Rounds (fmul x y) (val x * val y) (2 ^ 1074) := by
  obtain ⟨m, i, e1, v1, _⟩ := val_read hx
  obtain ⟨n, j, e2, v2, _⟩ := val_read hy
  unfold fmul Format.mul
  rw [e1, e2, v1, v2]
  show Rounds (double.nearest (neg? x ^^ neg? y) (m * n) (-1074 + (i : Int) + (-1074 + (j : Int)))) _ _
  have hs : ∀ (b : Bool) (a k : Nat), (signed b a k).natAbs = a * 2 ^ k := fun b a k => by
    rw [signed_sg]
    unfold sg
    generalize a * 2 ^ k = w
    cases b <;> simp
  have hpos : ∀ (b : Bool) (a k : Nat), (b = false → 0 ≤ signed b a k) ∧ (b = true → signed b a k ≤ 0) := fun b a k => by
    rw [signed_sg]
    unfold sg
    generalize a * 2 ^ k = w
    cases b <;> simp
  refine writes _ _ _ _ _ (Nat.two_pow_pos _) ?_ (fun h => ?_) (fun h => ?_)
  · rw [Int.natAbs_mul, hs, hs]
    unfold numOf denOf
    have key : m * n * 2 ^ (-1074 + (i : Int) + (-1074 + (j : Int)) + 1074).toNat * 2 ^ 1074 = m * n * (2 ^ (-1074 + (i : Int) + (-1074 + (j : Int)) + 1074).toNat * 2 ^ 1074) := Nat.mul_assoc _ _ _
    rw [key, ← Nat.pow_add]
    have e3 : m * 2 ^ i * (n * 2 ^ j) * 2 ^ (-(-1074 + (i : Int) + (-1074 + (j : Int)) + 1074)).toNat = m * n * (2 ^ i * 2 ^ j * 2 ^ (-(-1074 + (i : Int) + (-1074 + (j : Int)) + 1074)).toNat) := by
      simp only [Nat.mul_assoc, Nat.mul_left_comm, Nat.mul_comm]
    rw [e3, ← Nat.pow_add, ← Nat.pow_add]
    congr 2
    omega
  · obtain ⟨p1, p2⟩ := hpos (neg? x) m i
    obtain ⟨q1, q2⟩ := hpos (neg? y) n j
    cases hx' : neg? x <;> cases hy' : neg? y <;> rw [hx', hy'] at h <;> first | rfl | skip
    · rw [hx'] at p1; rw [hy'] at q2
      have := Int.mul_nonpos_of_nonneg_of_nonpos (p1 rfl) (q2 rfl)
      omega
    · rw [hx'] at p2; rw [hy'] at q1
      have := Int.mul_nonpos_of_nonpos_of_nonneg (p2 rfl) (q1 rfl)
      omega
  · obtain ⟨p1, p2⟩ := hpos (neg? x) m i
    obtain ⟨q1, q2⟩ := hpos (neg? y) n j
    cases hx' : neg? x <;> cases hy' : neg? y <;> rw [hx', hy'] at h <;> first | rfl | skip
    · rw [hx'] at p1; rw [hy'] at q1
      have := Int.mul_nonneg (p1 rfl) (q1 rfl)
      omega
    · rw [hx'] at p2; rw [hy'] at q2
      have := Int.mul_nonneg_of_nonpos_of_nonpos (p2 rfl) (q2 rfl)
      omega
end Go.SX

/- Bounds of what is reckoned with places; a root of a square; a half. No statement of the seat is proved here. -/
namespace Go.SX
open Ieee
set_option maxRecDepth 20000
theorem mg_pow (k : Nat) : mg ((k + 1) * 4503599627370496) = 2 ^ (k + 52) := by
  have := mg_at (k := k) (c := 4503599627370496) (.inr (Nat.le_refl _)) (by decide)
  rw [show (k + 1) * 4503599627370496 = k * 4503599627370496 + 4503599627370496 by omega, this, Nat.pow_add, Nat.mul_comm]
/-- Of at most 2^(k - 1022), without the sign; finite. -/
def Bd (k : Nat) (x : Nat) : Prop := rung x ≤ (k + 1) * 4503599627370496 ∧ k < 2045
theorem Bd.fin {k x : Nat} (h : Bd k x) : Fin64 x := by
  obtain ⟨h1, h2⟩ := h
  unfold Fin64
  omega
theorem Bd.abs {k x : Nat} (h : Bd k x) : (val x).natAbs ≤ 2 ^ (k + 52) := by
  rw [val_abs, ← mg_pow]
  exact mg_le h.1
theorem Bd.sub {k x y : Nat} (hx : Bd k x) (hy : Bd k y) (hk : k + 1 < 2045) : Bd (k + 1) (fsub x y) := by
  refine ⟨(fsub_rounds hx.fin hy.fin).le ?_, hk⟩
  have h1 := hx.abs
  have h2 := hy.abs
  rw [mg_pow, show k + 1 + 52 = (k + 52) + 1 by omega, Nat.pow_succ]
  omega
theorem Bd.add {k x y : Nat} (hx : Bd k x) (hy : Bd k y) (hk : k + 1 < 2045) : Bd (k + 1) (fadd x y) := by
  refine ⟨(fadd_rounds hx.fin hy.fin).le ?_, hk⟩
  have h1 := hx.abs
  have h2 := hy.abs
  rw [mg_pow, show k + 1 + 52 = (k + 52) + 1 by omega, Nat.pow_succ]
  omega
theorem Bd.mul {k j x y : Nat} (hx : Bd k x) (hy : Bd j y) {n : Nat} (hn : k + j + 52 ≤ n + 1074) (hk : n < 2045) : Bd n (fmul x y) := by
  refine ⟨(fmul_rounds hx.fin hy.fin).le ?_, hk⟩
  rw [mg_pow, ← Nat.pow_add, Int.natAbs_mul]
  refine Nat.le_trans (Nat.mul_le_mul hx.abs hy.abs) ?_
  rw [← Nat.pow_add]
  exact Nat.pow_le_pow_right (by decide) (by omega)
theorem within_bd {a : Nat} (h : fwithin a 4787326403894837248 = true) : Bd 1062 a := by
  unfold fwithin at h
  simp only [Bool.and_eq_true] at h
  have n0 : isNan 4787326403894837248 = false := by decide
  have n1 : isNan (fneg 4787326403894837248) = false := by decide
  have na : isNan a = false := by
    cases hn : isNan a with
    | false => rfl
    | true => rw [fle_nan (.inl hn)] at h; cases h.2
  rw [fle_val n1 na, fle_val na n0] at h
  simp only [decide_eq_true_eq] at h
  have v0 : val 4787326403894837248 = (mg 4787326403894837248 : Int) := (val_pos (by decide)).1
  have v1 : val (fneg 4787326403894837248) = -(mg 4787326403894837248 : Int) := (val_neg (r := 4787326403894837248) (by decide)).1
  rw [v0, v1] at h
  have hm : mg (rung a) ≤ mg 4787326403894837248 := by rw [← val_abs]; omega
  refine ⟨?_, by decide⟩
  refine Nat.le_of_not_lt fun hlt => ?_
  have := mg_lt hlt
  have e : (1062 + 1) * 4503599627370496 = 4787326403894837248 := by decide
  rw [e] at this
  omega
structure VBd (k : Nat) (p : GVec) : Prop where
  x : Bd k p.X
  y : Bd k p.Y
theorem vwithin_bd {p : GVec} (h : vwithin p 4787326403894837248 = true) : VBd 1062 p := by
  unfold vwithin at h
  simp only [Bool.and_eq_true] at h
  exact ⟨within_bd h.1, within_bd h.2⟩
theorem VBd.sub {k : Nat} {p q : GVec} (hp : VBd k p) (hq : VBd k q) (hk : k + 1 < 2045) : VBd (k + 1) (vsub p q) := ⟨hp.x.sub hq.x hk, hp.y.sub hq.y hk⟩
theorem VBd.cross {k : Nat} {p q : GVec} (hp : VBd k p) (hq : VBd k q) {n : Nat} (hn : k + k + 52 ≤ n + 1074) (hk : n + 1 < 2045) : Bd (n + 1) (vcross p q) :=
  (hp.x.mul hq.y hn (by omega)).sub (hp.y.mul hq.x hn (by omega)) hk
theorem VBd.dot {k : Nat} {p q : GVec} (hp : VBd k p) (hq : VBd k q) {n : Nat} (hn : k + k + 52 ≤ n + 1074) (hk : n + 1 < 2045) : Bd (n + 1) (vdot p q) :=
  (hp.x.mul hq.x hn (by omega)).add (hp.y.mul hq.y hn (by omega)) hk
/-! ### a root -/
theorem val_nonneg {x : Nat} (h : neg? x = false) : 0 ≤ val x := by
  unfold val sg
  rw [h]
  simp
theorem sq_nonneg {x : Nat} (h : Fin64 x) : 0 ≤ val (fmul x x) := by
  have hr := fmul_rounds h h
  rcases Int.lt_trichotomy (val x) 0 with g | g | g
  · exact val_nonneg (hr.sign.1 (Int.mul_pos_of_neg_of_neg g g))
  · have h0 : rung (fmul x x) ≤ 0 := hr.le (by rw [g]; simp)
    have h1 : rung (fmul x x) = 0 := by omega
    have : (val (fmul x x)).natAbs = 0 := by rw [val_abs, h1]; rfl
    omega
  · exact val_nonneg (hr.sign.1 (Int.mul_pos g g))
theorem nearest_nan (b : Bool) (m : Nat) (p : Int) : isNan (double.nearest b m p) = false := by
  rw [nearest_rd, isNan_rung, (word_parts b (Nat.min_le_right _ _)).1, decide_eq_false_iff_not]
  omega
theorem sqrt_nan {x : Nat} (h : Fin64 x) (h0 : 0 ≤ val x) : isNan ((FloatKind.f64.format.sqrt x).getD qnan) = false := by
  obtain ⟨m, k, e, v, _⟩ := val_read h
  unfold Format.sqrt
  rw [e]
  simp only [Datum.root]
  split
  · exact nearest_nan _ _ _
  · rename_i hm
    split
    · rename_i hs
      rw [hs, signed_sg] at v
      have hp : 0 < m * 2 ^ k := Nat.mul_pos (by omega) (Nat.two_pow_pos _)
      unfold sg at v
      rw [v] at h0
      simp only [if_true] at h0
      omega
    · exact nearest_nan _ _ _
theorem vlen_nan {k : Nat} {p : GVec} (hp : VBd k p) {n : Nat} (hn : k + k + 52 ≤ n + 1074) (hk : n + 1 < 2045) : isNan (vlen p) = false := by
  have h1 := hp.x.mul hp.x hn (by omega)
  have h2 := hp.y.mul hp.y hn (by omega)
  have hf : Fin64 (vsq p) := (hp.dot hp hn hk).fin
  refine sqrt_nan hf ?_
  have g1 := sq_nonneg hp.x.fin
  have g2 := sq_nonneg hp.y.fin
  have hr := fadd_rounds h1.fin h2.fin
  rcases Int.lt_or_le 0 (val (fmul p.X p.X) + val (fmul p.Y p.Y)) with g | g
  · exact val_nonneg (hr.sign.1 g)
  · have e : val (fmul p.X p.X) + val (fmul p.Y p.Y) = 0 := by omega
    have h0 : rung (fadd (fmul p.X p.X) (fmul p.Y p.Y)) ≤ 0 := hr.le (by rw [e]; simp)
    have h3 : rung (fadd (fmul p.X p.X) (fmul p.Y p.Y)) = 0 := by omega
    have : (val (fadd (fmul p.X p.X) (fmul p.Y p.Y))).natAbs = 0 := by rw [val_abs, h3]; rfl
    show 0 ≤ val (fadd (fmul p.X p.X) (fmul p.Y p.Y))
    omega
/-- Orders of floats that are numbers. -/
theorem flt_not_fle {x y : Nat} (hx : isNan x = false) (hy : isNan y = false) : flt x y = !fle y x := by
  rw [flt_val hx hy, fle_val hy hx, Bool.eq_iff_iff]
  simp
/-! ### a half -/
theorem cut_shift (b : Bool) (n d j : Nat) (hn : n ≠ 0) : Toward.even.cut b (n * 2 ^ j) (d + j) = Toward.even.cut b n d := by
  unfold Toward.cut
  have hl : (n * 2 ^ j).log2 = n.log2 + j := by
    have h1 := Nat.log2_self_le hn
    have h2 : n < 2 ^ (n.log2 + 1) := Nat.lt_log2_self
    have hne : n * 2 ^ j ≠ 0 := Nat.mul_ne_zero hn (Nat.ne_of_gt (Nat.two_pow_pos j))
    have a1 : 2 ^ (n.log2 + j) ≤ n * 2 ^ j := by rw [Nat.pow_add]; exact Nat.mul_le_mul_right _ h1
    have a2 : n * 2 ^ j < 2 ^ (n.log2 + j + 1) := by
      rw [show n.log2 + j + 1 = (n.log2 + 1) + j by omega, Nat.pow_add]
      exact Nat.mul_lt_mul_of_pos_right h2 (Nat.two_pow_pos j)
    have b1 : n.log2 + j ≤ (n * 2 ^ j).log2 := (Nat.le_log2 hne).2 a1
    have b2 : (n * 2 ^ j).log2 < n.log2 + j + 1 := (Nat.log2_lt hne).2 a2
    omega
  rw [hl, show min (d + j) (n.log2 + j + 2) = min d (n.log2 + 2) + j by omega]
  simp only [Nat.one_shiftLeft, Nat.pow_add]
  generalize 2 ^ min d (n.log2 + 2) = g
  have hj : 0 < 2 ^ j := Nat.two_pow_pos j
  generalize 2 ^ j = q at hj
  rw [Nat.mul_div_mul_right _ _ hj, Nat.mul_mod_mul_right]
  have c1 : decide (g * q < 2 * (n % g * q)) = decide (g < 2 * (n % g)) := by
    rw [Bool.eq_iff_iff, decide_eq_true_eq, decide_eq_true_eq, ← Nat.mul_assoc]
    exact Nat.mul_lt_mul_right hj
  have c2 : (g * q == 2 * (n % g * q)) = (g == 2 * (n % g)) := by
    rw [Bool.eq_iff_iff, beq_iff_eq, beq_iff_eq, ← Nat.mul_assoc]
    exact Nat.mul_right_cancel_iff hj
  rw [c1, c2]
theorem log2_shift {n : Nat} (hn : n ≠ 0) (j : Nat) : (n * 2 ^ j).log2 = n.log2 + j := by
  have h1 := Nat.log2_self_le hn
  have h2 : n < 2 ^ (n.log2 + 1) := Nat.lt_log2_self
  have hne : n * 2 ^ j ≠ 0 := Nat.mul_ne_zero hn (Nat.ne_of_gt (Nat.two_pow_pos j))
  have a1 : 2 ^ (n.log2 + j) ≤ n * 2 ^ j := by rw [Nat.pow_add]; exact Nat.mul_le_mul_right _ h1
  have a2 : n * 2 ^ j < 2 ^ (n.log2 + j + 1) := by
    rw [show n.log2 + j + 1 = (n.log2 + 1) + j by omega, Nat.pow_add]
    exact Nat.mul_lt_mul_of_pos_right h2 (Nat.two_pow_pos j)
  have b1 : n.log2 + j ≤ (n * 2 ^ j).log2 := (Nat.le_log2 hne).2 a1
  have b2 : (n * 2 ^ j).log2 < n.log2 + j + 1 := (Nat.log2_lt hne).2 a2
  omega
theorem rd_shift (m j : Nat) (p : Int) : rdOf (m * 2 ^ j) p = rdOf m (p + (j : Int)) := by
  by_cases hm : m = 0
  · subst hm; unfold rdOf; simp
  have hne : m * 2 ^ j ≠ 0 := Nat.mul_ne_zero hm (Nat.ne_of_gt (Nat.two_pow_pos j))
  have hl := log2_shift hm j
  have hL : lastOf (m * 2 ^ j) p = lastOf m (p + (j : Int)) := by unfold lastOf; rw [hl]; omega
  unfold rdOf
  rw [if_neg hm, if_neg hne, hL]
  congr 1
  unfold keptOf
  rw [hL]
  generalize lastOf m (p + (j : Int)) = L
  rw [Nat.shiftLeft_eq, Nat.shiftLeft_eq]
  by_cases h1 : L ≤ p
  · have e1 : (L - p).toNat = 0 := by omega
    have e2 : (L - (p + (j : Int))).toNat = 0 := by omega
    rw [e1, e2, Nat.mul_assoc, ← Nat.pow_add]
    congr 2
    congr 1
    omega
  · by_cases h2 : p + (j : Int) ≤ L
    · have e1 : (p - L).toNat = 0 := by omega
      have e2 : (p + (j : Int) - L).toNat = 0 := by omega
      rw [e1, e2, Nat.pow_zero, Nat.mul_one, Nat.mul_one, show (L - p).toNat = (L - (p + (j : Int))).toNat + j by omega]
      exact cut_shift _ _ _ _ hm
    · have e1 : (p - L).toNat = 0 := by omega
      have e2 : (L - (p + (j : Int))).toNat = 0 := by omega
      rw [e1, e2, Nat.pow_zero, Nat.mul_one]
      have hne2 : m * 2 ^ (p + (j : Int) - L).toNat ≠ 0 := Nat.mul_ne_zero hm (Nat.ne_of_gt (Nat.two_pow_pos _))
      have := cut_shift false (m * 2 ^ (p + (j : Int) - L).toNat) 0 (L - p).toNat hne2
      rw [← this, Nat.zero_add, Nat.mul_assoc, ← Nat.pow_add]
      congr 3
      omega
theorem nearest_shift (b : Bool) (m j : Nat) (p q : Int) (h : q = p + (j : Int)) : double.nearest b (m * 2 ^ j) p = double.nearest b m q := by
  subst h
  rw [nearest_rd, nearest_rd, rd_shift]
theorem half_nearest (b : Bool) (m : Nat) (p : Int) (hm : m ≠ 0) (hl : m.log2 ≤ 54) (c : Nat) (hc : c = 2 ^ 52) :
    double.nearest b (2 * (m <<< (106 - m.log2) / c) + (m <<< (106 - m.log2) % c != 0).toNat) (p - -51 - ((106 - m.log2 : Nat) : Int) - 1) = double.nearest b (m * c) (p + -53) := by
  have hpc : 0 < c := by rw [hc]; exact Nat.two_pow_pos _
  have hsh : m <<< (106 - m.log2) = m * 2 ^ (54 - m.log2) * c := by
    rw [Nat.shiftLeft_eq, show 106 - m.log2 = (54 - m.log2) + 52 by omega, Nat.pow_add, ← Nat.mul_assoc, hc]
  rw [hsh, Nat.mul_div_cancel _ hpc, Nat.mul_mod_left]
  have hz : ((0 : Nat) != 0).toNat = 0 := rfl
  rw [hz, Nat.add_zero]
  have h1 : 2 * (m * 2 ^ (54 - m.log2)) = m * 2 ^ (55 - m.log2) := by
    rw [show 55 - m.log2 = (54 - m.log2) + 1 by omega, Nat.pow_succ, Nat.mul_comm 2, Nat.mul_assoc]
  rw [h1, hc, nearest_shift b m (55 - m.log2) _ (p - 1) (by omega), nearest_shift b m 52 _ (p - 1) (by omega)]
theorem nearest_nought (b : Bool) (p : Int) : double.nearest b 0 p = double.word b 0 := by unfold Format.nearest; rw [if_pos rfl]
theorem half_nought (b : Bool) (k : Nat) (p q : Int) (c : Nat) : double.nearest b (2 * (0 <<< k / c) + (0 <<< k % c != 0).toNat) p = double.nearest b (0 * c) q := by
  have h0 : 2 * (0 <<< k / c) + (0 <<< k % c != 0).toNat = 0 := by simp
  rw [h0, Nat.zero_mul, nearest_nought, nearest_nought]
theorem log2_53 {m : Nat} (hm : m ≠ 0) (h : m < 2 ^ 53) : m.log2 ≤ 54 := by
  have := (Nat.log2_lt hm).2 h
  omega
theorem read_few {x m : Nat} {b : Bool} {p : Int} (h : FloatKind.f64.format.read x = .number b m p) : m < 2 ^ 53 := by
  rw [read_eq] at h
  split at h
  · injection h with _ h2 _
    rw [← h2]
    exact Nat.lt_of_lt_of_le (by assumption) (by decide)
  · split at h
    · injection h with _ h2 _
      rw [← h2, show 2 ^ 53 = 4503599627370496 + 4503599627370496 by decide]
      exact Nat.add_lt_add_left (Nat.mod_lt _ (by decide)) _
    · split at h <;> cases h
def divD (a b : Datum) : Nat := ((a.quotient 54 b).map double.write).getD qnan
def mulD (a b : Datum) : Nat := ((a.product b).map double.write).getD qnan
theorem fdiv_D (x y : Nat) : fdiv x y = divD (FloatKind.f64.format.read x) (FloatKind.f64.format.read y) := rfl
theorem fmul_D (x y : Nat) : fmul x y = mulD (FloatKind.f64.format.read x) (FloatKind.f64.format.read y) := rfl
theorem half_D (s : Bool) (m : Nat) (p : Int) (h : m < 2 ^ 53) (c : Nat) (hc : c = 2 ^ 52) (hl : c.log2 = 52) : divD (.number s m p) (.number false c (-51)) = mulD (.number s m p) (.number false c (-53)) := by
  have h0 : c ≠ 0 := by
    intro e
    have : 0 < c := by rw [hc]; exact Nat.two_pow_pos _
    omega
  unfold divD mulD
  simp only [Datum.quotient, Datum.product, if_neg h0, Option.map_some, Option.getD_some, Format.write, hl]
  by_cases hm : m = 0
  · rw [hm]; exact half_nought _ _ _ _ _
  · exact half_nearest _ m p hm (log2_53 hm h) c hc
theorem fdiv_two {x : Nat} (hx : Fin64 x) : fdiv x 4611686018427387904 = fmul x 4602678819172646912 := by
  obtain ⟨m, k, e, _⟩ := val_read hx
  have e2 : FloatKind.f64.format.read 4611686018427387904 = .number false 4503599627370496 (-51) := by decide
  have e3 : FloatKind.f64.format.read 4602678819172646912 = .number false 4503599627370496 (-53) := by decide
  rw [fdiv_D, fmul_D, e2, e3, e]
  exact half_D _ _ _ (read_few e) _ (by decide) (by decide)
end Go.SX
