/- Texts of this seat, laid together by a program: what they say stands at each. No statement of the seat is proved in this file. -/
import Derived.Test.YtkcjaejpkjojnaaGreatMv3
import Derived.ProofKit
import Derived.OpenShut
import Derived.ShutString
import Derived.ChangeOld
import Derived.Below
import Derived.SizedLaws
set_option linter.unusedSectionVars false
set_option linter.unnecessarySimpa false
set_option linter.unusedVariables false
set_option linter.unusedSimpArgs false
set_option exponentiation.threshold 4096
/- The references of shapes and polygons: their small functions; may a polygon be? No statement of the seat is proved here. -/
namespace Go.SX
open Go.Proofs
set_option maxRecDepth 20000
def c144 : FC G := FC.sp [.s .vec] fun (a, _) => .flt (vlen a)
theorem ok144 : FcOk Tryz.prog 144 c144 := sp0 L56ok Tryz.func144 (by kernel_rfl) (by kernel_rfl) (by kernel_rfl) fun (a, _) K => by kernel_rfl
noncomputable def L144 : Ctr := (144, c144) :: L56
theorem L144ok : AllOk L144 := .cons ok144 L56ok
def c150 : FC G := FC.sp [.s .vec, .s .vec] fun (a, b, _) => .flt (vcross a b)
theorem ok150 : FcOk Tryz.prog 150 c150 := sp0 L144ok Tryz.func150 (by kernel_rfl) (by kernel_rfl) (by kernel_rfl) fun (a, b, _) K => by kernel_rfl
noncomputable def L150 : Ctr := (150, c150) :: L144
theorem L150ok : AllOk L150 := .cons ok150 L144ok
def vhalf (a b : GVec) : GVec := ⟨fdiv (fadd a.X b.X) 4611686018427387904, fdiv (fadd a.Y b.Y) 4611686018427387904⟩
def c147 : FC G := FC.sp [.s .vec, .s .vec] fun (a, b, _) => encR .vec (vhalf a b)
theorem ok147 : FcOk Tryz.prog 147 c147 := sp0 L150ok Tryz.func147 (by kernel_rfl) (by kernel_rfl) (by kernel_rfl) fun (a, b, _) K => by kernel_rfl
noncomputable def L147 : Ctr := (147, c147) :: L150
theorem L147ok : AllOk L147 := .cons ok147 L150ok
def c146 : FC G := FC.sp [.s .f64] fun (a, _) => .flt (fmul a 4614256656552045848)
theorem ok146 : FcOk Tryz.prog 146 c146 := sp0 L147ok Tryz.func146 (by kernel_rfl) (by kernel_rfl) (by kernel_rfl) fun (a, _) K => by kernel_rfl
noncomputable def L146 : Ctr := (146, c146) :: L147
theorem L146ok : AllOk L146 := .cons ok146 L147ok
def rwithin (a m : Nat) : Bool := ((!isNan a && !isNan m) && !flt m a) && !flt a (fneg m)
def c244 : FC G := FC.sp [.s .f64, .s .f64] fun (a, m, _) => .bool (rwithin a m)
theorem ok244 : FcOk Tryz.prog 244 c244 := sp0 L146ok Tryz.func244 (by kernel_rfl) (by kernel_rfl) (by kernel_rfl) fun (a, m, _) K => by kernel_rfl
noncomputable def L244 : Ctr := (244, c244) :: L146
theorem L244ok : AllOk L244 := .cons ok244 L146ok
theorem rwithin_max (a : Nat) : rwithin a 4787326403894837248 = fwithin a 4787326403894837248 := by
  have h1 : isNan 4787326403894837248 = false := by decide
  have h2 : isNan (fneg 4787326403894837248) = false := by decide
  unfold rwithin fwithin
  cases h : isNan a with
  | true => rw [fle_nan (.inr h)]; rfl
  | false =>
    rw [h1, flt_val h1 h, flt_val h h2, fle_val h2 h, fle_val h h1, Bool.eq_iff_iff]
    simp only [Bool.not_false, Bool.and_self, Bool.true_and, Bool.and_eq_true, Bool.not_eq_true', decide_eq_true_eq, decide_eq_false_iff_not]
    omega
def c200 : FC G := FC.sp [.s .f64] fun (a, _) => .bool (fwithin a 4787326403894837248)
theorem ok200 : FcOk Tryz.prog 200 c200 := sp0 L244ok Tryz.func200 (by kernel_rfl) (by kernel_rfl) (by kernel_rfl) fun (a, _) K => (show xfn (EV L244 []) Tryz.f200 [] (encs [.s .f64] (a, ())) [] K = K (.bool (rwithin a 4787326403894837248)) [] [] from by kernel_rfl).trans (by rw [rwithin_max])
noncomputable def L200 : Ctr := (200, c200) :: L244
theorem L200ok : AllOk L200 := .cons ok200 L244ok
def c139 : FC G := FC.sp [.s .vec] fun (a, _) => .bool (vwithin a 4787326403894837248)
theorem ok139 : FcOk Tryz.prog 139 c139 := sp0 L200ok Tryz.func139 (by kernel_rfl) (by kernel_rfl) (by kernel_rfl) fun (a, _) K => by kernel_rfl
noncomputable def L139 : Ctr := (139, c139) :: L200
theorem L139ok : AllOk L139 := .cons ok139 L200ok
def c201 : FC G := FC.sp [.s .vec, .s .vec] fun (a, b, _) => .flt (vdot a b)
theorem ok201 : FcOk Tryz.prog 201 c201 := sp0 L139ok Tryz.func201 (by kernel_rfl) (by kernel_rfl) (by kernel_rfl) fun (a, b, _) K => by kernel_rfl
noncomputable def L201 : Ctr := (201, c201) :: L139
theorem L201ok : AllOk L201 := .cons ok201 L139ok
def c140 : FC G := FC.sp [.s .vec] fun (a, _) => .flt (vlen a)
theorem ok140 : FcOk Tryz.prog 140 c140 := sp0 L201ok Tryz.func140 (by kernel_rfl) (by kernel_rfl) (by kernel_rfl) fun (a, _) K => by kernel_rfl
noncomputable def L140 : Ctr := (140, c140) :: L201
theorem L140ok : AllOk L140 := .cons ok140 L201ok
def c141 : FC G := FC.sp [.s .vec, .s .vec] fun (a, b, _) => encR .vec (vsub a b)
theorem ok141 : FcOk Tryz.prog 141 c141 := sp0 L140ok Tryz.func141 (by kernel_rfl) (by kernel_rfl) (by kernel_rfl) fun (a, b, _) K => by kernel_rfl
noncomputable def L141 : Ctr := (141, c141) :: L140
theorem L141ok : AllOk L141 := .cons ok141 L140ok
def c209 : FC G := FC.sp [.s .vec, .s .vec] fun (a, b, _) => encR .vec (vsub b a)
theorem ok209 : FcOk Tryz.prog 209 c209 := sp0 L141ok Tryz.func209 (by kernel_rfl) (by kernel_rfl) (by kernel_rfl) fun (a, b, _) K => by kernel_rfl
noncomputable def L209 : Ctr := (209, c209) :: L141
theorem L209ok : AllOk L209 := .cons ok209 L141ok
/-! ### places -/
def h202 : LH G := ⟨[0, 2, 3], [], []⟩
def V202 (l : List GVec) (e i : Int) : List (RV G) := [.rslice .vec l, .int .i64 e, .int .i64 i]
def far202 (p : GVec) : Bool := !vawithin p 4787326403894837248
def OUT202 (l : List GVec) (K : XE → List (RV G) → List (Blk G) → Ans G) : Ans G := bif l.any far202 then K .ret (V202 l 5 (l.findIdx far202 : Nat)) [] else K (.exit 0) (V202 l 0 (l.length : Nat)) []
noncomputable def E202 (l : List GVec) : List (Nat × LC G) := [(4, lcOf h202 (V202 l 0 0) [] (OUT202 l))]
theorem step202 (lp : List (Nat × LC G)) (l : List GVec) (n : Nat) (i : Int) (K) : iter (EV L209 lp) h202 (lpBody Tryz.f202 0) (n + 1) (V202 l 0 i) [] K = bif decide (i < (l.length : Int)) then (getI l i).bind fun p =>
    bif far202 p then K .ret (V202 l 5 i) [] else iter (EV L209 lp) h202 (lpBody Tryz.f202 0) n (V202 l 0 (IntKind.i64.wrap (i + 1))) [] K
  else K (.exit 0) (V202 l 0 i) [] := by kernel_rfl
theorem x202 (l : List GVec) (K) : xfn (EV L209 (E202 l)) Tryz.f202 [] (encs [.l .vec] (l, ())) [] K = bif decide ((l.length : Int) > 64) then K (.int .i64 4) [] [] else gate (V202 l 0 0 = V202 l 0 0 ∧ ([] : List (Blk G)) = [])
    (bif l.any far202 then K (.int .i64 5) [] [] else K (.int .i64 0) [] []) := by kernel_rfl
theorem far_eq : far202 = fun p => !vwithin p 4787326403894837248 := by
  funext p
  unfold far202
  rw [vwithin_max]
def c202 : FC G := FC.sp [.l .vec] fun (l, _) => .int .i64 (preal l)
theorem ok202 : FcOk Tryz.prog 202 c202 := sp_lp L209ok Tryz.func202 (by kernel_rfl) (by kernel_rfl) fun (l, _) ⟨hx, _⟩ => ⟨E202 l, lps1 (i := 4) (by kernel_rfl) rfl (lcOf_ok (by kernel_rfl) fun K => ⟨_, find_loop (xs := l) (p := far202) (F := fun n i => iter (EV L209 (E202 l)) h202 (lpBody Tryz.f202 0) n (V202 l 0 i) [] K)
    (R := fun i => K .ret (V202 l 5 i) []) (X := fun i => K (.exit 0) (V202 l 0 i) []) (fun n i => step202 _ l n i K) hx⟩), fun K => (x202 l K).trans (by
  show _ = K (.int .i64 (preal l)) [] []
  unfold preal
  rw [gate_pos ⟨rfl, rfl⟩, far_eq]
  cases decide (((l : List GVec).length : Int) > 64) with
  | true => rfl
  | false => cases (l : List GVec).any (fun p => !vwithin p 4787326403894837248) <;> rfl)⟩
noncomputable def L202 : Ctr := (202, c202) :: L209
theorem L202ok : AllOk L202 := .cons ok202 L209ok
/-! ### sides -/
structure InL (l : List GVec) (i : Int) : Prop where
  i0 : 0 ≤ i
  i1 : i < (l.length : Int)
  few : l.length ≤ 64
def nextOf (l : List GVec) (i : Nat) : Nat := (i + 1) % l.length
noncomputable def c204 : FC G := FC.rn [.l .vec, .s .i64] fun (l, i, _) K => gate (InL l i) (K (.int .i64 (nextOf l (i : Int).toNat : Nat)) [] [])
theorem ok204 : FcOk Tryz.prog 204 c204 := rn_ok L202ok Tryz.func204 (by kernel_rfl) [] (.none (by kernel_rfl)) (by kernel_rfl) fun (l, i, _) K o h => by
  obtain ⟨⟨h0, h1, h2⟩, h3⟩ := gate_some h
  obtain ⟨k, rfl⟩ := Int.eq_ofNat_of_zero_le h0
  have e : (((l : List GVec).length : Int) == 0) = false := beq_eq_false_iff_ne.2 (by omega)
  refine (show xfn (EV L202 []) Tryz.f204 [] (encs [.l .vec, .s .i64] (l, (k : Int), ())) [] K = (bif ((l : List GVec).length : Int) == 0 then none else K (.int .i64 ((IntKind.i64.wrap ((k : Int) + 1)).tmod (l : List GVec).length)) [] []) from by kernel_rfl).trans ?_
  rw [e, cond_false, wrap_succ (by omega), tmod_at]
  exact h3
noncomputable def L204 : Ctr := (204, c204) :: L202
theorem L204ok : AllOk L204 := .cons ok204 L202ok
noncomputable def c203 : FC G := FC.rn [.l .vec, .s .i64] fun (l, i, _) K => gate (InL l i) (K (encR .vec (vside l (i : Int).toNat)) [] [])
theorem ok203 : FcOk Tryz.prog 203 c203 := rn_ok L204ok Tryz.func203 (by kernel_rfl) [] (.none (by kernel_rfl)) (by kernel_rfl) fun (l, i, _) K o h => by
  obtain ⟨hin, h3⟩ := gate_some h
  obtain ⟨h0, h1, h2⟩ := hin
  obtain ⟨k, rfl⟩ := Int.eq_ofNat_of_zero_le h0
  have hk : k < (l : List GVec).length := by omega
  refine (show xfn (EV L204 []) Tryz.f203 [] (encs [.l .vec, .s .i64] (l, (k : Int), ())) [] K = ((getI (l : List GVec) (k : Int)).bind fun p => gate (InL l (k : Int)) ((getI (l : List GVec) (nextOf l k : Nat)).bind fun q => K (encR .vec (vsub q p)) [] [])) from by kernel_rfl).trans ?_
  rw [getI_V hk, Option.bind_some, gate_pos ⟨h0, h1, h2⟩, getI_V (show nextOf l k < (l : List GVec).length from Nat.mod_lt _ (by omega)), Option.bind_some]
  exact h3
noncomputable def L203 : Ctr := (203, c203) :: L204
theorem L203ok : AllOk L203 := .cons ok203 L204ok
noncomputable def c205 : FC G := FC.rn [.l .vec, .s .i64, .s .vec] fun (l, i, p, _) K => gate (InL l i) (K (.flt (vcross (vside l (i : Int).toNat) (vsub p (getV l (i : Int).toNat)))) [] [])
theorem ok205 : FcOk Tryz.prog 205 c205 := rn_ok L203ok Tryz.func205 (by kernel_rfl) [] (.none (by kernel_rfl)) (by kernel_rfl) fun (l, i, p, _) K o h => by
  obtain ⟨hin, h3⟩ := gate_some h
  obtain ⟨h0, h1, h2⟩ := hin
  obtain ⟨k, rfl⟩ := Int.eq_ofNat_of_zero_le h0
  have hk : k < (l : List GVec).length := by omega
  refine (show xfn (EV L203 []) Tryz.f205 [] (encs [.l .vec, .s .i64, .s .vec] (l, (k : Int), p, ())) [] K = (gate (InL l (k : Int)) ((getI (l : List GVec) (k : Int)).bind fun q => K (.flt (vcross (vside l k) (vsub p q))) [] [])) from by kernel_rfl).trans ?_
  rw [gate_pos ⟨h0, h1, h2⟩, getI_V hk, Option.bind_some]
  exact h3
noncomputable def L205 : Ctr := (205, c205) :: L203
theorem L205ok : AllOk L205 := .cons ok205 L203ok
/-! ### may a polygon be? -/
def qbad2 (l : List GVec) (i k : Nat) : Bool := bif ((k : Int) != (i : Int)) then (bif ((k : Int) != (nextOf l i : Nat)) then !flt 0 (vcross (vside l i) (vsub (getV l k) (getV l i))) else false) else false
def qbadk (l : List GVec) (i : Nat) : Bool := (List.range l.length).any (qbad2 l i)
def qbad (l : List GVec) (i : Nat) : Bool := !fle 4472074429978902528 (vlen (vside l i)) || qbadk l i
def rerr6 (l : List GVec) : Int := bif preal l != 0 then preal l else bif decide ((l.length : Int) < 3) then 60 else bif (List.range l.length).any (qbad l) then 60 else 0
def h142o : LH G := ⟨[0, 2, 4], [], []⟩
def h142i : LH G := ⟨[0, 2, 4, 5], [], []⟩
def V142 (l : List GVec) (e i : Int) : List (RV G) := [.rslice .vec l, .int .i64 e, .int .i64 i]
def W142 (l : List GVec) (e i k : Int) : List (RV G) := [.rslice .vec l, .int .i64 e, .int .i64 i, .int .i64 k]
noncomputable def in142 (l : List GVec) : LC G := ⟨h142i, fun vs bs K => match vs with
  | [_, _, .int .i64 i, _] => gate (0 ≤ i ∧ i < (l.length : Int) ∧ vs = W142 l 0 i 0 ∧ bs = [])
      (bif qbadk l i.toNat then K .ret (W142 l 60 i ((List.range l.length).findIdx (qbad2 l i.toNat) : Nat)) [] else K (.exit 2) (W142 l 0 i (l.length : Nat)) [])
  | _ => none⟩
noncomputable def E142 (l : List GVec) : List (Nat × LC G) := [(7, lcOf h142o (V142 l 0 0) [] fun K => bif (List.range l.length).any (qbad l) then K .ret (V142 l 60 ((List.range l.length).findIdx (qbad l) : Nat)) [] else K (.exit 0) (V142 l 0 (l.length : Nat)) []), (12, in142 l)]
theorem step142i (lp : List (Nat × LC G)) (l : List GVec) (i : Int) (n : Nat) (k : Int) (K) : iter (EV L205 lp) h142i (lpBody Tryz.f142 1) (n + 1) (W142 l 0 i k) [] K = bif decide (k < (l.length : Int)) then
    bif k != i then gate (InL l i) (bif k != (nextOf l i.toNat : Nat) then (getI l k).bind fun p => gate (InL l i) (bif !flt 0 (vcross (vside l i.toNat) (vsub p (getV l i.toNat))) then K .ret (W142 l 60 i k) [] else iter (EV L205 lp) h142i (lpBody Tryz.f142 1) n (W142 l 0 i (IntKind.i64.wrap (k + 1))) [] K)
      else iter (EV L205 lp) h142i (lpBody Tryz.f142 1) n (W142 l 0 i (IntKind.i64.wrap (k + 1))) [] K)
    else iter (EV L205 lp) h142i (lpBody Tryz.f142 1) n (W142 l 0 i (IntKind.i64.wrap (k + 1))) [] K
  else K (.exit 2) (W142 l 0 i k) [] := by kernel_rfl
theorem step142o (l : List GVec) (n : Nat) (i : Int) (K) : iter (EV L205 (E142 l)) h142o (lpBody Tryz.f142 0) (n + 1) (V142 l 0 i) [] K = bif decide (i < (l.length : Int)) then gate (InL l i)
    (bif !fle 4472074429978902528 (vlen (vside l i.toNat)) then K .ret (V142 l 60 i) [] else gate (0 ≤ i ∧ i < (l.length : Int) ∧ W142 l 0 i 0 = W142 l 0 i 0 ∧ ([] : List (Blk G)) = [])
      (bif qbadk l i.toNat then K .ret (V142 l 60 i) [] else iter (EV L205 (E142 l)) h142o (lpBody Tryz.f142 0) n (V142 l 0 (IntKind.i64.wrap (i + 1))) [] K))
  else K (.exit 0) (V142 l 0 i) [] := by kernel_rfl
theorem x142 (l : List GVec) (K) : xfn (EV L205 (E142 l)) Tryz.f142 [] (encs [.l .vec] (l, ())) [] K = bif preal l != 0 then K (.int .i64 (preal l)) [] [] else bif decide ((l.length : Int) < 3) then K (.int .i64 60) [] [] else gate (V142 l 0 0 = V142 l 0 0 ∧ ([] : List (Blk G)) = [])
    (bif (List.range l.length).any (qbad l) then K (.int .i64 60) [] [] else K (.int .i64 0) [] []) := by kernel_rfl
theorem x142n (l : List GVec) (K) : xfn (EV L205 []) Tryz.f142 [] (encs [.l .vec] (l, ())) [] K = bif preal l != 0 then K (.int .i64 (preal l)) [] [] else bif decide ((l.length : Int) < 3) then K (.int .i64 60) [] [] else none := by kernel_rfl
theorem lp142i (l : List GVec) (lp : List (Nat × LC G)) (hl : l.length ≤ 64) : LpOk (EV L205 lp) [] (lpBody Tryz.f142 1) (in142 l) := lpOk_of (by kernel_rfl) fun vs bs K o h => by
  simp only [in142] at h
  split at h
  · rename_i i x3
    obtain ⟨⟨h0, h1, hv, rfl⟩, g⟩ := gate_some h
    obtain ⟨i, rfl⟩ := Int.eq_ofNat_of_zero_le h0
    rw [hv]
    rw [Int.toNat_natCast] at g
    exact ⟨_, (idx_loop (N := l.length) (p := qbad2 l i) (F := fun n k => iter (EV L205 lp) h142i (lpBody Tryz.f142 1) n (W142 l 0 i k) [] K) (R := fun k => K .ret (W142 l 60 i k) []) (X := fun k => K (.exit 2) (W142 l 0 i k) [])
      (fun n k hk => by
        rw [step142i, decide_eq_true (by omega), cond_true, gate_pos ⟨h0, h1, hl⟩, getI_V hk, Option.bind_some, gate_pos ⟨h0, h1, hl⟩, wrap_succ (by omega), Int.toNat_natCast]
        unfold qbad2
        cases ((k : Int) != (i : Int)) <;> cases ((k : Int) != (nextOf l i : Nat)) <;> rfl)
      (fun n => by rw [step142i, decide_eq_false (by omega)]; rfl)).trans g⟩
  · cases h
theorem lp142o (l : List GVec) (hl : l.length ≤ 64) : LpOk (EV L205 (E142 l)) [] (lpBody Tryz.f142 0) (lcOf h142o (V142 l 0 0) [] fun K => bif (List.range l.length).any (qbad l) then K .ret (V142 l 60 ((List.range l.length).findIdx (qbad l) : Nat)) [] else K (.exit 0) (V142 l 0 (l.length : Nat)) []) :=
  lcOf_ok (by kernel_rfl) fun K => ⟨_, idx_loop (N := l.length) (p := qbad l) (F := fun n i => iter (EV L205 (E142 l)) h142o (lpBody Tryz.f142 0) n (V142 l 0 i) [] K) (R := fun i => K .ret (V142 l 60 i) []) (X := fun i => K (.exit 0) (V142 l 0 i) [])
    (fun n i hi => by
      rw [step142o, decide_eq_true (by omega), cond_true, gate_pos ⟨by omega, by omega, hl⟩, Int.toNat_natCast, gate_pos ⟨by omega, by omega, rfl, rfl⟩, wrap_succ (by omega)]
      unfold qbad
      cases fle 4472074429978902528 (vlen (vside l i)) <;> rfl)
    (fun n => by rw [step142o, decide_eq_false (by omega)]; rfl)⟩
/-! ### the two ways to ask are one -/
theorem real_at {l : List GVec} (h : (preal l != 0) = false) {i : Nat} (hi : i < l.length) : VBd 1062 (getV l i) := by
  unfold preal at h
  cases h1 : decide ((l.length : Int) > 64) with
  | true => rw [h1] at h; simp at h
  | false =>
    rw [h1, cond_false] at h
    cases h2 : l.any (fun p => !vwithin p 4787326403894837248) with
    | true => rw [h2] at h; simp at h
    | false =>
      rw [List.any_eq_false] at h2
      have hm : getV l i ∈ l := by
        unfold getV
        rw [List.getD_eq_getElem?_getD, List.getElem?_eq_getElem hi]
        exact List.getElem_mem hi
      exact vwithin_bd (by simpa using h2 _ hm)
theorem side_bd {l : List GVec} (h : (preal l != 0) = false) {i : Nat} (hi : i < l.length) : VBd 1063 (vside l i) :=
  (real_at h (Nat.mod_lt _ (by omega))).sub (real_at h hi) (by decide)
theorem cross_nan {l : List GVec} (h : (preal l != 0) = false) {i k : Nat} (hi : i < l.length) (hk : k < l.length) : isNan (vcross (vside l i) (vsub (getV l k) (getV l i))) = false :=
  fin_nan ((side_bd h hi).cross ((real_at h hk).sub (real_at h hi) (by decide)) (n := 1104) (by decide) (by decide)).fin
theorem side_nan {l : List GVec} (h : (preal l != 0) = false) {i : Nat} (hi : i < l.length) : isNan (vlen (vside l i)) = false := vlen_nan (side_bd h hi) (n := 1104) (by decide) (by decide)
theorem round_at {n i k : Nat} (hi : i < n) (hk : k < n) (h1 : k ≠ i) (h2 : k ≠ (i + 1) % n) : ∃ j, 2 ≤ j ∧ j < n ∧ (i + j) % n = k := by
  by_cases h : i < k
  · refine ⟨k - i, ?_, by omega, by rw [show i + (k - i) = k by omega, Nat.mod_eq_of_lt hk]⟩
    refine Nat.le_of_not_lt fun hlt => h2 ?_
    rw [Nat.mod_eq_of_lt (by omega)]; omega
  · refine ⟨k + n - i, ?_, by omega, by rw [show i + (k + n - i) = k + n by omega, Nat.add_mod_right, Nat.mod_eq_of_lt hk]⟩
    refine Nat.le_of_not_lt fun hlt => h2 ?_
    rw [show i + 1 = n by omega, Nat.mod_self]; omega
theorem round_not {n i j : Nat} (hi : i < n) (h1 : 2 ≤ j) (h2 : j < n) : (i + j) % n ≠ i ∧ (i + j) % n ≠ (i + 1) % n := by
  by_cases h : i + j < n
  · rw [Nat.mod_eq_of_lt h, Nat.mod_eq_of_lt (show i + 1 < n by omega)]; omega
  · have e : (i + j) % n = i + j - n := by rw [Nat.mod_eq_sub_mod (by omega), Nat.mod_eq_of_lt (by omega)]
    by_cases g : i + 1 < n
    · rw [e, Nat.mod_eq_of_lt g]; omega
    · rw [e, show i + 1 = n by omega, Nat.mod_self]; omega
theorem badk_eq {l : List GVec} (h : (preal l != 0) = false) {i : Nat} (hi : i < l.length) : qbadk l i = pbadk l i := by
  unfold qbadk pbadk
  rw [Bool.eq_iff_iff, List.any_eq_true, List.any_eq_true]
  have hc : ∀ k, k < l.length → (!flt 0 (vcross (vside l i) (vsub (getV l k) (getV l i)))) = fle (vcross (vside l i) (vsub (getV l k) (getV l i))) 0 := fun k hk => by
    rw [flt_not_fle (by decide) (cross_nan h hi hk), Bool.not_not]
  constructor
  · rintro ⟨k, hk, hb⟩
    rw [List.mem_range] at hk
    unfold qbad2 at hb
    cases h1 : ((k : Int) != (i : Int)) with
    | false => rw [h1] at hb; cases hb
    | true =>
      cases h2 : ((k : Int) != (nextOf l i : Nat)) with
      | false => rw [h1, h2] at hb; cases hb
      | true =>
        rw [h1, h2, cond_true, cond_true, hc k hk] at hb
        simp only [bne_iff_ne, ne_eq] at h1 h2
        obtain ⟨j, j1, j2, j3⟩ := round_at hi hk (fun e => h1 (by omega)) (fun e => h2 (by unfold nextOf; omega))
        refine ⟨j, List.mem_range'_1.2 (by omega), ?_⟩
        unfold pbad2
        rw [j3]; exact hb
  · rintro ⟨j, hj, hb⟩
    rw [List.mem_range'_1] at hj
    have hk : (i + j) % l.length < l.length := Nat.mod_lt _ (by omega)
    obtain ⟨n1, n2⟩ := round_not hi hj.1 (show j < l.length by omega)
    refine ⟨(i + j) % l.length, List.mem_range.2 hk, ?_⟩
    unfold qbad2
    have h1 : ((((i + j) % l.length : Nat) : Int) != (i : Int)) = true := by rw [bne_iff_ne]; omega
    have h2 : ((((i + j) % l.length : Nat) : Int) != (nextOf l i : Nat)) = true := by rw [bne_iff_ne]; unfold nextOf; omega
    rw [h1, h2, cond_true, cond_true, hc _ hk]
    exact hb
theorem bad_eq {l : List GVec} (h : (preal l != 0) = false) {i : Nat} (hi : i < l.length) : qbad l i = pbad l i := by
  unfold qbad pbad
  rw [badk_eq h hi, flt_not_fle (side_nan h hi) (by decide)]
theorem any_alike {n : Nat} {p q : Nat → Bool} (h : ∀ i, i < n → p i = q i) : (List.range n).any p = (List.range n).any q := by
  rw [Bool.eq_iff_iff, List.any_eq_true, List.any_eq_true]
  constructor
  · rintro ⟨i, hi, hp⟩
    exact ⟨i, hi, by rw [← h i (List.mem_range.1 hi)]; exact hp⟩
  · rintro ⟨i, hi, hp⟩
    exact ⟨i, hi, by rw [h i (List.mem_range.1 hi)]; exact hp⟩
theorem rerr6_eq (l : List GVec) : rerr6 l = perr l := by
  unfold rerr6 perr
  cases h : preal l != 0 with
  | true => rfl
  | false => rw [any_alike fun i hi => bad_eq h hi]
def c142 : FC G := FC.sp [.l .vec] fun (l, _) => .int .i64 (perr l)
theorem ok142 : FcOk Tryz.prog 142 c142 := sp_lp L205ok Tryz.func142 (by kernel_rfl) (by kernel_rfl) fun (l, _) _ => by
  show ∃ lp, LpsOk (EV L205 lp) [] (bodyD Tryz.f142) ∧ ∀ K, xfn (EV L205 lp) Tryz.f142 [] (encs [.l .vec] (l, ())) [] K = K (.int .i64 (perr l)) [] []
  rw [← rerr6_eq]
  unfold rerr6
  cases h1 : (preal (l : List GVec) != 0) with
  | true => exact ⟨[], LpsOk.of _ fun _ _ _ _ h => (by cases h), fun K => (x142n l K).trans (by rw [h1]; rfl)⟩
  | false =>
    cases h2 : decide (((l : List GVec).length : Int) < 3) with
    | true => exact ⟨[], LpsOk.of _ fun _ _ _ _ h => (by cases h), fun K => (x142n l K).trans (by rw [h1, h2]; rfl)⟩
    | false =>
      have hl := preal_few h1
      rw [decide_eq_false_iff_not] at h2
      refine ⟨E142 l, lps2 (i := 7) (j := 12) (by kernel_rfl) rfl (lp142o l hl) rfl (lp142i l _ hl), fun K => (x142 l K).trans ?_⟩
      rw [h1, decide_eq_false h2, cond_false, cond_false, gate_pos ⟨rfl, rfl⟩]
      cases (List.range (l : List GVec).length).any (qbad l) <;> rfl
noncomputable def L142 : Ctr := (142, c142) :: L205
theorem L142ok : AllOk L142 := .cons ok142 L205ok
end Go.SX

/- The references of polygons and of what shapes weigh. No statement of the seat is proved here. -/
namespace Go.SX
open Go.Proofs
set_option maxRecDepth 20000
/-! ### twice the area -/
def h208 : LH G := ⟨[0, 3, 4], [], []⟩
def V208 (l : List GVec) (s : Nat) (i : Int) : List (RV G) := [.rslice .vec l, .flt s, .int .i64 i]
noncomputable def E208 (l : List GVec) : List (Nat × LC G) := [(3, lcOf h208 (V208 l 0 1) [] fun K => K (.exit 0) (V208 l (wall l).1 (l.length - 1 : Nat)) [])]
theorem step208 (lp : List (Nat × LC G)) (l : List GVec) (s : Nat) (n : Nat) (i : Int) (K) : iter (EV L142 lp) h208 (lpBody Tryz.f208 0) (n + 1) (V208 l s i) [] K = bif decide (i < IntKind.i64.wrap ((l.length : Int) - 1)) then
    (getI l 0).bind fun o => (getI l i).bind fun a => (getI l 0).bind fun o2 => (getI l (IntKind.i64.wrap (i + 1))).bind fun b =>
      bif i == 1 then iter (EV L142 lp) h208 (lpBody Tryz.f208 0) n (V208 l (vcross (vsub a o) (vsub b o2)) (IntKind.i64.wrap (i + 1))) [] K
      else iter (EV L142 lp) h208 (lpBody Tryz.f208 0) n (V208 l (fadd s (vcross (vsub a o) (vsub b o2))) (IntKind.i64.wrap (i + 1))) [] K
  else K (.exit 0) (V208 l s i) [] := by kernel_rfl
theorem x208 (l : List GVec) (K) : xfn (EV L142 (E208 l)) Tryz.f208 [] (encs [.l .vec] (l, ())) [] K = gate (V208 l 0 1 = V208 l 0 1 ∧ ([] : List (Blk G)) = []) (K (.flt (wall l).1) [] []) := by kernel_rfl
def w1a (l : List GVec) (s : Nat) (i : Nat) : Nat := bif ((i : Nat) : Int) == 1 then wc l i else fadd s (wc l i)
theorem wall_fst (l : List GVec) : (wall l).1 = (List.range' 1 (l.length - 1 - 1)).foldl (w1a l) 0 := by
  unfold wall
  have main : ∀ (r : List Nat) (t : Nat × GVec), (r.foldl (w1 l) t).1 = r.foldl (w1a l) t.1 := fun r => by
    induction r with
    | nil => intro t; rfl
    | cons i r ih =>
      intro t
      rw [List.foldl_cons, List.foldl_cons, ih]
      congr 1
      unfold w1 w1a
      cases ((i : Nat) : Int) == 1 <;> rfl
  exact main _ _
noncomputable def c208 : FC G := FC.rn [.l .vec] fun (l, _) K => gate (3 ≤ (l : List GVec).length ∧ (l : List GVec).length ≤ 64) (K (.flt (wall l).1) [] [])
theorem ok208 : FcOk Tryz.prog 208 c208 := rn_lp L142ok Tryz.func208 (by kernel_rfl) (by kernel_rfl) (fun _ K o h => ⟨_, _, _, (gate_some h).2⟩) fun (l, _) _ => by
  by_cases hl : 3 ≤ (l : List GVec).length ∧ (l : List GVec).length ≤ 64
  · obtain ⟨h3, hm⟩ := hl
    have hw : IntKind.i64.wrap (((l : List GVec).length : Int) - 1) = (((l : List GVec).length - 1 : Nat) : Int) := by rw [IntKind.wrap_i64]; omega
    have h0 : getI (l : List GVec) 0 = some (getV l 0) := getI_V (k := 0) (by omega)
    refine ⟨E208 l, lps1 (i := 3) (by kernel_rfl) rfl (lcOf_ok (by kernel_rfl) fun K => ⟨_, (fold_from (a := 1) (N := (l : List GVec).length - 1) (g := w1a l) (F := fun n i s => iter (EV L142 (E208 l)) h208 (lpBody Tryz.f208 0) n (V208 l s i) [] K)
        (X := fun s => K (.exit 0) (V208 l s ((l : List GVec).length - 1 : Nat)) []) (s0 := 0) (fun _ _ => True) trivial (by omega)
        (fun n i s _ hi _ => by
          rw [step208, hw, decide_eq_true (by omega), cond_true, h0, Option.bind_some, getI_V (by omega), Option.bind_some, Option.bind_some, wrap_succ (by omega), getI_V (by omega), Option.bind_some]
          unfold w1a
          cases ((i : Nat) : Int) == 1 <;> rfl)
        (fun _ _ _ _ _ => trivial) (fun n s _ => by rw [step208, hw, decide_eq_false (by omega)]; rfl)).trans (by rw [← wall_fst])⟩), fun K o h => (x208 l K).trans ?_⟩
    rw [gate_pos ⟨rfl, rfl⟩]
    exact (gate_some h).2
  · exact ⟨[], LpsOk.of _ fun _ _ _ _ h => (by cases h), fun K o h => absurd (gate_some h).1 hl⟩
noncomputable def L208 : Ctr := (208, c208) :: L142
theorem L208ok : AllOk L208 := .cons ok208 L142ok
theorem x148 (l : List GVec) (K) : xfn (EV L208 []) Tryz.f148 [] (encs [.l .vec] (l, ())) [] K = bif perr l != 0 then K (.tuple [.flt 0, .int .i64 (perr l)]) [] [] else gate (3 ≤ l.length ∧ l.length ≤ 64) (bif pflat l then K (.tuple [.flt 0, .int .i64 61]) [] [] else
    K (.tuple [.flt (fmul (wall l).1 4602678819172646912), .int .i64 0]) [] []) := by kernel_rfl
def c148 : FC G := FC.sp [.l .vec] fun (l, _) => .tuple [.flt (areaM l), .int .i64 (areaE l)]
theorem ok148 : FcOk Tryz.prog 148 c148 := sp0 L208ok Tryz.func148 (by kernel_rfl) (by kernel_rfl) (by kernel_rfl) fun (l, _) K => (x148 l K).trans (by
  show _ = K (.tuple [.flt (areaM l), .int .i64 (areaE l)]) [] []
  unfold areaM areaE
  cases h1 : perr (l : List GVec) != 0 with
  | true => simp only [cond_true, h1]
  | false =>
    rw [gate_pos (perr_ok h1)]
    cases pflat l <;> rfl)
noncomputable def L148 : Ctr := (148, c148) :: L208
theorem L148ok : AllOk L148 := .cons ok148 L208ok
/-! ### the middle -/
def h149 : LH G := ⟨[0, 2, 6, 7, 8], [], [2]⟩
def V149 (l : List GVec) (x y : Nat) (i : Int) : List (RV G) := [.rslice .vec l, .ptr 2 0 0 0, .flt x, .flt y, .int .i64 i]
def B149 : List (Blk G) := [.cells (encG .vec vec0)]
noncomputable def E149 (l : List GVec) : List (Nat × LC G) := [(7, lcOf h149 (V149 l 0 0 1) B149 fun K => K (.exit 0) (V149 l (wall l).2.X (wall l).2.Y (l.length - 1 : Nat)) B149)]
theorem step149 (lp : List (Nat × LC G)) (l : List GVec) (x y : Nat) (n : Nat) (i : Int) (K) : iter (EV L148 lp) h149 (lpBody Tryz.f149 0) (n + 1) (V149 l x y i) B149 K = bif decide (i < IntKind.i64.wrap ((l.length : Int) - 1)) then
    (getI l 0).bind fun o => (getI l i).bind fun a => (getI l 0).bind fun o2 => (getI l (IntKind.i64.wrap (i + 1))).bind fun b =>
      bif i == 1 then iter (EV L148 lp) h149 (lpBody Tryz.f149 0) n (V149 l (fmul (fadd (vsub a o).X (vsub b o2).X) (vcross (vsub a o) (vsub b o2))) (fmul (fadd (vsub a o).Y (vsub b o2).Y) (vcross (vsub a o) (vsub b o2))) (IntKind.i64.wrap (i + 1))) B149 K
      else iter (EV L148 lp) h149 (lpBody Tryz.f149 0) n (V149 l (fadd x (fmul (fadd (vsub a o).X (vsub b o2).X) (vcross (vsub a o) (vsub b o2)))) (fadd y (fmul (fadd (vsub a o).Y (vsub b o2).Y) (vcross (vsub a o) (vsub b o2)))) (IntKind.i64.wrap (i + 1))) B149 K
  else K (.exit 0) (V149 l x y i) B149 := by kernel_rfl
theorem x149 (l : List GVec) (K) : xfn (EV L148 (E149 l)) Tryz.f149 [] (encs [.l .vec] (l, ())) [] K = bif areaE l != 0 then K (.tuple [encR .vec vec0, .int .i64 (areaE l)]) [] [] else gate (V149 l 0 0 1 = V149 l 0 0 1 ∧ B149 = B149) (gate (3 ≤ l.length ∧ l.length ≤ 64)
    ((getI l 0).bind fun p => (getI l 0).bind fun q => K (.tuple [encR .vec ⟨fadd p.X (fdiv (wall l).2.X (fmul 4613937818241073152 (wall l).1)), fadd q.Y (fdiv (wall l).2.Y (fmul 4613937818241073152 (wall l).1))⟩, .int .i64 0]) [] [])) := by kernel_rfl
theorem x149n (l : List GVec) (K) : xfn (EV L148 []) Tryz.f149 [] (encs [.l .vec] (l, ())) [] K = bif areaE l != 0 then K (.tuple [encR .vec vec0, .int .i64 (areaE l)]) [] [] else none := by kernel_rfl
def w1b (l : List GVec) (t : GVec) (i : Nat) : GVec := bif ((i : Nat) : Int) == 1 then wp l i else vadd t (wp l i)
theorem wall_snd (l : List GVec) : (wall l).2 = (List.range' 1 (l.length - 1 - 1)).foldl (w1b l) vec0 := by
  unfold wall
  have main : ∀ (r : List Nat) (t : Nat × GVec), (r.foldl (w1 l) t).2 = r.foldl (w1b l) t.2 := fun r => by
    induction r with
    | nil => intro t; rfl
    | cons i r ih =>
      intro t
      rw [List.foldl_cons, List.foldl_cons, ih]
      congr 1
      unfold w1 w1b
      cases ((i : Nat) : Int) == 1 <;> rfl
  exact main _ _
theorem lp149 (l : List GVec) (h3 : 3 ≤ l.length) (hm : l.length ≤ 64) : LpOk (EV L148 (E149 l)) [] (lpBody Tryz.f149 0) (lcOf h149 (V149 l 0 0 1) B149 fun K => K (.exit 0) (V149 l (wall l).2.X (wall l).2.Y (l.length - 1 : Nat)) B149) := by
  have hw : IntKind.i64.wrap ((l.length : Int) - 1) = ((l.length - 1 : Nat) : Int) := by rw [IntKind.wrap_i64]; omega
  have h0 : getI l 0 = some (getV l 0) := getI_V (k := 0) (by omega)
  exact lcOf_ok (by kernel_rfl) fun K => ⟨_, (fold_from (a := 1) (N := l.length - 1) (g := w1b l) (F := fun n i (t : GVec) => iter (EV L148 (E149 l)) h149 (lpBody Tryz.f149 0) n (V149 l t.X t.Y i) B149 K)
        (X := fun (t : GVec) => K (.exit 0) (V149 l t.X t.Y (l.length - 1 : Nat)) B149) (s0 := vec0) (fun _ _ => True) trivial (by omega)
        (fun n i t _ hi _ => by
          rw [step149, hw, decide_eq_true (by omega), cond_true, h0, Option.bind_some, getI_V (by omega), Option.bind_some, Option.bind_some, wrap_succ (by omega), getI_V (by omega), Option.bind_some]
          unfold w1b
          cases ((i : Nat) : Int) == 1 <;> rfl)
        (fun _ _ _ _ _ => trivial) (fun n t _ => by rw [step149, hw, decide_eq_false (by omega)]; rfl)).trans (by rw [← wall_snd])⟩
def c149 : FC G := FC.sp [.l .vec] fun (l, _) => .tuple [encR .vec (midM l), .int .i64 (areaE l)]
theorem ok149 : FcOk Tryz.prog 149 c149 := sp_lp L148ok Tryz.func149 (by kernel_rfl) (by kernel_rfl) fun (l, _) _ => by
  show ∃ lp, LpsOk (EV L148 lp) [] (bodyD Tryz.f149) ∧ ∀ K, xfn (EV L148 lp) Tryz.f149 [] (encs [.l .vec] (l, ())) [] K = K (.tuple [encR .vec (midM l), .int .i64 (areaE l)]) [] []
  unfold midM
  cases h1 : areaE (l : List GVec) != 0 with
  | true => exact ⟨[], LpsOk.of _ fun _ _ _ _ h => (by cases h), fun K => (x149n l K).trans (by rw [h1]; rfl)⟩
  | false =>
    obtain ⟨h3, hm⟩ := areaE_ok h1
    have h0 : getI (l : List GVec) 0 = some (getV l 0) := getI_V (k := 0) (by omega)
    refine ⟨E149 l, lps1 (i := 7) (by kernel_rfl) rfl (lp149 l h3 hm), fun K => (x149 l K).trans ?_⟩
    rw [h1, cond_false, gate_pos ⟨rfl, rfl⟩, gate_pos ⟨h3, hm⟩, h0, show areaE (l : List GVec) = 0 by simpa using h1]
    rfl
noncomputable def L149 : Ctr := (149, c149) :: L148
theorem L149ok : AllOk L149 := .cons ok149 L148ok
/-! ### the kinds -/
noncomputable def c69 : FC G := FC.rn [.s .shape, .s .f64] fun (s, d, _) K => gate (1 ≤ (s : GShape).Points.length) (K (encR .mass (circM s d)) [] [])
theorem ok69 : FcOk Tryz.prog 69 c69 := rn_ok L149ok Tryz.func69 (by kernel_rfl) [] (.none (by kernel_rfl)) (by kernel_rfl) fun (s, d, _) K o h => by
  obtain ⟨h1, h2⟩ := gate_some h
  have h0 : getI (s : GShape).Points 0 = some (getV (s : GShape).Points 0) := getI_V (k := 0) (by omega)
  refine (show xfn (EV L149 []) Tryz.f69 [] (encs [.s .shape, .s .f64] (s, d, ())) [] K = ((getI (s : GShape).Points 0).bind fun p => K (encR .mass ⟨fdisc (s : GShape).Radius d, fmul (fmul (fdisc (s : GShape).Radius d) (fmul (s : GShape).Radius (s : GShape).Radius)) 4602678819172646912, p⟩) [] []) from by kernel_rfl).trans ?_
  rw [h0]
  exact h2
noncomputable def L69 : Ctr := (69, c69) :: L149
theorem L69ok : AllOk L69 := .cons ok69 L149ok
def capR (s : GShape) (d : Nat) (a b : GVec) : GMass := { capOf s.Radius d a b with Centre := vhalf a b }
structure Cap70 (s : GShape) : Prop where
  two : 2 ≤ s.Points.length
  a : VBd 1062 (getV s.Points 0)
  b : VBd 1062 (getV s.Points 1)
theorem vhalf_eq {a b : GVec} (ha : VBd 1062 a) (hb : VBd 1062 b) : vhalf a b = vscale (vadd a b) 4602678819172646912 := by
  unfold vhalf vscale vadd
  rw [fdiv_two (ha.x.add hb.x (by decide)).fin, fdiv_two (ha.y.add hb.y (by decide)).fin]
noncomputable def c70 : FC G := FC.rn [.s .shape, .s .f64] fun (s, d, _) K => gate (Cap70 s) (K (encR .mass (capM s d)) [] [])
theorem ok70 : FcOk Tryz.prog 70 c70 := rn_ok L69ok Tryz.func70 (by kernel_rfl) [] (.none (by kernel_rfl)) (by kernel_rfl) fun (s, d, _) K o h => by
  obtain ⟨⟨h1, ha, hb⟩, h2⟩ := gate_some h
  have h0 : getI (s : GShape).Points 0 = some (getV (s : GShape).Points 0) := getI_V (k := 0) (by omega)
  have h3 : getI (s : GShape).Points 1 = some (getV (s : GShape).Points 1) := getI_V (k := 1) (by omega)
  refine (show xfn (EV L69 []) Tryz.f70 [] (encs [.s .shape, .s .f64] (s, d, ())) [] K = ((getI (s : GShape).Points 0).bind fun a => (getI (s : GShape).Points 1).bind fun b => K (encR .mass (capR s d a b)) [] []) from by kernel_rfl).trans ?_
  rw [h0, Option.bind_some, h3, Option.bind_some]
  have e : capR s d (getV (s : GShape).Points 0) (getV (s : GShape).Points 1) = capM s d := by
    unfold capR capM capOf
    rw [vhalf_eq ha hb]
  rw [e]
  exact h2
noncomputable def L70 : Ctr := (70, c70) :: L69
theorem L70ok : AllOk L70 := .cons ok70 L69ok
/-! ### a polygon -/
def h71 : LH G := ⟨[1, 2, 4, 6, 8, 9, 10, 11], [], [2, 4, 8]⟩
def V71 (d a s : Nat) (N i : Int) : List (RV G) := [.flt d, .ptr 2 0 0 0, .ptr 4 0 0 0, .flt a, .ptr 8 0 0 0, .flt s, .int .i64 N, .int .i64 i]
def B71 (s : GShape) (c : GVec) : List (Blk G) := [.cells (encG .shape s), .cells (encG .mass mass0), .cells (encG .vec c)]
noncomputable def E71 (s : GShape) (d : Nat) : List (Nat × LC G) := [(10, lcOf h71 (V71 d (areaM s.Points) 0 s.Points.length 0) (B71 s (midM s.Points)) fun K => K (.exit 0) (V71 d (areaM s.Points) (fsum (polyI s.Points (midM s.Points))) s.Points.length (s.Points.length : Nat)) (B71 s (midM s.Points)))]
theorem step71 (lp : List (Nat × LC G)) (s : GShape) (d a : Nat) (c : GVec) (u : Nat) (N : Int) (n : Nat) (i : Int) (K) : iter (EV L70 lp) h71 (lpBody Tryz.f71 0) (n + 1) (V71 d a u N i) (B71 s c) K = bif decide (i < N) then
    (getI s.Points i).bind fun p => bif N == 0 then none else (getI s.Points ((IntKind.i64.wrap (i + 1)).tmod N)).bind fun q =>
      bif i == 0 then iter (EV L70 lp) h71 (lpBody Tryz.f71 0) n (V71 d a (ptri (vsub p c) (vsub q c)) N (IntKind.i64.wrap (i + 1))) (B71 s c) K
      else iter (EV L70 lp) h71 (lpBody Tryz.f71 0) n (V71 d a (fadd u (ptri (vsub p c) (vsub q c))) N (IntKind.i64.wrap (i + 1))) (B71 s c) K
  else K (.exit 0) (V71 d a u N i) (B71 s c) := by kernel_rfl
theorem x71 (s : GShape) (d : Nat) (K) : xfn (EV L70 (E71 s d)) Tryz.f71 [] (encs [.s .shape, .s .f64] (s, d, ())) [] K = bif areaE s.Points != 0 then K (.tuple [encR .mass mass0, .int .i64 (areaE s.Points)]) [] [] else
    bif areaE s.Points != 0 then K (.tuple [encR .mass mass0, .int .i64 (areaE s.Points)]) [] [] else gate (V71 d (areaM s.Points) 0 s.Points.length 0 = V71 d (areaM s.Points) 0 s.Points.length 0 ∧ B71 s (midM s.Points) = B71 s (midM s.Points))
      (K (.tuple [encR .mass (polyM s d), .int .i64 0]) [] []) := by kernel_rfl
theorem x71n (s : GShape) (d : Nat) (K) : xfn (EV L70 []) Tryz.f71 [] (encs [.s .shape, .s .f64] (s, d, ())) [] K = bif areaE s.Points != 0 then K (.tuple [encR .mass mass0, .int .i64 (areaE s.Points)]) [] [] else
    bif areaE s.Points != 0 then K (.tuple [encR .mass mass0, .int .i64 (areaE s.Points)]) [] [] else none := by kernel_rfl
theorem fsum_from (g : Nat → Nat) (n : Nat) (h : 0 < n) : (List.range n).foldl (fun (s : Nat) (i : Nat) => bif ((i : Nat) : Int) == 0 then g i else fadd s (g i)) 0 = fsum ((List.range n).map g) := by
  rw [List.range_eq_range', show n = (n - 1) + 1 by omega, List.range'_succ, List.foldl_cons, List.map_cons]
  show List.foldl _ (g 0) _ = ((List.range' (0 + 1) (n - 1)).map g).foldl fadd (g 0)
  rw [List.foldl_map]
  refine foldl_alike _ _ fun a k hk => ?_
  rw [List.mem_range'_1] at hk
  have : ((k : Int) == 0) = false := beq_eq_false_iff_ne.2 (by omega)
  rw [this]
  rfl
theorem lp71 (s : GShape) (d : Nat) (h : 3 ≤ s.Points.length ∧ s.Points.length ≤ 64) : LpOk (EV L70 (E71 s d)) [] (lpBody Tryz.f71 0) (lcOf h71 (V71 d (areaM s.Points) 0 s.Points.length 0) (B71 s (midM s.Points)) fun K => K (.exit 0) (V71 d (areaM s.Points) (fsum (polyI s.Points (midM s.Points))) s.Points.length (s.Points.length : Nat)) (B71 s (midM s.Points))) :=
  lcOf_ok (by kernel_rfl) fun K => ⟨_, (fold_loop (N := s.Points.length) (g := fun (u : Nat) (i : Nat) => bif ((i : Nat) : Int) == 0 then polyAt s.Points (midM s.Points) i else fadd u (polyAt s.Points (midM s.Points) i))
    (F := fun n i u => iter (EV L70 (E71 s d)) h71 (lpBody Tryz.f71 0) n (V71 d (areaM s.Points) u s.Points.length i) (B71 s (midM s.Points)) K) (X := fun u => K (.exit 0) (V71 d (areaM s.Points) u s.Points.length (s.Points.length : Nat)) (B71 s (midM s.Points))) (s0 := 0) (fun _ _ => True) trivial
    (fun n i u hi _ => by
      have e : ((s.Points.length : Int) == 0) = false := beq_eq_false_iff_ne.2 (by omega)
      rw [step71, decide_eq_true (by omega), cond_true, getI_V hi, Option.bind_some, e, cond_false, wrap_succ (by omega), tmod_at, getI_V (Nat.mod_lt _ (by omega)), Option.bind_some]
      cases ((i : Nat) : Int) == 0 <;> rfl)
    (fun _ _ _ _ => trivial) (fun n u _ => by rw [step71, decide_eq_false (by omega)]; rfl)).trans (by
      rw [fsum_from _ _ (by omega)]
      rfl)⟩
def c71 : FC G := FC.sp [.s .shape, .s .f64] fun (s, d, _) => .tuple [encR .mass (polyR s d), .int .i64 (areaE (s : GShape).Points)]
theorem ok71 : FcOk Tryz.prog 71 c71 := sp_lp L70ok Tryz.func71 (by kernel_rfl) (by kernel_rfl) fun (s, d, _) _ => by
  show ∃ lp, LpsOk (EV L70 lp) [] (bodyD Tryz.f71) ∧ ∀ K, xfn (EV L70 lp) Tryz.f71 [] (encs [.s .shape, .s .f64] (s, d, ())) [] K = K (.tuple [encR .mass (polyR s d), .int .i64 (areaE (s : GShape).Points)]) [] []
  unfold polyR
  cases h1 : areaE (s : GShape).Points != 0 with
  | true => exact ⟨[], LpsOk.of _ fun _ _ _ _ h => (by cases h), fun K => (x71n s d K).trans (by rw [h1]; rfl)⟩
  | false =>
    have h3 := areaE_ok h1
    have h0 : areaE (s : GShape).Points = 0 := by simpa using h1
    refine ⟨E71 s d, lps1 (i := 10) (by kernel_rfl) rfl (lp71 s d h3), fun K => (x71 s d K).trans ?_⟩
    rw [h1, cond_false, cond_false, gate_pos ⟨rfl, rfl⟩, h0]
    rfl
noncomputable def L71 : Ctr := (71, c71) :: L70
theorem L71ok : AllOk L71 := .cons ok71 L70ok
end Go.SX

/- The references: may a shape be, what it weighs. No statement of the seat is proved here. -/
namespace Go.SX
open Go.Proofs
set_option maxRecDepth 20000
/-! ### may a shape be? -/
def h67 : LH G := ⟨[1, 2, 3, 4], [], [1]⟩
def V67 (n : Int) (e i : Int) : List (RV G) := [.ptr 1 0 0 0, .int .i64 e, .int .i64 n, .int .i64 i]
def B67 (s : GShape) : List (Blk G) := [.cells (encG .shape s)]
def farP (p : GVec) : Bool := !vwithin p 4787326403894837248
noncomputable def E67 (s : GShape) : List (Nat × LC G) := [(8, lcOf h67 (V67 s.Points.length 0 0) (B67 s) fun K => bif s.Points.any farP then K .ret (V67 s.Points.length 5 (s.Points.findIdx farP : Nat)) (B67 s) else K (.exit 1) (V67 s.Points.length 0 (s.Points.length : Nat)) (B67 s))]
theorem step67 (lp : List (Nat × LC G)) (s : GShape) (N : Int) (n : Nat) (i : Int) (K) : iter (EV L71 lp) h67 (lpBody Tryz.f67 0) (n + 1) (V67 N 0 i) (B67 s) K = bif decide (i < N) then (getI s.Points i).bind fun p =>
    bif farP p then K .ret (V67 N 5 i) (B67 s) else iter (EV L71 lp) h67 (lpBody Tryz.f67 0) n (V67 N 0 (IntKind.i64.wrap (i + 1))) (B67 s) K
  else K (.exit 1) (V67 N 0 i) (B67 s) := by kernel_rfl
noncomputable def few67 (s : GShape) (K : RV G → List (Blk G) → List (Blk G) → Ans G) : Ans G := bif (s.Points.length : Int) != IntKind.i64.wrap s.Kind then K (.int .i64 6) [] [] else gate (V67 s.Points.length 0 0 = V67 s.Points.length 0 0 ∧ B67 s = B67 s)
  (bif s.Points.any farP then K (.int .i64 5) [] [] else bif !flen s.Radius then K (.int .i64 5) [] [] else bif (s.Points.length : Int) == 2 then (getI s.Points 1).bind fun b => (getI s.Points 0).bind fun a => bif flt (vlen (vsub b a)) 4472074429978902528 then K (.int .i64 6) [] [] else K (.int .i64 0) [] [] else K (.int .i64 0) [] [])
theorem x67 (s : GShape) (K) : xfn (EV L71 (E67 s)) Tryz.f67 [] (encs [.s .shape] (s, ())) [] K = bif s.Kind == 1 then few67 s K else bif s.Kind == 2 then few67 s K else bif s.Kind == 3 then
    (bif ((decide ((s.Points.length : Int) < 3) || decide ((s.Points.length : Int) > 8)) || !feq s.Radius 0) then K (.int .i64 6) [] [] else K (.int .i64 (perr s.Points)) [] [])
  else K (.int .i64 70) [] [] := by kernel_rfl
theorem lp67 (s : GShape) (hx : s.Points.length < 9223372036854775808) : LpOk (EV L71 (E67 s)) [] (lpBody Tryz.f67 0) (lcOf h67 (V67 s.Points.length 0 0) (B67 s) fun K => bif s.Points.any farP then K .ret (V67 s.Points.length 5 (s.Points.findIdx farP : Nat)) (B67 s) else K (.exit 1) (V67 s.Points.length 0 (s.Points.length : Nat)) (B67 s)) :=
  lcOf_ok (by kernel_rfl) fun K => ⟨_, find_loop (xs := s.Points) (p := farP) (F := fun n i => iter (EV L71 (E67 s)) h67 (lpBody Tryz.f67 0) n (V67 s.Points.length 0 i) (B67 s) K) (R := fun i => K .ret (V67 s.Points.length 5 i) (B67 s)) (X := fun i => K (.exit 1) (V67 s.Points.length 0 i) (B67 s)) (fun n i => step67 _ s _ n i K) hx⟩
theorem any_one {l : List GVec} (h : l.length = 1) : l.any farP = !vwithin (getV l 0) 4787326403894837248 := by
  match l, h with
  | [p], _ => simp [farP, getV]
theorem any_two {l : List GVec} (h : l.length = 2) : l.any farP = (!vwithin (getV l 0) 4787326403894837248 || !vwithin (getV l 1) 4787326403894837248) := by
  match l, h with
  | [p, q], _ => simp [farP, getV]
def c67 : FC G := FC.sp [.s .shape] fun (s, _) => .int .i64 (shE s)
theorem ok67 : FcOk Tryz.prog 67 c67 := sp_lp L71ok Tryz.func67 (by kernel_rfl) (by kernel_rfl) fun (s, _) ⟨hx, _⟩ => ⟨E67 s, lps1 (i := 8) (by kernel_rfl) rfl (lp67 s hx), fun K => (x67 s K).trans (by
  show _ = K (.int .i64 (shE s)) [] []
  unfold shE wild isCir isCap isPol
  have w1 : IntKind.i64.wrap 1 = 1 := by decide
  have w2 : IntKind.i64.wrap 2 = 2 := by decide
  cases k1 : (s : GShape).Kind == 1 with
  | true =>
    have hk : (s : GShape).Kind = 1 := by simpa using k1
    have e1 : (decide ((1 : Int) < 1) || decide ((1 : Int) > 3)) = false := by decide
    have e2 : ((1 : Int) == 2) = false := by decide
    have e3 : ((1 : Int) == 3) = false := by decide
    have e4 : ((1 : Int) == 1) = true := by decide
    rw [hk, e1]
    simp only [e2, e3, e4, cond_true, cond_false, Bool.true_and, Bool.false_and]
    unfold few67
    rw [hk, w1, gate_pos ⟨rfl, rfl⟩]
    cases hn : ((s : GShape).Points.length : Int) == 1 with
    | false => rw [bne, hn]; rfl
    | true =>
      have hl : (s : GShape).Points.length = 1 := by simp at hn; omega
      rw [bne, hn, any_one hl, hl]
      unfold cirE
      cases vwithin (getV (s : GShape).Points 0) 4787326403894837248 <;> cases flen (s : GShape).Radius <;> rfl
  | false => cases k2 : (s : GShape).Kind == 2 with
    | true =>
      have hk : (s : GShape).Kind = 2 := by simpa using k2
      have e1 : (decide ((2 : Int) < 1) || decide ((2 : Int) > 3)) = false := by decide
      have e2 : ((2 : Int) == 2) = true := by decide
      have e3 : ((2 : Int) == 3) = false := by decide
      have e4 : ((2 : Int) == 1) = false := by decide
      rw [hk, e1]
      simp only [e2, e3, e4, cond_true, cond_false, Bool.true_and, Bool.false_and]
      unfold few67
      rw [hk, w2, gate_pos ⟨rfl, rfl⟩]
      cases hn : ((s : GShape).Points.length : Int) == 2 with
      | false => rw [bne, hn]; rfl
      | true =>
        have hl : (s : GShape).Points.length = 2 := by simp at hn; omega
        have h0 : getI (s : GShape).Points 0 = some (getV (s : GShape).Points 0) := getI_V (k := 0) (by omega)
        have h3 : getI (s : GShape).Points 1 = some (getV (s : GShape).Points 1) := getI_V (k := 1) (by omega)
        rw [bne, hn, any_two hl, h3, Option.bind_some, h0, Option.bind_some]
        unfold capE
        cases vwithin (getV (s : GShape).Points 0) 4787326403894837248 <;> cases vwithin (getV (s : GShape).Points 1) 4787326403894837248 <;> cases flen (s : GShape).Radius <;> cases flt (vlen (vsub (getV (s : GShape).Points 1) (getV (s : GShape).Points 0))) 4472074429978902528 <;> rfl
    | false => cases k3 : (s : GShape).Kind == 3 with
      | true =>
        have hk : (s : GShape).Kind = 3 := by simpa using k3
        rw [hk]
        have e1 : (decide ((3 : Int) < 1) || decide ((3 : Int) > 3)) = false := by decide
        have a1 : decide (((s : GShape).Points.length : Int) < 3) = !decide (((s : GShape).Points.length : Int) ≥ 3) := by rw [Bool.eq_iff_iff]; simp
        have a2 : decide (((s : GShape).Points.length : Int) > 8) = !decide (((s : GShape).Points.length : Int) ≤ 8) := by rw [Bool.eq_iff_iff]; simp
        rw [e1, a1, a2]
        cases decide (((s : GShape).Points.length : Int) ≥ 3) <;> cases decide (((s : GShape).Points.length : Int) ≤ 8) <;> cases feq (s : GShape).Radius 0 <;> rfl
      | false =>
        have hw : (decide ((s : GShape).Kind < 1) || decide ((s : GShape).Kind > 3)) = true := by
          simp only [beq_eq_false_iff_ne, ne_eq] at k1 k2 k3
          simp
          omega
        rw [hw]
        rfl)⟩
noncomputable def L67 : Ctr := (67, c67) :: L71
theorem L67ok : AllOk L67 := .cons ok67 L71ok
/-! ### what it weighs -/
theorem dwild_eq (d : Nat) : (!(fle 0 d && fle d 4787326403894837248)) = dwild d := by
  have h0 : isNan 0 = false := by decide
  have h1 : isNan 4787326403894837248 = false := by decide
  have h2 : isNan (fneg 4787326403894837248) = false := by decide
  have h3 : val (fneg 4787326403894837248) = -val 4787326403894837248 := by decide
  have h4 : 0 ≤ val 4787326403894837248 := by decide
  have h5 : val 0 = 0 := by decide
  unfold dwild fwithin
  cases h : isNan d with
  | true => rw [fle_nan (.inr h), fle_nan (.inr h)]; rfl
  | false =>
    rw [fle_val h2 h, fle_val h h1, fle_val h0 h, flt_val h h0, h3, h5, Bool.eq_iff_iff]
    simp only [Bool.and_eq_true, decide_eq_true_eq, Bool.not_eq_true', decide_eq_false_iff_not, Bool.or_eq_true, Bool.and_eq_false_iff]
    omega
theorem x19 (s : GShape) (d : Nat) (K) : xfn (EV L67 []) Tryz.f19 [] (encs [.s .shape, .s .f64] (s, d, ())) [] K = bif shE s != 0 then K (jres mass0 (shE s)) [] [] else bif !(fle 0 d && fle d 4787326403894837248) then K (jres mass0 5) [] [] else
    bif s.Kind == 1 then gate (1 ≤ s.Points.length) (K (jres (mchk (circM s d)) (merr (circM s d))) [] []) else bif s.Kind == 2 then gate (Cap70 s) (K (jres (mchk (capM s d)) (merr (capM s d))) [] []) else
    bif areaE s.Points != 0 then K (jres mass0 (areaE s.Points)) [] [] else K (jres (mchk (polyR s d)) (merr (polyR s d))) [] [] := by kernel_rfl
theorem shE_cap {s : GShape} (h : (shE s != 0) = false) (hk : (s.Kind == 2) = true) : Cap70 s := by
  have h2 := (shE_len h).2 hk
  have hk' : s.Kind = 2 := by simpa using hk
  have hc : isCap s = true := by unfold isCap; rw [hk, h2]; rfl
  have hw : wild s = false := by unfold wild; rw [hk']; decide
  have hi : isCir s = false := by unfold isCir; rw [hk']; rfl
  unfold shE at h
  rw [hw, hi, hc] at h
  simp only [cond_true, cond_false] at h
  unfold capE at h
  cases ha : vwithin (getV s.Points 0) 4787326403894837248 with
  | false => rw [ha] at h; simp at h
  | true => cases hb : vwithin (getV s.Points 1) 4787326403894837248 with
    | false => rw [ha, hb] at h; simp at h
    | true => exact ⟨by omega, vwithin_bd ha, vwithin_bd hb⟩
def c19 : FC G := FC.sp [.s .shape, .s .f64] fun (s, d, _) => jres (ofM s d) (ofE s d)
theorem ok19 : FcOk Tryz.prog 19 c19 := sp0 L67ok Tryz.func19 (by kernel_rfl) (by kernel_rfl) (by kernel_rfl) fun (s, d, _) K => (x19 s d K).trans (by
  show _ = K (jres (ofM s d) (ofE s d)) [] []
  rw [dwild_eq]
  unfold ofM ofE
  cases h0 : shE (s : GShape) != 0 with
  | true => rfl
  | false =>
    have h1 := (shE_len h0).1
    cases dwild d with
    | true => rfl
    | false =>
      unfold kindE kindM
      cases h3 : (s : GShape).Kind == 1 with
      | true => rw [gate_pos (by rw [h1 h3]; exact Nat.le_refl _)]; rfl
      | false => cases h4 : (s : GShape).Kind == 2 with
        | true => simp only [cond_false, cond_true]; rw [gate_pos (shE_cap h0 h4)]; rfl
        | false =>
          simp only [cond_false]
          cases h5 : areaE (s : GShape).Points != 0 <;> rfl)
noncomputable def L19 : Ctr := (19, c19) :: L67
theorem L19ok : AllOk L19 := .cons ok19 L67ok
end Go.SX

/- The law MassOfs answers true. No statement of the seat is proved here. -/
namespace Go.SX
open Go.Proofs
set_option maxRecDepth 20000
def vm1 : GVec := ⟨4635118810238550016, 0⟩
def vm2 : GVec := ⟨4635189178982727680, 0⟩
def q17 (l : List GVec) : List GVec := ([] ++ l) ++ [vm1, vm2]
theorem q17_len (l : List GVec) : (q17 l).length = l.length + 2 := by simp [q17]
def c17 : FC G := FC.rn [.s .shape] fun (s, _) K => bif decide (([] ++ (s : GShape).Points : List GVec).length * 16 ≤ 2 ^ 47) then bif decide ((q17 (s : GShape).Points).length * 16 ≤ 2 ^ 47) then
  bif decide ((0 : Int) ≤ 0 ∧ (0 : Int) ≤ ((s : GShape).Points.length : Int) ∧ ((s : GShape).Points.length : Int) ≤ ((q17 (s : GShape).Points).length : Int)) then
    K (.agg [.int .u8 (s : GShape).Kind, .flt (s : GShape).Radius, .slice 0 .vec 0 (((s : GShape).Points.length : Int) - 0).toNat]) [] [.rows .vec (q17 (s : GShape).Points)] else none else none else none
theorem ok17 : FcOk Tryz.prog 17 c17 := rn0 L19ok Tryz.func17 (by kernel_rfl) (by kernel_rfl) (by kernel_rfl) fun (s, _) K => by kernel_rfl
noncomputable def c17g : FC G := FC.rn [.s .shape] fun (s, _) K => gate ((s : GShape).Points.length ≤ 100) (K (.agg [.int .u8 (s : GShape).Kind, .flt (s : GShape).Radius, .slice 0 .vec 0 (s : GShape).Points.length]) [] [.rows .vec (q17 (s : GShape).Points)])
theorem sub_rn {f : Nat} {ks : List AK} {run run' : dens ks → (RV G → List (Blk G) → List (Blk G) → Ans G) → Ans G} (h : FcOk Tryz.prog f (FC.rn ks run)) (hs : ∀ x K o, run' x K = some o → run x K = some o) : FcOk Tryz.prog f (FC.rn ks run') := h.sub rfl (fun _ => rfl) fun a bs K o e => by
  simp only [FC.rn, FC.ofRun] at e ⊢
  split at e
  · exact hs _ K o e
  · cases e
theorem ok17g : FcOk Tryz.prog 17 c17g := sub_rn ok17 fun (s, _) K o e => by
  obtain ⟨h1, e2⟩ := gate_some e
  have hq := q17_len (s : GShape).Points
  show (bif decide (([] ++ (s : GShape).Points : List GVec).length * 16 ≤ 2 ^ 47) then bif decide ((q17 (s : GShape).Points).length * 16 ≤ 2 ^ 47) then
    bif decide ((0 : Int) ≤ 0 ∧ (0 : Int) ≤ ((s : GShape).Points.length : Int) ∧ ((s : GShape).Points.length : Int) ≤ ((q17 (s : GShape).Points).length : Int)) then
      K (.agg [.int .u8 (s : GShape).Kind, .flt (s : GShape).Radius, .slice 0 .vec 0 (((s : GShape).Points.length : Int) - 0).toNat]) [] [.rows .vec (q17 (s : GShape).Points)] else none else none else none) = some o
  rw [decide_eq_true (by rw [List.nil_append]; omega), cond_true, decide_eq_true (by omega), cond_true, decide_eq_true (by omega), cond_true]
  rw [Int.sub_zero, Int.toNat_natCast]
  exact e2
/-! ### kept -/
def h21 : LH G := ⟨[2, 3, 4, 5, 6], [], [2, 3]⟩
def V21 (l : List GVec) (i : Int) : List (RV G) := [.ptr 2 0 0 0, .ptr 3 0 0 0, .bool false, .cslice .vec (q17 l) (IntKind.i64.wrap ((l.length : Int) + 2)).toNat, .int .i64 i]
def B21 (s : GShape) : List (Blk G) := [.cells [.int .u8 s.Kind, .flt s.Radius, .cslice .vec (q17 s.Points) s.Points.length], .cells (encG .shape s)]
noncomputable def E21 (s : GShape) : List (Nat × LC G) := [(3, lcOf h21 (V21 s.Points 0) (B21 s) fun K => K (.exit 0) (V21 s.Points s.Points.length) (B21 s))]
theorem step21 (lp : List (Nat × LC G)) (s : GShape) (n : Nat) (i : Int) (K) : iter (EV L19 lp) h21 (lpBody Tryz.f21 0) (n + 1) (V21 s.Points i) (B21 s) K = bif decide (i < (s.Points.length : Int)) then
    bif decide (i < (s.Points.length : Int)) then (getI (q17 s.Points) i).bind fun p => (getI s.Points i).bind fun q => bif !vsame p q then K .ret (V21 s.Points i) (B21 s) else iter (EV L19 lp) h21 (lpBody Tryz.f21 0) n (V21 s.Points (IntKind.i64.wrap (i + 1))) (B21 s) K else none
  else K (.exit 0) (V21 s.Points i) (B21 s) := by kernel_rfl
def lent21 (s : GShape) : dens [.sc, .s .shape] := ((⟨s.Kind, s.Radius, q17 s.Points⟩, s.Points.length), s, ())
theorem x21 (s : GShape) (K) : xfn (EV L19 (E21 s)) Tryz.f21 [] (encs [.sc, .s .shape] (lent21 s)) [] K = bif decide (0 ≤ IntKind.i64.wrap ((s.Points.length : Int) + 2) ∧ IntKind.i64.wrap ((s.Points.length : Int) + 2) ≤ ((q17 s.Points).length : Int) ∧ IntKind.i64.wrap ((s.Points.length : Int) + 2) < 9223372036854775808) then
    gate (V21 s.Points 0 = V21 s.Points 0 ∧ B21 s = B21 s)
      (bif decide ((s.Points.length : Int) < ((IntKind.i64.wrap ((s.Points.length : Int) + 2)).toNat : Int)) then (getI (q17 s.Points) (s.Points.length : Int)).bind fun x => bif (feq x.X 4635118810238550016 && (feq x.Y 0 && true)) then
        bif decide (IntKind.i64.wrap ((s.Points.length : Int) + 1) < ((IntKind.i64.wrap ((s.Points.length : Int) + 2)).toNat : Int)) then (getI (q17 s.Points) (IntKind.i64.wrap ((s.Points.length : Int) + 1))).bind fun y => K (.bool (true && (feq y.X 4635189178982727680 && (feq y.Y 0 && true)))) [] [] else none
      else K (.bool false) [] [] else none) else none := by kernel_rfl
theorem fis_same' (x : Nat) : fis x x = true := by unfold fis; simp
theorem vsame_refl (p : GVec) : vsame p p = true := by unfold vsame; rw [fis_same', fis_same']; rfl
theorem q17_at {l : List GVec} {i : Nat} (h : i < l.length) : getI (q17 l) (i : Int) = some (getV l i) := by
  have hq := q17_len l
  rw [getI_V (by omega)]
  congr 1
  unfold getV q17
  rw [List.getD_eq_getElem?_getD, List.getD_eq_getElem?_getD, List.nil_append, List.getElem?_append_left h]
theorem lp21 (lp : List (Nat × LC G)) (s : GShape) (h : s.Points.length ≤ 100) : LpOk (EV L19 lp) [] (lpBody Tryz.f21 0) (lcOf h21 (V21 s.Points 0) (B21 s) fun K => K (.exit 0) (V21 s.Points s.Points.length) (B21 s)) :=
  lcOf_ok (by kernel_rfl) fun K => ⟨_, fold_loop (N := s.Points.length) (g := fun (_ : Unit) _ => ()) (F := fun n i _ => iter (EV L19 lp) h21 (lpBody Tryz.f21 0) n (V21 s.Points i) (B21 s) K) (X := fun _ => K (.exit 0) (V21 s.Points s.Points.length) (B21 s)) (s0 := ()) (fun _ _ => True) trivial
    (fun n i _ hi _ => by
      rw [step21, decide_eq_true (by omega), cond_true, cond_true, q17_at hi, Option.bind_some, getI_V hi, Option.bind_some, vsame_refl, wrap_succ (by omega)]
      rfl)
    (fun _ _ _ _ => trivial) (fun n _ _ => by rw [step21, decide_eq_false (by omega)]; rfl)⟩
noncomputable def c21 : FC G := FC.rn [.sc, .s .shape] fun x K => gate (x = lent21 x.2.1 ∧ (x.2.1 : GShape).Points.length ≤ 100) (K (.bool true) [] [])
theorem ok21 : FcOk Tryz.prog 21 c21 := rn_lp L19ok Tryz.func21 (by kernel_rfl) (by kernel_rfl) (fun _ K o h => ⟨_, _, _, (gate_some h).2⟩) fun x _ => by
  by_cases hp : x = lent21 x.2.1 ∧ (x.2.1 : GShape).Points.length ≤ 100
  · obtain ⟨hx, hl⟩ := hp
    generalize hs : (x.2.1 : GShape) = s at hx hl
    subst hx
    have hq := q17_len s.Points
    have w2 : IntKind.i64.wrap ((s.Points.length : Int) + 2) = ((s.Points.length + 2 : Nat) : Int) := by rw [IntKind.wrap_i64]; omega
    have g1 : getI (q17 s.Points) (s.Points.length : Int) = some vm1 := by
      unfold getI q17
      rw [decide_eq_true (by omega), cond_true, Int.toNat_natCast, List.nil_append, List.getElem?_append_right (by omega)]
      simp
    have g2 : getI (q17 s.Points) ((s.Points.length + 1 : Nat) : Int) = some vm2 := by
      unfold getI q17
      rw [decide_eq_true (by omega), cond_true, Int.toNat_natCast, List.nil_append, List.getElem?_append_right (by omega)]
      simp
    refine ⟨E21 s, lps1 (i := 3) (by kernel_rfl) rfl (lp21 _ s hl), fun K o h => (x21 s K).trans ?_⟩
    have f1 : (feq vm1.X 4635118810238550016 && (feq vm1.Y 0 && true)) = true := by decide
    have f2 : (feq vm2.X 4635189178982727680 && (feq vm2.Y 0 && true)) = true := by decide
    rw [w2, decide_eq_true (by omega), cond_true, gate_pos ⟨rfl, rfl⟩, decide_eq_true (by omega), cond_true, g1, Option.bind_some, f1, cond_true, wrap_succ (by omega), decide_eq_true (by omega), cond_true, g2, Option.bind_some, f2]
    exact (gate_some h).2
  · exact ⟨[], LpsOk.of _ fun _ _ _ _ h => (by cases h), fun K o h => absurd (gate_some h).1 hp⟩
/-! ### MassOfs -/
noncomputable def L4 : Ctr := (16, FC.sp [] fun _ => .bool true) :: (17, c17g) :: (21, c21) :: L19
theorem L4ok : AllOk L4 := .cons ok16 (.cons ok17g (.cons ok21 L19ok))
def lent4 (s : GShape) : GShape := ⟨s.Kind, s.Radius, ((q17 s.Points).drop 0).take s.Points.length⟩
theorem lent4_eq (s : GShape) : lent4 s = s := by
  unfold lent4 q17
  simp
theorem x4 (s : GShape) (d : Nat) (K) : xfn (EV L4 []) Tryz.f4 [] (encs [.s .shape, .s .f64] (s, d, ())) [] K = bif decide ((s.Points.length : Int) > 100) then K (.bool true) [] [] else gate (s.Points.length ≤ 100)
    (gate (((⟨s.Kind, s.Radius, (q17 s.Points).drop 0⟩, s.Points.length), s, ()) = lent21 s ∧ s.Points.length ≤ 100) (K (.bool (((true && msame (ofM (lent4 s) d) (ofM s d)) && (ofE (lent4 s) d == ofE s d)) && true)) [] [])) := by kernel_rfl
theorem msame_refl (m : GMass) : msame m m = true := by unfold msame; rw [fis_same', fis_same', vsame_refl]; rfl
theorem ok4 : FcOk Tryz.prog 4 (FC.sp [.s .shape, .s .f64] fun _ => .bool true) := sp0 L4ok Tryz.func4 (by kernel_rfl) (by kernel_rfl) (by kernel_rfl) fun (s, d, _) K => (x4 s d K).trans (by
  cases h : decide (((s : GShape).Points.length : Int) > 100) with
  | true => rfl
  | false =>
    have hl : (s : GShape).Points.length ≤ 100 := by simp at h; omega
    rw [cond_false, gate_pos hl, gate_pos ⟨by unfold lent21; rw [List.drop_zero], hl⟩, lent4_eq, msame_refl]
    simp)
end Go.SX

/- Parts of bodies, both ways; the law MassParts answers true. No statement of the seat is proved here. -/
namespace Go.SX
open Go.Proofs
set_option maxRecDepth 20000
/-- A loop that may end early. -/
theorem exit_loop {κ β σ : Type} {N : Nat} {p : σ → Nat → Bool} {g : σ → Nat → σ} {F : κ → Nat → Int → σ → Option β} {R : κ → Nat → σ → Option β} {X : κ → σ → Option β} {s0 : σ} (I : Nat → σ → Prop) (h0 : I 0 s0)
    (hs : ∀ K n i s, i < N → I i s → F K (n + 1) (i : Int) s = bif p s i then R K i s else F K n ((i + 1 : Nat) : Int) (g s i)) (hI : ∀ i s, i < N → I i s → p s i = false → I (i + 1) (g s i)) (hx : ∀ K n s, I N s → F K (n + 1) (N : Int) s = X K s) :
    (∃ i s, i < N ∧ I i s ∧ p s i = true ∧ ∀ K, F K (N + 1) 0 s0 = R K i s) ∨ ∃ s, I N s ∧ ∀ K, F K (N + 1) 0 s0 = X K s := by
  have main : ∀ d i s, i + d = N → I i s → (∃ i' s', i' < N ∧ I i' s' ∧ p s' i' = true ∧ ∀ K, F K (d + 1) (i : Int) s = R K i' s') ∨ ∃ s', I N s' ∧ ∀ K, F K (d + 1) (i : Int) s = X K s' := by
    intro d
    induction d with
    | zero =>
      intro i s hi h
      have : i = N := by omega
      subst this
      exact .inr ⟨s, h, fun K => hx K 0 s h⟩
    | succ d ih =>
      intro i s hi h
      cases hp : p s i with
      | true => exact .inl ⟨i, s, by omega, h, hp, fun K => by rw [hs K _ i s (by omega) h, hp]; rfl⟩
      | false =>
        rcases ih (i + 1) (g s i) (by omega) (hI i s (by omega) h hp) with ⟨i', s', a1, a2, a3, a4⟩ | ⟨s', a1, a2⟩
        · exact .inl ⟨i', s', a1, a2, a3, fun K => by rw [hs K _ i s (by omega) h, hp]; exact a4 K⟩
        · exact .inr ⟨s', a1, fun K => by rw [hs K _ i s (by omega) h, hp]; exact a2 K⟩
  exact main N 0 s0 (by omega) h0
def part0 : GPart := ⟨⟨0, 0, []⟩, 0, 0, 0, false, 0, 0⟩
def getP (l : List GPart) (i : Nat) : GPart := l.getD i part0
theorem getI_P {l : List GPart} {k : Nat} (h : k < l.length) : getI l (k : Int) = some (getP l k) := by
  rw [getI_at h]
  unfold getP
  rw [List.getD_eq_getElem?_getD, List.getElem?_eq_getElem h]
  rfl
def errP (p : GPart) : Int := ofE p.Shape p.Density
def addP (acc : List GMass) (p : GPart) : List GMass := bif !p.Sensor then acc ++ [ofM p.Shape p.Density] else acc
/-- What the parts' gathering comes to: the first error, or none; the masses. -/
def pgo : List GPart → List GMass → Int × List GMass
  | [], acc => (0, acc)
  | p :: r, acc => bif errP p != 0 then (errP p, acc) else pgo r (addP acc p)
def partsM (l : List GPart) : GMass := bif decide ((l.length : Int) > 8) then mass0 else bif (pgo l []).1 != 0 then mass0 else joinM (pgo l []).2
def partsE (l : List GPart) : Int := bif decide ((l.length : Int) > 8) then 4 else bif (pgo l []).1 != 0 then (pgo l []).1 else joinE (pgo l []).2
theorem pgo_drop {l : List GPart} {i : Nat} (h : i < l.length) (acc : List GMass) : pgo (l.drop i) acc = bif errP (getP l i) != 0 then (errP (getP l i), acc) else pgo (l.drop (i + 1)) (addP acc (getP l i)) := by
  have e : l.drop i = getP l i :: l.drop (i + 1) := by
    rw [List.drop_eq_getElem_cons h]
    congr 1
    unfold getP
    rw [List.getD_eq_getElem?_getD, List.getElem?_eq_getElem h]
    rfl
  rw [e]
  rfl
structure InvP (l : List GPart) (i : Nat) (acc : List GMass) : Prop where
  few : acc.length ≤ i
  all_ : pgo (l.drop i) acc = pgo l []
theorem InvP.zero (l : List GPart) : InvP l 0 [] := ⟨Nat.le_refl _, rfl⟩
theorem InvP.step {l : List GPart} {i : Nat} {acc : List GMass} (h : InvP l i acc) (hi : i < l.length) (he : (errP (getP l i) != 0) = false) : InvP l (i + 1) (addP acc (getP l i)) := by
  have h1 := h.few
  have h2 := h.all_
  rw [pgo_drop hi, he] at h2
  refine ⟨?_, h2⟩
  unfold addP
  cases (getP l i).Sensor <;> simp <;> omega
theorem InvP.bad {l : List GPart} {i : Nat} {acc : List GMass} (h : InvP l i acc) (hi : i < l.length) (he : (errP (getP l i) != 0) = true) : (pgo l []).1 = errP (getP l i) ∧ ((pgo l []).1 != 0) = true := by
  have h2 := h.all_
  rw [pgo_drop hi, he] at h2
  rw [← h2]
  exact ⟨rfl, he⟩
theorem InvP.done {l : List GPart} {acc : List GMass} (h : InvP l l.length acc) : pgo l [] = (0, acc) := by
  have := h.all_
  rw [List.drop_length] at this
  exact this.symm
/-! ### the program's -/
def h22 : LH G := ⟨[2, 3, 13, 14, 15], [(4, .mass, 900)], [2]⟩
def V22 (l : List GPart) (e i : Int) (acc : List GMass) : List (RV G) := [.ptr 2 0 0 0, .int .i64 e, .rslice .part l, .int .i64 l.length, .int .i64 i, .own 900 .mass acc.length]
def B22 (acc : List GMass) : List (Blk G) := [.cells (encG .mass mass0), .rows .mass acc]
noncomputable def lc22 (l : List GPart) (e : XE) (vs : List (RV G)) (bs : List (Blk G)) : List (Nat × LC G) := [(5, lcOf h22 (V22 l 0 0 []) (B22 []) fun K => K e vs bs)]
theorem step22 (lp : List (Nat × LC G)) (l : List GPart) (acc : List GMass) (n : Nat) (i : Int) (K) : iter (EV L19 lp) h22 (lpBody Tryz.f22 0) (n + 1) (V22 l 0 i acc) (B22 acc) K = bif decide (i < (l.length : Int)) then (getI l i).bind fun p =>
    bif errP p != 0 then K .ret (V22 l (errP p) i acc) (B22 acc) else bif !p.Sensor then bif decide ((acc ++ [ofM p.Shape p.Density]).length * 32 ≤ 2 ^ 47) then
      iter (EV L19 lp) h22 (lpBody Tryz.f22 0) n (V22 l 0 (IntKind.i64.wrap (i + 1)) (acc ++ [ofM p.Shape p.Density])) (B22 (acc ++ [ofM p.Shape p.Density])) K else none
    else iter (EV L19 lp) h22 (lpBody Tryz.f22 0) n (V22 l 0 (IntKind.i64.wrap (i + 1)) acc) (B22 acc) K
  else K (.exit 0) (V22 l 0 i acc) (B22 acc) := by kernel_rfl
theorem x22r (l : List GPart) (e i : Int) (acc : List GMass) (K) : xfn (EV L19 (lc22 l .ret (V22 l e i acc) (B22 acc))) Tryz.f22 [] (encs [.l .part] (l, ())) [] K = bif decide ((l.length : Int) > 8) then K (jres mass0 4) [] [] else
    gate (V22 l 0 0 [] = V22 l 0 0 [] ∧ B22 [] = B22 []) (K (jres mass0 e) [] []) := by kernel_rfl
theorem x22x (l : List GPart) (acc : List GMass) (K) : xfn (EV L19 (lc22 l (.exit 0) (V22 l 0 l.length acc) (B22 acc))) Tryz.f22 [] (encs [.l .part] (l, ())) [] K = bif decide ((l.length : Int) > 8) then K (jres mass0 4) [] [] else
    gate (V22 l 0 0 [] = V22 l 0 0 [] ∧ B22 [] = B22 []) (K (jres (joinM acc) (joinE acc)) [] []) := by kernel_rfl
theorem x22n (l : List GPart) (K) : xfn (EV L19 []) Tryz.f22 [] (encs [.l .part] (l, ())) [] K = bif decide ((l.length : Int) > 8) then K (jres mass0 4) [] [] else none := by kernel_rfl
theorem run22 (l : List GPart) (hl : l.length ≤ 8) :
    (∃ (i : Nat) (acc : List GMass), ((pgo l []).1 != 0) = true ∧ ∀ K, iter (EV L19 []) h22 (lpBody Tryz.f22 0) (l.length + 1) (V22 l 0 0 []) (B22 []) K = K .ret (V22 l (pgo l []).1 i acc) (B22 acc)) ∨
    ∃ acc : List GMass, pgo l [] = (0, acc) ∧ ∀ K, iter (EV L19 []) h22 (lpBody Tryz.f22 0) (l.length + 1) (V22 l 0 0 []) (B22 []) K = K (.exit 0) (V22 l 0 l.length acc) (B22 acc) := by
  have h := exit_loop (N := l.length) (p := fun (_ : List GMass) i => errP (getP l i) != 0) (g := fun acc i => addP acc (getP l i)) (F := fun K n i acc => iter (EV L19 []) h22 (lpBody Tryz.f22 0) n (V22 l 0 i acc) (B22 acc) K)
    (R := fun K i acc => K .ret (V22 l (errP (getP l i)) i acc) (B22 acc)) (X := fun K acc => K (.exit 0) (V22 l 0 l.length acc) (B22 acc)) (s0 := []) (InvP l) (InvP.zero l)
    (fun K n i acc hi h => by
      have := h.few
      rw [step22, decide_eq_true (by omega), cond_true, getI_P hi, Option.bind_some, wrap_succ (by omega), decide_eq_true (p := (acc ++ [ofM (getP l i).Shape (getP l i).Density]).length * 32 ≤ 2 ^ 47) (by rw [List.length_append, List.length_singleton]; omega)]
      unfold addP
      cases (getP l i).Sensor <;> rfl)
    (fun i acc hi h he => h.step hi he) (fun K n acc _ => by rw [step22, decide_eq_false (by omega)]; rfl)
  rcases h with ⟨i, acc, h1, h2, h3, h4⟩ | ⟨acc, h1, h2⟩
  · obtain ⟨b1, b2⟩ := h2.bad h1 h3
    exact .inl ⟨i, acc, b2, fun K => by rw [b1]; exact h4 K⟩
  · exact .inr ⟨acc, h1.done, h2⟩
def c22 : FC G := FC.sp [.l .part] fun (l, _) => jres (partsM l) (partsE l)
theorem ok22 : FcOk Tryz.prog 22 c22 := sp_lp L19ok Tryz.func22 (by kernel_rfl) (by kernel_rfl) fun (l, _) _ => by
  show ∃ lp, LpsOk (EV L19 lp) [] (bodyD Tryz.f22) ∧ ∀ K, xfn (EV L19 lp) Tryz.f22 [] (encs [.l .part] (l, ())) [] K = K (jres (partsM l) (partsE l)) [] []
  unfold partsM partsE
  cases h : decide (((l : List GPart).length : Int) > 8) with
  | true => exact ⟨[], LpsOk.of _ fun _ _ _ _ h => (by cases h), fun K => (x22n l K).trans (by rw [h]; rfl)⟩
  | false =>
    have hl : (l : List GPart).length ≤ 8 := by simp at h; omega
    rcases run22 l hl with ⟨i, acc, h1, h2⟩ | ⟨acc, h1, h2⟩
    · refine ⟨lc22 l .ret (V22 l (pgo l []).1 i acc) (B22 acc), lps1 (i := 5) (by kernel_rfl) rfl (lcOf_ok (by kernel_rfl) fun K => ⟨(l : List GPart).length + 1, by rw [iter_lp L19 _ [] (by kernel_rfl)]; exact h2 K⟩), fun K => (x22r l _ i acc K).trans ?_⟩
      rw [h, cond_false, gate_pos ⟨rfl, rfl⟩, h1]
      rfl
    · refine ⟨lc22 l (.exit 0) (V22 l 0 (l : List GPart).length acc) (B22 acc), lps1 (i := 5) (by kernel_rfl) rfl (lcOf_ok (by kernel_rfl) fun K => ⟨(l : List GPart).length + 1, by rw [iter_lp L19 _ [] (by kernel_rfl)]; exact h2 K⟩), fun K => (x22x l acc K).trans ?_⟩
      rw [h, cond_false, gate_pos ⟨rfl, rfl⟩, h1]
      rfl
noncomputable def L22 : Ctr := (22, c22) :: L19
theorem L22ok : AllOk L22 := .cons ok22 L19ok
/-! ### the reference's -/
def h23 : LH G := ⟨[0, 2, 3, 5], [(4, .mass, 900)], [2]⟩
def V23 (l : List GPart) (e i : Int) (acc : List GMass) : List (RV G) := [.rslice .part l, .ptr 2 0 0 0, .int .i64 e, .int .i64 i, .own 900 .mass acc.length]
noncomputable def lc23 (l : List GPart) (e : XE) (vs : List (RV G)) (bs : List (Blk G)) : List (Nat × LC G) := [(5, lcOf h23 (V23 l 0 0 []) (B22 []) fun K => K e vs bs)]
theorem step23 (lp : List (Nat × LC G)) (l : List GPart) (acc : List GMass) (n : Nat) (i : Int) (K) : iter (EV L22 lp) h23 (lpBody Tryz.f23 0) (n + 1) (V23 l 0 i acc) (B22 acc) K = bif decide (i < (l.length : Int)) then (getI l i).bind fun p => (getI l i).bind fun q =>
    bif ofE p.Shape q.Density != 0 then K .ret (V23 l (ofE p.Shape q.Density) i acc) (B22 acc) else (getI l i).bind fun r => bif !r.Sensor then bif decide ((acc ++ [ofM p.Shape q.Density]).length * 32 ≤ 2 ^ 47) then
      iter (EV L22 lp) h23 (lpBody Tryz.f23 0) n (V23 l 0 (IntKind.i64.wrap (i + 1)) (acc ++ [ofM p.Shape q.Density])) (B22 (acc ++ [ofM p.Shape q.Density])) K else none
    else iter (EV L22 lp) h23 (lpBody Tryz.f23 0) n (V23 l 0 (IntKind.i64.wrap (i + 1)) acc) (B22 acc) K
  else K (.exit 0) (V23 l 0 i acc) (B22 acc) := by kernel_rfl
theorem x23r (l : List GPart) (e i : Int) (acc : List GMass) (K) : xfn (EV L22 (lc23 l .ret (V23 l e i acc) (B22 acc))) Tryz.f23 [] (encs [.l .part] (l, ())) [] K = bif decide ((l.length : Int) > 8) then K (jres mass0 4) [] [] else
    gate (V23 l 0 0 [] = V23 l 0 0 [] ∧ B22 [] = B22 []) (K (jres mass0 e) [] []) := by kernel_rfl
theorem x23x (l : List GPart) (acc : List GMass) (K) : xfn (EV L22 (lc23 l (.exit 0) (V23 l 0 l.length acc) (B22 acc))) Tryz.f23 [] (encs [.l .part] (l, ())) [] K = bif decide ((l.length : Int) > 8) then K (jres mass0 4) [] [] else
    gate (V23 l 0 0 [] = V23 l 0 0 [] ∧ B22 [] = B22 []) (K (jres (joinM acc) (joinE acc)) [] []) := by kernel_rfl
theorem x23n (l : List GPart) (K) : xfn (EV L22 []) Tryz.f23 [] (encs [.l .part] (l, ())) [] K = bif decide ((l.length : Int) > 8) then K (jres mass0 4) [] [] else none := by kernel_rfl
theorem run23 (l : List GPart) (hl : l.length ≤ 8) :
    (∃ (i : Nat) (acc : List GMass), ((pgo l []).1 != 0) = true ∧ ∀ K, iter (EV L22 []) h23 (lpBody Tryz.f23 0) (l.length + 1) (V23 l 0 0 []) (B22 []) K = K .ret (V23 l (pgo l []).1 i acc) (B22 acc)) ∨
    ∃ acc : List GMass, pgo l [] = (0, acc) ∧ ∀ K, iter (EV L22 []) h23 (lpBody Tryz.f23 0) (l.length + 1) (V23 l 0 0 []) (B22 []) K = K (.exit 0) (V23 l 0 l.length acc) (B22 acc) := by
  have h := exit_loop (N := l.length) (p := fun (_ : List GMass) i => errP (getP l i) != 0) (g := fun acc i => addP acc (getP l i)) (F := fun K n i acc => iter (EV L22 []) h23 (lpBody Tryz.f23 0) n (V23 l 0 i acc) (B22 acc) K)
    (R := fun K i acc => K .ret (V23 l (errP (getP l i)) i acc) (B22 acc)) (X := fun K acc => K (.exit 0) (V23 l 0 l.length acc) (B22 acc)) (s0 := []) (InvP l) (InvP.zero l)
    (fun K n i acc hi h => by
      have := h.few
      rw [step23, decide_eq_true (by omega), cond_true, getI_P hi, Option.bind_some, Option.bind_some, Option.bind_some, wrap_succ (by omega), decide_eq_true (p := (acc ++ [ofM (getP l i).Shape (getP l i).Density]).length * 32 ≤ 2 ^ 47) (by rw [List.length_append, List.length_singleton]; omega)]
      unfold addP
      cases (getP l i).Sensor <;> rfl)
    (fun i acc hi h he => h.step hi he) (fun K n acc _ => by rw [step23, decide_eq_false (by omega)]; rfl)
  rcases h with ⟨i, acc, h1, h2, h3, h4⟩ | ⟨acc, h1, h2⟩
  · obtain ⟨b1, b2⟩ := h2.bad h1 h3
    exact .inl ⟨i, acc, b2, fun K => by rw [b1]; exact h4 K⟩
  · exact .inr ⟨acc, h1.done, h2⟩
def c23 : FC G := FC.sp [.l .part] fun (l, _) => jres (partsM l) (partsE l)
theorem ok23 : FcOk Tryz.prog 23 c23 := sp_lp L22ok Tryz.func23 (by kernel_rfl) (by kernel_rfl) fun (l, _) _ => by
  show ∃ lp, LpsOk (EV L22 lp) [] (bodyD Tryz.f23) ∧ ∀ K, xfn (EV L22 lp) Tryz.f23 [] (encs [.l .part] (l, ())) [] K = K (jres (partsM l) (partsE l)) [] []
  unfold partsM partsE
  cases h : decide (((l : List GPart).length : Int) > 8) with
  | true => exact ⟨[], LpsOk.of _ fun _ _ _ _ h => (by cases h), fun K => (x23n l K).trans (by rw [h]; rfl)⟩
  | false =>
    have hl : (l : List GPart).length ≤ 8 := by simp at h; omega
    rcases run23 l hl with ⟨i, acc, h1, h2⟩ | ⟨acc, h1, h2⟩
    · refine ⟨lc23 l .ret (V23 l (pgo l []).1 i acc) (B22 acc), lps1 (i := 5) (by kernel_rfl) rfl (lcOf_ok (by kernel_rfl) fun K => ⟨(l : List GPart).length + 1, by rw [iter_lp L22 _ [] (by kernel_rfl)]; exact h2 K⟩), fun K => (x23r l _ i acc K).trans ?_⟩
      rw [h, cond_false, gate_pos ⟨rfl, rfl⟩, h1]
      rfl
    · refine ⟨lc23 l (.exit 0) (V23 l 0 (l : List GPart).length acc) (B22 acc), lps1 (i := 5) (by kernel_rfl) rfl (lcOf_ok (by kernel_rfl) fun K => ⟨(l : List GPart).length + 1, by rw [iter_lp L22 _ [] (by kernel_rfl)]; exact h2 K⟩), fun K => (x23x l acc K).trans ?_⟩
      rw [h, cond_false, gate_pos ⟨rfl, rfl⟩, h1]
      rfl
noncomputable def L23 : Ctr := (23, c23) :: L22
theorem L23ok : AllOk L23 := .cons ok23 L22ok
/-! ### MassParts -/
noncomputable def L5 : Ctr := (16, FC.sp [] fun _ => .bool true) :: L23
theorem L5ok : AllOk L5 := .cons ok16 L23ok
def big5 (p : GPart) : Bool := decide ((p.Shape.Points.length : Int) > 100)
def h5 : LH G := ⟨[0, 2, 3, 4], [], []⟩
def V5 (l : List GPart) (b : Bool) (i : Int) : List (RV G) := [.rslice .part l, .bool b, .bool true, .int .i64 i]
noncomputable def E5 (l : List GPart) : List (Nat × LC G) := [(7, lcOf h5 (V5 l false 0) [] fun K => bif l.any big5 then K .ret (V5 l true (l.findIdx big5 : Nat)) [] else K (.exit 0) (V5 l false (l.length : Nat)) [])]
theorem step5 (lp : List (Nat × LC G)) (l : List GPart) (n : Nat) (i : Int) (K) : iter (EV L5 lp) h5 (lpBody Tryz.f5 0) (n + 1) (V5 l false i) [] K = bif decide (i < (l.length : Int)) then (getI l i).bind fun p =>
    bif big5 p then K .ret (V5 l true i) [] else iter (EV L5 lp) h5 (lpBody Tryz.f5 0) n (V5 l false (IntKind.i64.wrap (i + 1))) [] K
  else K (.exit 0) (V5 l false i) [] := by kernel_rfl
theorem x5 (l : List GPart) (K) : xfn (EV L5 (E5 l)) Tryz.f5 [] (encs [.l .part] (l, ())) [] K = bif decide ((l.length : Int) > 20) then K (.bool true) [] [] else gate (V5 l false 0 = V5 l false 0 ∧ ([] : List (Blk G)) = [])
    (bif l.any big5 then K (.bool true) [] [] else K (.bool ((true && msame (partsM l) (partsM l)) && (partsE l == partsE l))) [] []) := by kernel_rfl
theorem ok5 : FcOk Tryz.prog 5 (FC.sp [.l .part] fun _ => .bool true) := sp_lp L5ok Tryz.func5 (by kernel_rfl) (by kernel_rfl) fun (l, _) ⟨hx, _⟩ => ⟨E5 l, lps1 (i := 7) (by kernel_rfl) rfl (lcOf_ok (by kernel_rfl) fun K => ⟨_, find_loop (xs := l) (p := big5) (F := fun n i => iter (EV L5 (E5 l)) h5 (lpBody Tryz.f5 0) n (V5 l false i) [] K)
    (R := fun i => K .ret (V5 l true i) []) (X := fun i => K (.exit 0) (V5 l false i) []) (fun n i => step5 _ l n i K) hx⟩), fun K => (x5 l K).trans (by
  rw [gate_pos ⟨rfl, rfl⟩, msame_refl]
  cases decide (((l : List GPart).length : Int) > 20) with
  | true => rfl
  | false => cases (l : List GPart).any big5 <;> simp)⟩
end Go.SX

/- PRINTED BY A PROGRAM OF THIS SEAT: what comes in, opened: values of the seat's types out of their readings. No statement of the seat is proved here. -/
namespace Go.SX
open Go.Proofs
set_option maxRecDepth 20000
abbrev stb (W : World) : Stb := fun k => W.heap[k]?
/-- Cells that stand for RVs. -/
def CR (W : World) (cs : List Value) (rs : List (RV G)) : Prop := cs.length = rs.length ∧ ∀ (j : Nat) (u : Value) (r : RV G), cs[j]? = some u → rs[j]? = some r → RVal (fun _ => none) (stb W) u r
theorem CR.nil (W : World) : CR W [] [] := ⟨rfl, fun j u r h => by simp at h⟩
theorem CR.one {W : World} {u : Value} {r : RV G} (h : RVal (fun _ => none) (stb W) u r) : CR W [u] [r] := ⟨rfl, fun j v q hv hq => by
  cases j with
  | zero => cases hv; cases hq; exact h
  | succ j => simp at hv⟩
theorem CR.app {W : World} {a b : List Value} {r s : List (RV G)} (h : CR W a r) (g : CR W b s) : CR W (a ++ b) (r ++ s) := by
  refine ⟨by rw [List.length_append, List.length_append, h.1, g.1], fun j u q hu hq => ?_⟩
  by_cases hj : j < a.length
  · rw [List.getElem?_append_left hj] at hu
    rw [List.getElem?_append_left (by rw [← h.1]; exact hj)] at hq
    exact h.2 j u q hu hq
  · rw [List.getElem?_append_right (by omega)] at hu
    rw [List.getElem?_append_right (by rw [← h.1]; omega), ← h.1] at hq
    exact g.2 _ u q hu hq
theorem CR.step {W : World} {cs : List Value} {off sz : Nat} {r s : List (RV G)} (h : CR W ((cs.drop off).take sz) r) (g : CR W (cs.drop (off + sz)) s) : CR W (cs.drop off) (r ++ s) := by
  have := h.app g
  rwa [take_drop_step] at this
theorem CR.done {W : World} {cs : List Value} {off : Nat} (h : cs.length = off) : CR W (cs.drop off) [] := by
  rw [List.drop_eq_nil_of_le (by omega)]
  exact .nil W
/-- What is read of a type stands for one of these. -/
def Op (W : World) (t : Nat) {α : Type} (en : α → List (RV G)) : Prop := ∀ (H : Type) (e : TypeId × Value → H) (fuel : Nat) (cs : List Value) (y : DataW H × List MemPlace), DataW.trod e Tryz.prog W 0 (fun _ => true) true fuel t cs = some y → ∃ x : α, CR W cs (en x)
theorem some_at {α : Type} {xs : List α} {n i : Nat} (h : xs.length = n) (hi : i < n) : ∃ y, xs[i]? = some y := ⟨_, List.getElem?_eq_getElem (by omega)⟩
theorem op_int {W : World} {t : Nat} {k : IntKind} (ht : Tryz.prog.underlying t = some (.int k)) : Op W t (fun x : Int => [.int k x]) := fun H e fuel cs y h => by
  obtain ⟨n, rfl, _, _⟩ := DataW.trod_int ht h
  exact ⟨n, .one (.int _ _)⟩
theorem op_bool {W : World} {t : Nat} (ht : Tryz.prog.underlying t = some .bool) : Op W t (fun x : Bool => [.bool x]) := fun H e fuel cs y h => by
  obtain ⟨n, rfl, _⟩ := DataW.trod_bool ht h
  exact ⟨n, .one (.bool _)⟩
theorem op_flt {W : World} {t : Nat} (ht : Tryz.prog.underlying t = some (.float .f64)) : Op W t (fun x : Nat => [.flt x]) := fun H e fuel cs y h => by
  cases fuel with
  | zero => simp [DataW.trod] at h
  | succ m =>
    unfold DataW.trod at h
    rw [ht] at h
    split at h <;> simp_all
    rename_i k b hk
    obtain ⟨⟨rfl, hw⟩, _⟩ := h
    subst hk
    exact ⟨b, .one (.flt (FEq.refl _) (by simpa [Lit.wf] using hw))⟩
theorem cells_at {W : World} {a : Addr} {n : Nat} {cs : List Value} (h : W.cells? 0 a n = some cs) : cs.length = n ∧ ∀ j, j < n → W.cell? (a.add j) = cs[j]? := by
  unfold World.cells? at h
  rw [if_pos (Nat.zero_le _)] at h
  refine ⟨by simpa using mapM_some_length h, fun j hj => ?_⟩
  exact mapM_some_get h j j (by simp [hj])
/-- A slice's elements. -/
theorem op_slice {W : World} {t e : Nat} {c : TC} {sz : Nat} (ht : Tryz.prog.underlying t = some (.slice e)) (hc : Tryz.prog.cellsOf e = sz) (hz : sz = sizeG c) (hp : 0 < sz) (he : Op W e (encG c)) : Op W t (fun xs : List (TD c) => [.rslice c xs]) := fun H en fuel cs y h => by
  rcases DataW.trod_slice ht h with ⟨rfl, _⟩ | ⟨a, len, cap, elems, rest, n, _, rfl, _, _, hl, hm, hlen, hel, _⟩
  · exact ⟨[], .one (.rslice0 fun _ => rfl)⟩
  · by_cases h0 : len = 0
    · subst h0
      exact ⟨[], .one (.rslice0 fun h => by cases h)⟩
    · rw [hc] at hel
      have each : ∀ i, i < len → ∃ x : TD c, ∃ es : List Value, CR W es (encG c x) ∧ es.length = sz ∧ ∀ j, j < sz → W.cell? (a.add (i * sz + j)) = es[j]? := fun i hi => by
        obtain ⟨y, hy⟩ := some_at hlen hi
        have := hel i hi
        rw [hy, Option.bind_eq_some_iff] at this
        obtain ⟨es, h1, h2⟩ := this
        obtain ⟨g1, g2⟩ := cells_at h1
        obtain ⟨x, hx⟩ := he H en n es y h2
        refine ⟨x, es, hx, g1, fun j hj => ?_⟩
        rw [← g2 j hj, Go.Addr.add_add]
      obtain ⟨xs, hxs, hall⟩ : ∃ xs : List (TD c), xs.length = len ∧ ∀ i x, xs[i]? = some x → ∃ es : List Value, CR W es (encG c x) ∧ es.length = sz ∧ ∀ j, j < sz → W.cell? (a.add (i * sz + j)) = es[j]? := by
        refine ⟨List.ofFn fun i : Fin len => Classical.choose (each i.1 i.2), by simp, fun i x hx => ?_⟩
        rw [List.getElem?_ofFn] at hx
        split at hx
        · rename_i hi
          cases hx
          exact Classical.choose_spec (each i hi)
        · cases hx
      obtain ⟨b, off, spot⟩ := a
      obtain ⟨x0, hx0⟩ : ∃ x, xs[0]? = some x := ⟨_, List.getElem?_eq_getElem (by omega)⟩
      obtain ⟨es0, _, q1, q2⟩ := hall 0 x0 hx0
      have hc0 := q2 0 hp
      rw [List.getElem?_eq_getElem (by omega)] at hc0
      have hspot : spot = none := by simpa [Addr.add] using World.cell?_spot hc0
      subst hspot
      have hadd : ∀ j, Addr.add ⟨b, off, none⟩ j = ⟨b, off + j, none⟩ := fun j => by unfold Addr.add; split <;> simp_all
      obtain ⟨arr, ty, fr, hk⟩ : ∃ arr ty fr, W.heap[b]? = some (.cells arr ty fr) := by
        unfold World.cell? at hc0
        rw [hadd] at hc0
        split at hc0
        · exact ⟨_, _, _, by assumption⟩
        · cases hc0
      have hcell : ∀ j, W.cell? ⟨b, j, none⟩ = arr[j]? := fun j => by simp [World.cell?, hk]
      have hm' : maxLen = 9223372036854775807 := by decide
      refine ⟨xs, .one (.rslice hxs.symm (off := off) hk ⟨hl, by omega⟩ (fun i j x r hx hr => ?_) (fun i j x r u hx hr hu => ?_))⟩
      · obtain ⟨es, p1, p2, p3⟩ := hall i x hx
        have hj : j < sz := by rw [hz]; have := (List.getElem?_eq_some_iff.1 hr).1; rw [show (Enc.enc c x : List (RV G)) = encG c x from rfl, encG_size] at this; exact this
        have := p3 j hj
        rw [hadd, hcell, List.getElem?_eq_getElem (by omega)] at this
        have := (Array.getElem?_eq_some_iff.1 this).1
        show off + i * sizeG c + j < arr.size
        rw [← hz]
        omega
      · obtain ⟨es, p1, p2, p3⟩ := hall i x hx
        have hj : j < sz := by rw [hz]; have := (List.getElem?_eq_some_iff.1 hr).1; rw [show (Enc.enc c x : List (RV G)) = encG c x from rfl, encG_size] at this; exact this
        have := p3 j hj
        rw [hadd, hcell] at this
        have hu' : arr[off + i * sizeG c + j]? = some u := hu
        rw [← hz, Nat.add_assoc] at hu'
        rw [hu'] at this
        exact p1.2 j u r this.symm hr
theorem cells29 : Tryz.prog.cellsOf 29 = 2 := by kernel_rfl
theorem cells23 : Tryz.prog.cellsOf 23 = 1 := by kernel_rfl
theorem op29 (W : World) : Op W 29 (encG .vec) := fun H e fuel cs y h => by
  obtain ⟨xs, n, rfl, _, hl, hx, hf⟩ := DataW.trod_struct Tryz.underlying29 h
  rw [cells29] at hl
  have hx : xs.length = 2 := hx
  obtain ⟨y0, hy0⟩ := some_at hx (show 0 < 2 by decide)
  have h0 := hf 0 _ rfl
  simp only [hy0] at h0
  obtain ⟨x0, c0⟩ := (op_flt Tryz.underlying23 : Op W 23 _) H e n _ _ h0
  obtain ⟨y1, hy1⟩ := some_at hx (show 1 < 2 by decide)
  have h1 := hf 1 _ rfl
  simp only [hy1] at h1
  obtain ⟨x1, c1⟩ := (op_flt Tryz.underlying23 : Op W 23 _) H e n _ _ h1
  exact ⟨⟨x0, x1⟩, CR.step c0 (CR.step c1 (.done hl))⟩
theorem cells44 : Tryz.prog.cellsOf 44 = 1 := by kernel_rfl
theorem op44 (W : World) : Op W 44 (fun xs : List (TD .vec) => [.rslice .vec xs]) := op_slice Tryz.underlying44 cells29 rfl (by decide) (op29 W)
theorem cells46 : Tryz.prog.cellsOf 46 = 3 := by kernel_rfl
theorem cells5 : Tryz.prog.cellsOf 5 = 1 := by kernel_rfl
theorem op46 (W : World) : Op W 46 (encG .shape) := fun H e fuel cs y h => by
  obtain ⟨xs, n, rfl, _, hl, hx, hf⟩ := DataW.trod_struct Tryz.underlying46 h
  rw [cells46] at hl
  have hx : xs.length = 3 := hx
  obtain ⟨y0, hy0⟩ := some_at hx (show 0 < 3 by decide)
  have h0 := hf 0 _ rfl
  simp only [hy0] at h0
  obtain ⟨x0, c0⟩ := (op_int Tryz.underlying5 : Op W 5 _) H e n _ _ h0
  obtain ⟨y1, hy1⟩ := some_at hx (show 1 < 3 by decide)
  have h1 := hf 1 _ rfl
  simp only [hy1] at h1
  obtain ⟨x1, c1⟩ := (op_flt Tryz.underlying23 : Op W 23 _) H e n _ _ h1
  obtain ⟨y2, hy2⟩ := some_at hx (show 2 < 3 by decide)
  have h2 := hf 2 _ rfl
  simp only [hy2] at h2
  obtain ⟨x2, c2⟩ := (op44 W : Op W 44 _) H e n _ _ h2
  exact ⟨⟨x0, x1, x2⟩, CR.step c0 (CR.step c1 (CR.step c2 (.done hl)))⟩
theorem cells59 : Tryz.prog.cellsOf 59 = 9 := by kernel_rfl
theorem cells4 : Tryz.prog.cellsOf 4 = 1 := by kernel_rfl
theorem cells57 : Tryz.prog.cellsOf 57 = 1 := by kernel_rfl
theorem op59 (W : World) : Op W 59 (encG .part) := fun H e fuel cs y h => by
  obtain ⟨xs, n, rfl, _, hl, hx, hf⟩ := DataW.trod_struct Tryz.underlying59 h
  rw [cells59] at hl
  have hx : xs.length = 7 := hx
  obtain ⟨y0, hy0⟩ := some_at hx (show 0 < 7 by decide)
  have h0 := hf 0 _ rfl
  simp only [hy0] at h0
  obtain ⟨x0, c0⟩ := (op46 W : Op W 46 _) H e n _ _ h0
  obtain ⟨y1, hy1⟩ := some_at hx (show 1 < 7 by decide)
  have h1 := hf 1 _ rfl
  simp only [hy1] at h1
  obtain ⟨x1, c1⟩ := (op_flt Tryz.underlying23 : Op W 23 _) H e n _ _ h1
  obtain ⟨y2, hy2⟩ := some_at hx (show 2 < 7 by decide)
  have h2 := hf 2 _ rfl
  simp only [hy2] at h2
  obtain ⟨x2, c2⟩ := (op_flt Tryz.underlying23 : Op W 23 _) H e n _ _ h2
  obtain ⟨y3, hy3⟩ := some_at hx (show 3 < 7 by decide)
  have h3 := hf 3 _ rfl
  simp only [hy3] at h3
  obtain ⟨x3, c3⟩ := (op_flt Tryz.underlying23 : Op W 23 _) H e n _ _ h3
  obtain ⟨y4, hy4⟩ := some_at hx (show 4 < 7 by decide)
  have h4 := hf 4 _ rfl
  simp only [hy4] at h4
  obtain ⟨x4, c4⟩ := (op_bool Tryz.underlying4 : Op W 4 _) H e n _ _ h4
  obtain ⟨y5, hy5⟩ := some_at hx (show 5 < 7 by decide)
  have h5 := hf 5 _ rfl
  simp only [hy5] at h5
  obtain ⟨x5, c5⟩ := (op_int Tryz.underlying57 : Op W 57 _) H e n _ _ h5
  obtain ⟨y6, hy6⟩ := some_at hx (show 6 < 7 by decide)
  have h6 := hf 6 _ rfl
  simp only [hy6] at h6
  obtain ⟨x6, c6⟩ := (op_int Tryz.underlying57 : Op W 57 _) H e n _ _ h6
  exact ⟨⟨x0, x1, x2, x3, x4, x5, x6⟩, CR.step c0 (CR.step c1 (CR.step c2 (CR.step c3 (CR.step c4 (CR.step c5 (CR.step c6 (.done hl)))))))⟩
theorem cells56 : Tryz.prog.cellsOf 56 = 1 := by kernel_rfl
theorem op56 (W : World) : Op W 56 (fun xs : List (TD .part) => [.rslice .part xs]) := op_slice Tryz.underlying56 cells59 rfl (by decide) (op59 W)
theorem cells50 : Tryz.prog.cellsOf 50 = 4 := by kernel_rfl
theorem op50 (W : World) : Op W 50 (encG .mass) := fun H e fuel cs y h => by
  obtain ⟨xs, n, rfl, _, hl, hx, hf⟩ := DataW.trod_struct Tryz.underlying50 h
  rw [cells50] at hl
  have hx : xs.length = 3 := hx
  obtain ⟨y0, hy0⟩ := some_at hx (show 0 < 3 by decide)
  have h0 := hf 0 _ rfl
  simp only [hy0] at h0
  obtain ⟨x0, c0⟩ := (op_flt Tryz.underlying23 : Op W 23 _) H e n _ _ h0
  obtain ⟨y1, hy1⟩ := some_at hx (show 1 < 3 by decide)
  have h1 := hf 1 _ rfl
  simp only [hy1] at h1
  obtain ⟨x1, c1⟩ := (op_flt Tryz.underlying23 : Op W 23 _) H e n _ _ h1
  obtain ⟨y2, hy2⟩ := some_at hx (show 2 < 3 by decide)
  have h2 := hf 2 _ rfl
  simp only [hy2] at h2
  obtain ⟨x2, c2⟩ := (op29 W : Op W 29 _) H e n _ _ h2
  exact ⟨⟨x0, x1, x2⟩, CR.step c0 (CR.step c1 (CR.step c2 (.done hl)))⟩
theorem cells126 : Tryz.prog.cellsOf 126 = 1 := by kernel_rfl
theorem op126 (W : World) : Op W 126 (fun xs : List (TD .mass) => [.rslice .mass xs]) := op_slice Tryz.underlying126 cells50 rfl (by decide) (op50 W)
end Go.SX

/- From a law's contract to what its row asks of a call. No statement of the seat is proved here. -/
namespace Go.SX
open Go.Proofs Go.RowKit
set_option maxRecDepth 20000

theorem start_inv (W : World) : Inv W.heap.size (Mof ⟨fun _ => none, stb W⟩ []) ⟨fun _ => none, stb W⟩ (startM (S := G) [] []) W where
  base := Nat.le_refl _
  stable _ _ h := h
  free _ _ := rfl
  has b x h := by cases h
  blk b x l h := by cases h
  lt b l k h := by cases h
  sep b b' x x' l l' k h := by cases h
  mine b x l k h := by cases h

/-- What a law's contract says of a call. -/
theorem law_calls {f : Nat} {fn : Func} {ks : List AK} (hf : Tryz.prog.funcs[f]? = some fn) (ho : fnOK fn = true) (h : FcOk Tryz.prog f (FC.sp ks fun _ => .bool true)) {x : dens ks} (hx : decs' ks (encs ks x) = some x)
    {args : Array Value} {W : World} (ha : ArgsRel (fun _ => none) (stb W) args (encs ks x)) : Calls Tryz.prog f args W fun e W' => e = .returned (.bool true) ∧ Below W.heap.size W W' := by
  obtain ⟨r, bs', fr, h1, h2⟩ := h.run (encs ks x) [] (fun r bs fr => some (r, bs, fr)) (.bool true, [], []) (by simp only [FC.sp, FC.ofPure, hx])
  cases h1
  have hc := h2 ⟨fun _ => none, stb W⟩ W args [] (by simp [muIds, FC.sp, FC.ofPure, mutsOf_nil]) rfl ha (fun x hx => by simp at hx) (start_inv W)
  obtain ⟨o1, o2, o3⟩ := fnOK_spec ho
  have hcall : (callFunc f args).run Tryz.prog W = .ok (.enter f args) W := by
    have hn : ¬ (fn.name = "runtime.NumGoroutine") := by simpa using o1
    simp [callFunc, program, Sem.run, hf, hn, o2]
  unfold CallsTo at hc
  rw [hcall] at hc
  refine hc.mono fun e W' he => ?_
  cases e with
  | returned v =>
    obtain ⟨φr, St', hr, _, _, _, hfr⟩ := he
    cases hr
    exact ⟨rfl, ⟨hfr.os, hfr.tape, hfr.output, hfr.size, fun k hk => hfr.same k hk fun ⟨id, hid, _⟩ => by simp at hid⟩⟩
  | _ => exact he.elim

theorem args_nil (W : World) : ArgsRel (fun _ => none) (stb W) #[] ([] : List (RV G)) := ⟨rfl, fun j u r h => by simp at h⟩
theorem args_cons {W : World} {v : Value} {vs : List Value} {r : RV G} {rs : List (RV G)} (h : RVal (fun _ => none) (stb W) v r) (g : ArgsRel (fun _ => none) (stb W) vs.toArray rs) : ArgsRel (fun _ => none) (stb W) (v :: vs).toArray (r :: rs) := by
  refine ⟨?_, fun j u q hu hq => ?_⟩
  · have := g.1
    simp at this ⊢
    exact this
  · cases j with
    | zero => simp at hu hq; subst hu; subst hq; exact h
    | succ j => exact g.2 j u q (by simpa using hu) (by simpa using hq)

theorem agg_of {W : World} {arr : Array Value} {l : List (RV G)} (h : CR W arr.toList l) : RVal (fun _ => none) (stb W) (.agg arr) (.agg l) :=
  .agg (by simpa using h.1) fun j u r hu hr => h.2 j u r (by simpa using hu) hr
theorem one_of {W : World} {v : Value} {r : RV G} (h : CR W [v] [r]) : RVal (fun _ => none) (stb W) v r := h.2 0 v r rfl rfl
end Go.SX
