/- Texts of this seat, laid together by a program: what they say stands at each. No statement of the seat is proved in this file. -/
import Derived.Test.YtkcjaejpkjojnaaMx3
import Derived.ProofKit
import Derived.OpenShut
import Derived.ShutString
import Derived.ChangeOld
import Derived.Below
import Derived.SizedLaws
set_option linter.unusedSectionVars false
set_option linter.unnecessarySimpa false
set_option linter.unusedVariables false
set_option linter.unusedSimpArgs false
set_option exponentiation.threshold 4096
/- Sums; what several masses weigh together, by the program. No statement of the seat is proved here. -/
namespace Go.SX
open Go.Proofs
set_option maxRecDepth 20000
def fsum (l : List Nat) : Nat := match l with | [] => 0 | x :: r => r.foldl fadd x
def h172 : LH G := ⟨[3, 13, 14, 15], [], []⟩
def V172 (r : List Nat) (s : Nat) (i : Int) : List (RV G) := [.flt s, .rslice .f64 r, .int .i64 r.length, .int .i64 i]
noncomputable def E172 (l : List Nat) : List (Nat × LC G) := [(5, lcOf h172 (V172 (l.drop 1) (l.getD 0 0) 0) [] fun K => K (.exit 0) (V172 (l.drop 1) (fsum l) (l.drop 1).length) [])]
theorem step172 (lp : List (Nat × LC G)) (r : List Nat) (s : Nat) (n : Nat) (i : Int) (K) : iter (EV L113 lp) h172 (lpBody Try.f172 0) (n + 1) (V172 r s i) [] K = bif decide (i < (r.length : Int)) then
    (getI r i).bind fun y => iter (EV L113 lp) h172 (lpBody Try.f172 0) n (V172 r (fadd s y) (IntKind.i64.wrap (i + 1))) [] K
  else K (.exit 0) (V172 r s i) [] := by kernel_rfl
theorem x172 (l : List Nat) (K) : xfn (EV L113 (E172 l)) Try.f172 [] (encs [.l .f64] (l, ())) [] K = bif (l.length : Int) == 0 then K (.flt 0) [] [] else (getI l 0).bind fun x =>
    bif decide ((0 : Int) ≤ 1 ∧ (1 : Int) ≤ (l.length : Int)) then gate (V172 (l.drop (1 : Int).toNat) x 0 = V172 (l.drop 1) (l.getD 0 0) 0 ∧ ([] : List (Blk G)) = []) (K (.flt (fsum l)) [] []) else none := by kernel_rfl
theorem x172n (l : List Nat) (K) : xfn (EV L113 []) Try.f172 [] (encs [.l .f64] (l, ())) [] K = bif (l.length : Int) == 0 then K (.flt 0) [] [] else (getI l 0).bind fun x =>
    bif decide ((0 : Int) ≤ 1 ∧ (1 : Int) ≤ (l.length : Int)) then none else none := by kernel_rfl
theorem foldl_range {σ α : Type} (f : σ → α → σ) (d : α) : ∀ (l : List α) (s : σ), (List.range l.length).foldl (fun s i => f s (l.getD i d)) s = l.foldl f s := by
  intro l
  induction l with
  | nil => intro s; rfl
  | cons x r ih =>
    intro s
    rw [List.length_cons, List.range_succ_eq_map, List.foldl_cons, List.foldl_map]
    exact ih _
theorem lp172 (l : List Nat) (hx : l.length < 9223372036854775808) (hl : l ≠ []) : LpOk (EV L113 (E172 l)) [] (lpBody Try.f172 0) (lcOf h172 (V172 (l.drop 1) (l.getD 0 0) 0) [] fun K => K (.exit 0) (V172 (l.drop 1) (fsum l) (l.drop 1).length) []) :=
  lcOf_ok (by kernel_rfl) fun K => ⟨_, (fold_loop (N := (l.drop 1).length) (g := fun s i => fadd s ((l.drop 1).getD i 0)) (F := fun n i s => iter (EV L113 (E172 l)) h172 (lpBody Try.f172 0) n (V172 (l.drop 1) s i) [] K) (X := fun s => K (.exit 0) (V172 (l.drop 1) s (l.drop 1).length) []) (s0 := l.getD 0 0) (fun _ _ => True) trivial
    (fun n i s hi _ => by
      have hd : (l.drop 1).length ≤ l.length := by rw [List.length_drop]; omega
      rw [step172, decide_eq_true (by omega), cond_true, getI_at hi, Option.bind_some, wrap_succ (by omega), List.getD_eq_getElem?_getD, List.getElem?_eq_getElem hi]
      rfl)
    (fun _ _ _ _ => trivial) (fun n s _ => by rw [step172, decide_eq_false (by omega)]; rfl)).trans (by
      rw [foldl_range fadd 0 (l.drop 1)]
      cases l with
      | nil => exact absurd rfl hl
      | cons x r => rfl)⟩
def c172 : FC G := FC.sp [.l .f64] fun (l, _) => .flt (fsum l)
theorem ok172 : FcOk Try.prog 172 c172 := sp_lp L113ok Try.func172 (by kernel_rfl) (by kernel_rfl) fun (l, _) ⟨hx, _⟩ => by
  have hx : (l : List Nat).length < 9223372036854775808 := hx
  cases l with
  | nil => exact ⟨[], LpsOk.of _ fun _ _ _ _ h => (by cases h), fun K => (x172n [] K).trans rfl⟩
  | cons y r =>
    have e : (((y :: r : List Nat).length : Int) == 0) = false := by simp; omega
    refine ⟨E172 (y :: r), lps1 (i := 5) (by kernel_rfl) rfl (lp172 (y :: r) hx (by simp)), fun K => (x172 (y :: r) K).trans ?_⟩
    rw [e, cond_false]
    have g : getI (y :: r : List Nat) 0 = some y := rfl
    rw [g, Option.bind_some, decide_eq_true (by simp; omega), cond_true]
    exact gate_pos ⟨rfl, rfl⟩ _
noncomputable def L172 : Ctr := (172, c172) :: L113
theorem L172ok : AllOk L172 := .cons ok172 L113ok
/-! ### sums over masses -/
def h109 : LH G := ⟨[1, 5, 11, 12, 13], [], [10]⟩
def V109 (f : RV G) (l : List GMass) (s : List Nat) (i : Int) : List (RV G) := [f, .own 10 .f64 s.length, .rslice .mass l, .int .i64 l.length, .int .i64 i]
def B109 (s : List Nat) : List (Blk G) := [.rows .f64 s]
noncomputable def E109 (f : RV G) (g : GMass → Nat) (l : List GMass) : List (Nat × LC G) := [(3, lcOf h109 (V109 f l (List.replicate l.length 0) 0) (B109 (List.replicate l.length 0)) fun K => K (.exit 0) (V109 f l (l.map g) l.length) (B109 (l.map g)))]
def put109 (g : GMass → Nat) (l : List GMass) (s : List Nat) (i : Int) (next : List Nat → Ans G) : Ans G := (getI l i).bind fun m => atN s.length s i fun _ => next (s.set i.toNat (g m))
theorem step109a (lp : List (Nat × LC G)) (l : List GMass) (s : List Nat) (n : Nat) (i : Int) (K) : iter (EV L172 lp) h109 (lpBody Try.f109 0) (n + 1) (V109 (.func 110 []) l s i) (B109 s) K = bif decide (i < (l.length : Int)) then
    put109 (fun m => m.Mass) l s i fun s' => iter (EV L172 lp) h109 (lpBody Try.f109 0) n (V109 (.func 110 []) l s' (IntKind.i64.wrap (i + 1))) (B109 s') K else K (.exit 0) (V109 (.func 110 []) l s i) (B109 s) := by kernel_rfl
theorem step109b (lp : List (Nat × LC G)) (l : List GMass) (s : List Nat) (n : Nat) (i : Int) (K) : iter (EV L172 lp) h109 (lpBody Try.f109 0) (n + 1) (V109 (.func 111 []) l s i) (B109 s) K = bif decide (i < (l.length : Int)) then
    put109 (fun m => fmul m.Mass m.Centre.X) l s i fun s' => iter (EV L172 lp) h109 (lpBody Try.f109 0) n (V109 (.func 111 []) l s' (IntKind.i64.wrap (i + 1))) (B109 s') K else K (.exit 0) (V109 (.func 111 []) l s i) (B109 s) := by kernel_rfl
theorem step109c (lp : List (Nat × LC G)) (l : List GMass) (s : List Nat) (n : Nat) (i : Int) (K) : iter (EV L172 lp) h109 (lpBody Try.f109 0) (n + 1) (V109 (.func 112 []) l s i) (B109 s) K = bif decide (i < (l.length : Int)) then
    put109 (fun m => fmul m.Mass m.Centre.Y) l s i fun s' => iter (EV L172 lp) h109 (lpBody Try.f109 0) n (V109 (.func 112 []) l s' (IntKind.i64.wrap (i + 1))) (B109 s') K else K (.exit 0) (V109 (.func 112 []) l s i) (B109 s) := by kernel_rfl
theorem step109d (lp : List (Nat × LC G)) (c : GVec) (l : List GMass) (s : List Nat) (n : Nat) (i : Int) (K) : iter (EV L172 lp) h109 (lpBody Try.f109 0) (n + 1) (V109 (.func 113 [.rptr (encG .vec c) 0]) l s i) (B109 s) K = bif decide (i < (l.length : Int)) then
    put109 (fun m => mabout m c) l s i fun s' => iter (EV L172 lp) h109 (lpBody Try.f109 0) n (V109 (.func 113 [.rptr (encG .vec c) 0]) l s' (IntKind.i64.wrap (i + 1))) (B109 s') K else K (.exit 0) (V109 (.func 113 [.rptr (encG .vec c) 0]) l s i) (B109 s) := by kernel_rfl
theorem lp109 (f : RV G) (g : GMass → Nat) (l : List GMass) (hl : l.length ≤ 1048576)
    (hs : ∀ (s : List Nat) (n : Nat) (i : Int) K, iter (EV L172 (E109 f g l)) h109 (lpBody Try.f109 0) (n + 1) (V109 f l s i) (B109 s) K = bif decide (i < (l.length : Int)) then
      put109 g l s i fun s' => iter (EV L172 (E109 f g l)) h109 (lpBody Try.f109 0) n (V109 f l s' (IntKind.i64.wrap (i + 1))) (B109 s') K else K (.exit 0) (V109 f l s i) (B109 s)) :
    LpOk (EV L172 (E109 f g l)) [] (lpBody Try.f109 0) (lcOf h109 (V109 f l (List.replicate l.length 0) 0) (B109 (List.replicate l.length 0)) fun K => K (.exit 0) (V109 f l (l.map g) l.length) (B109 (l.map g))) :=
  lcOf_ok (by kernel_rfl) fun K => ⟨_, (fold_loop (N := l.length) (g := fun s i => s.set i (g (l.getD i mass0))) (F := fun n i s => iter (EV L172 (E109 f g l)) h109 (lpBody Try.f109 0) n (V109 f l s i) (B109 s) K) (X := fun s => K (.exit 0) (V109 f l s l.length) (B109 s)) (s0 := List.replicate l.length 0) (fun _ s => s.length = l.length) (by simp)
    (fun n i s hi h => by
      have hm : getI l (i : Int) = some (l.getD i mass0) := by rw [getI_at hi, List.getD_eq_getElem?_getD, List.getElem?_eq_getElem hi]; rfl
      rw [hs, decide_eq_true (by omega), cond_true]
      unfold put109
      rw [hm, Option.bind_some, atN_any (by omega) (by omega) (Nat.le_refl _), wrap_succ (by omega), Int.toNat_natCast])
    (fun i s _ h => by simp [h]) (fun n s _ => by rw [hs, decide_eq_false (by omega)]; rfl)).trans (by
      have main : ∀ n, n ≤ l.length → ∀ k, k < l.length → ((List.range n).foldl (fun s i => s.set i (g (l.getD i mass0))) (List.replicate l.length 0))[k]? = some (if k < n then g (l.getD k mass0) else 0) ∧ ((List.range n).foldl (fun s i => s.set i (g (l.getD i mass0))) (List.replicate l.length 0)).length = l.length := by
        intro n
        induction n with
        | zero => intro _ k hk; simp [hk]
        | succ n ih =>
          intro hn k hk
          obtain ⟨g1, g2⟩ := ih (by omega) k hk
          rw [List.range_succ, List.foldl_append]
          simp only [List.foldl_cons, List.foldl_nil, List.length_set, g2, and_true]
          rw [List.getElem?_set, g1, g2]
          by_cases e : n = k
          · subst e; simp [hk]
          · rw [if_neg e]
            congr 1
            by_cases h : k < n
            · rw [if_pos h, if_pos (by omega)]
            · rw [if_neg h, if_neg (by omega)]
      have e : (List.range l.length).foldl (fun s i => s.set i (g (l.getD i mass0))) (List.replicate l.length 0) = l.map g := by
        apply List.ext_getElem?
        intro k
        by_cases hk : k < l.length
        · rw [(main l.length (Nat.le_refl _) k hk).1, if_pos hk, List.getElem?_map, List.getD_eq_getElem?_getD, List.getElem?_eq_getElem hk]
          rfl
        · rcases Nat.eq_zero_or_pos l.length with h0 | h0
          · have : l = [] := List.eq_nil_of_length_eq_zero h0
            subst this; rfl
          · rw [List.getElem?_eq_none (by rw [(main l.length (Nat.le_refl _) 0 h0).2]; omega), List.getElem?_eq_none (by simp; omega)]
      rw [e])⟩
theorem x109a (l : List GMass) (K) : xfn (EV L172 (E109 (.func 110 []) (fun m => m.Mass) l)) Try.f109 [] (encs [.l .mass, .f 110] (l, (), ())) [] K = bif decide (0 ≤ (l.length : Int) ∧ (l.length : Int) * ((8 : Nat) : Int) ≤ 2 ^ 47 ∧ 0 < 8) then
    gate (V109 (.func 110 []) l (List.replicate (l.length : Int).toNat 0) 0 = V109 (.func 110 []) l (List.replicate l.length 0) 0 ∧ B109 (List.replicate (l.length : Int).toNat 0) = B109 (List.replicate l.length 0)) (K (.flt (fsum (l.map fun m => m.Mass))) [] []) else none := by kernel_rfl
theorem x109b (l : List GMass) (K) : xfn (EV L172 (E109 (.func 111 []) (fun m => fmul m.Mass m.Centre.X) l)) Try.f109 [] (encs [.l .mass, .f 111] (l, (), ())) [] K = bif decide (0 ≤ (l.length : Int) ∧ (l.length : Int) * ((8 : Nat) : Int) ≤ 2 ^ 47 ∧ 0 < 8) then
    gate (V109 (.func 111 []) l (List.replicate (l.length : Int).toNat 0) 0 = V109 (.func 111 []) l (List.replicate l.length 0) 0 ∧ B109 (List.replicate (l.length : Int).toNat 0) = B109 (List.replicate l.length 0)) (K (.flt (fsum (l.map fun m => fmul m.Mass m.Centre.X))) [] []) else none := by kernel_rfl
theorem x109c (l : List GMass) (K) : xfn (EV L172 (E109 (.func 112 []) (fun m => fmul m.Mass m.Centre.Y) l)) Try.f109 [] (encs [.l .mass, .f 112] (l, (), ())) [] K = bif decide (0 ≤ (l.length : Int) ∧ (l.length : Int) * ((8 : Nat) : Int) ≤ 2 ^ 47 ∧ 0 < 8) then
    gate (V109 (.func 112 []) l (List.replicate (l.length : Int).toNat 0) 0 = V109 (.func 112 []) l (List.replicate l.length 0) 0 ∧ B109 (List.replicate (l.length : Int).toNat 0) = B109 (List.replicate l.length 0)) (K (.flt (fsum (l.map fun m => fmul m.Mass m.Centre.Y))) [] []) else none := by kernel_rfl
theorem x109d (l : List GMass) (c : GVec) (K) : xfn (EV L172 (E109 (.func 113 [.rptr (encG .vec c) 0]) (fun m => mabout m c) l)) Try.f109 [] (encs [.l .mass, .fp 113 .vec] (l, c, ())) [] K = bif decide (0 ≤ (l.length : Int) ∧ (l.length : Int) * ((8 : Nat) : Int) ≤ 2 ^ 47 ∧ 0 < 8) then
    gate (V109 (.func 113 [.rptr (encG .vec c) 0]) l (List.replicate (l.length : Int).toNat 0) 0 = V109 (.func 113 [.rptr (encG .vec c) 0]) l (List.replicate l.length 0) 0 ∧ B109 (List.replicate (l.length : Int).toNat 0) = B109 (List.replicate l.length 0)) (K (.flt (fsum (l.map fun m => mabout m c))) [] []) else none := by kernel_rfl
theorem none109 : LpsOk (EV L172 []) [] (bodyD Try.f109) := LpsOk.of _ fun _ _ _ _ h => (by cases h)
theorem ok109a : FcOk Try.prog 109 (FC.rn [.l .mass, .f 110] fun (l, _, _) K => gate ((l : List GMass).length ≤ 1048576) (K (.flt (fsum ((l : List GMass).map fun m => m.Mass))) [] [])) := rn_lp L172ok Try.func109 (by kernel_rfl) (by kernel_rfl) (fun _ K o h => ⟨_, _, _, (gate_some h).2⟩) fun (l, _, _) _ => by
  by_cases hl : (l : List GMass).length ≤ 1048576
  · refine ⟨_, lps1 (i := 3) (by kernel_rfl) rfl (lp109 _ _ l hl (step109a _ l)), fun K o h => (x109a l K).trans ?_⟩
    rw [decide_eq_true (by omega), cond_true, gate_pos ⟨rfl, rfl⟩]
    exact (gate_some h).2
  · exact ⟨[], none109, fun K o h => absurd (gate_some h).1 hl⟩
theorem ok109b : FcOk Try.prog 109 (FC.rn [.l .mass, .f 111] fun (l, _, _) K => gate ((l : List GMass).length ≤ 1048576) (K (.flt (fsum ((l : List GMass).map fun m => fmul m.Mass m.Centre.X))) [] [])) := rn_lp L172ok Try.func109 (by kernel_rfl) (by kernel_rfl) (fun _ K o h => ⟨_, _, _, (gate_some h).2⟩) fun (l, _, _) _ => by
  by_cases hl : (l : List GMass).length ≤ 1048576
  · refine ⟨_, lps1 (i := 3) (by kernel_rfl) rfl (lp109 _ _ l hl (step109b _ l)), fun K o h => (x109b l K).trans ?_⟩
    rw [decide_eq_true (by omega), cond_true, gate_pos ⟨rfl, rfl⟩]
    exact (gate_some h).2
  · exact ⟨[], none109, fun K o h => absurd (gate_some h).1 hl⟩
theorem ok109c : FcOk Try.prog 109 (FC.rn [.l .mass, .f 112] fun (l, _, _) K => gate ((l : List GMass).length ≤ 1048576) (K (.flt (fsum ((l : List GMass).map fun m => fmul m.Mass m.Centre.Y))) [] [])) := rn_lp L172ok Try.func109 (by kernel_rfl) (by kernel_rfl) (fun _ K o h => ⟨_, _, _, (gate_some h).2⟩) fun (l, _, _) _ => by
  by_cases hl : (l : List GMass).length ≤ 1048576
  · refine ⟨_, lps1 (i := 3) (by kernel_rfl) rfl (lp109 _ _ l hl (step109c _ l)), fun K o h => (x109c l K).trans ?_⟩
    rw [decide_eq_true (by omega), cond_true, gate_pos ⟨rfl, rfl⟩]
    exact (gate_some h).2
  · exact ⟨[], none109, fun K o h => absurd (gate_some h).1 hl⟩
theorem ok109d : FcOk Try.prog 109 (FC.rn [.l .mass, .fp 113 .vec] fun (l, c, _) K => gate ((l : List GMass).length ≤ 1048576) (K (.flt (fsum ((l : List GMass).map fun m => mabout m c))) [] [])) := rn_lp L172ok Try.func109 (by kernel_rfl) (by kernel_rfl) (fun _ K o h => ⟨_, _, _, (gate_some h).2⟩) fun (l, c, _) _ => by
  by_cases hl : (l : List GMass).length ≤ 1048576
  · refine ⟨_, lps1 (i := 3) (by kernel_rfl) rfl (lp109 _ _ l hl (step109d _ c l)), fun K o h => (x109d l c K).trans ?_⟩
    rw [decide_eq_true (by omega), cond_true, gate_pos ⟨rfl, rfl⟩]
    exact (gate_some h).2
  · exact ⟨[], none109, fun K o h => absurd (gate_some h).1 hl⟩
noncomputable def c109 : FC G := FC.alt (ks := [.l .mass, .f 110]) (fun (l, _, _) K => gate ((l : List GMass).length ≤ 1048576) (K (.flt (fsum ((l : List GMass).map fun m => m.Mass))) [] []))
  (FC.alt (ks := [.l .mass, .f 111]) (fun (l, _, _) K => gate ((l : List GMass).length ≤ 1048576) (K (.flt (fsum ((l : List GMass).map fun m => fmul m.Mass m.Centre.X))) [] []))
  (FC.alt (ks := [.l .mass, .f 112]) (fun (l, _, _) K => gate ((l : List GMass).length ≤ 1048576) (K (.flt (fsum ((l : List GMass).map fun m => fmul m.Mass m.Centre.Y))) [] []))
  (FC.rn [.l .mass, .fp 113 .vec] fun (l, c, _) K => gate ((l : List GMass).length ≤ 1048576) (K (.flt (fsum ((l : List GMass).map fun m => mabout m c))) [] []))))
theorem ok109 : FcOk Try.prog 109 c109 := .alt ok109a (.alt ok109b (.alt ok109c ok109d rfl) rfl) rfl
noncomputable def L109 : Ctr := (109, c109) :: L172
theorem L109ok : AllOk L109 := .cons ok109 L172ok
/-! ### Join -/
def jall (l : List GMass) : Nat := fsum (l.map fun m => m.Mass)
def jx (l : List GMass) : Nat := fsum (l.map fun m => fmul m.Mass m.Centre.X)
def jy (l : List GMass) : Nat := fsum (l.map fun m => fmul m.Mass m.Centre.Y)
def jc (l : List GMass) : GVec := ⟨fdiv (jx l) (jall l), fdiv (jy l) (jall l)⟩
def jturn (l : List GMass) : Nat := fsum (l.map fun m => mabout m (jc l))
def jmass (l : List GMass) : GMass := ⟨jall l, jturn l, jc l⟩
def joinM (l : List GMass) : GMass := bif decide ((l.length : Int) > 16384) then mass0 else bif l.any (fun m => !mok m) then mass0 else bif (l.length : Int) == 0 then mass0 else bif (l.length : Int) == 1 then l.getD 0 mass0 else bif feq (jall l) 0 then mass0 else mchk (jmass l)
def joinE (l : List GMass) : Int := bif decide ((l.length : Int) > 16384) then 4 else bif l.any (fun m => !mok m) then 80 else bif (l.length : Int) == 0 then 0 else bif (l.length : Int) == 1 then 0 else bif feq (jall l) 0 then 0 else merr (jmass l)
def h50 : LH G := ⟨[0, 2, 3, 16, 17, 18], [], [2]⟩
def V50 (l : List GMass) (e i : Int) : List (RV G) := [.rslice .mass l, .ptr 2 0 0 0, .int .i64 e, .rslice .mass l, .int .i64 l.length, .int .i64 i]
def B50 : List (Blk G) := [.cells (encG .mass mass0)]
def OUT50 (l : List GMass) (K : XE → List (RV G) → List (Blk G) → Ans G) : Ans G := bif l.any (fun m => !mok m) then K .ret (V50 l 80 (l.findIdx (fun m => !mok m) : Nat)) B50 else K (.exit 0) (V50 l 0 (l.length : Nat)) B50
noncomputable def E50 (l : List GMass) : List (Nat × LC G) := [(4, lcOf h50 (V50 l 0 0) B50 (OUT50 l))]
theorem step50 (l : List GMass) (n : Nat) (i : Int) (K) : iter (EV L109 (E50 l)) h50 (lpBody Try.f50 0) (n + 1) (V50 l 0 i) B50 K = bif decide (i < (l.length : Int)) then (getI l i).bind fun m =>
    bif merr m != 0 then K .ret (V50 l (merr m) i) B50 else iter (EV L109 (E50 l)) h50 (lpBody Try.f50 0) n (V50 l 0 (IntKind.i64.wrap (i + 1))) B50 K
  else K (.exit 0) (V50 l 0 i) B50 := by kernel_rfl
theorem merr_K {β : Type} (m : GMass) (X : Int → β) (Y : β) : (bif merr m != 0 then X (merr m) else Y) = bif !mok m then X 80 else Y := by
  unfold merr
  cases mok m <;> rfl
theorem lp50 (l : List GMass) (hx : l.length < 9223372036854775808) : LpOk (EV L109 (E50 l)) [] (lpBody Try.f50 0) (lcOf h50 (V50 l 0 0) B50 (OUT50 l)) := lcOf_ok (by kernel_rfl) fun K => ⟨_, find_loop (xs := l) (p := fun m => !mok m) (F := fun n i => iter (EV L109 (E50 l)) h50 (lpBody Try.f50 0) n (V50 l 0 i) B50 K)
  (R := fun i => K .ret (V50 l 80 i) B50) (X := fun i => K (.exit 0) (V50 l 0 i) B50) (fun n i => by
    rw [step50]
    congr 1
    congr 1
    funext m
    exact merr_K m (fun e => K .ret (V50 l e i) B50) _) hx⟩
def jres (m : GMass) (e : Int) : RV G := .tuple [encR .mass m, .int .i64 e]
theorem x50 (l : List GMass) (K) : xfn (EV L109 (E50 l)) Try.f50 [] (encs [.l .mass] (l, ())) [] K = bif decide ((l.length : Int) > 16384) then K (jres mass0 4) [] [] else gate (V50 l 0 0 = V50 l 0 0 ∧ B50 = B50)
    (bif l.any (fun m => !mok m) then K (jres mass0 80) [] [] else bif (l.length : Int) == 0 then K (jres mass0 0) [] [] else bif (l.length : Int) == 1 then (getI l 0).bind fun m => K (jres m 0) [] [] else
      gate (l.length ≤ 1048576) (bif feq (jall l) 0 then K (jres mass0 0) [] [] else gate (l.length ≤ 1048576) (gate (l.length ≤ 1048576) (gate (l.length ≤ 1048576) (K (jres (mchk (jmass l)) (merr (jmass l))) [] []))))) := by kernel_rfl
def c50 : FC G := FC.sp [.l .mass] fun (l, _) => jres (joinM l) (joinE l)
theorem ok50 : FcOk Try.prog 50 c50 := sp_lp L109ok Try.func50 (by kernel_rfl) (by kernel_rfl) fun (l, _) ⟨hx, _⟩ => ⟨E50 l, lps1 (i := 4) (by kernel_rfl) rfl (lp50 l hx), fun K => (x50 l K).trans (by
  show _ = K (jres (joinM l) (joinE l)) [] []
  unfold joinM joinE
  cases h1 : decide (((l : List GMass).length : Int) > 16384) with
  | true => rfl
  | false =>
    have hl : (l : List GMass).length ≤ 1048576 := by simp at h1; omega
    rw [gate_pos ⟨rfl, rfl⟩]
    cases (l : List GMass).any (fun m => !mok m) with
    | true => rfl
    | false =>
      cases h3 : ((l : List GMass).length : Int) == 0 with
      | true => rfl
      | false => cases h4 : ((l : List GMass).length : Int) == 1 with
        | true =>
          cases l with
          | nil => simp at h4
          | cons y r => rfl
        | false =>
          rw [gate_pos hl]
          cases feq (jall l) 0 with
          | true => rfl
          | false => rw [gate_pos hl, gate_pos hl, gate_pos hl]; rfl)⟩
noncomputable def L50 : Ctr := (50, c50) :: L109
theorem L50ok : AllOk L50 := .cons ok50 L109ok
end Go.SX

/- What several masses weigh together, by the reference. No statement of the seat is proved here. -/
namespace Go.SX
open Go.Proofs Ieee
set_option maxRecDepth 20000
/-! ### a difference and its opposite -/
theorem neg_word (b : Bool) (r : Nat) (h : r < 9223372036854775808) : rung (double.word b r) = r ∧ neg? (double.word b r) = b := by
  unfold Format.word Format.signWeight double rung neg?
  cases b
  · simp; omega
  · simp; omega
theorem nearest_word (m : Nat) (p : Int) : ∃ r, r < 9223372036854775808 ∧ ∀ b, double.nearest b m p = double.word b r := by
  by_cases h : m = 0
  · exact ⟨0, by omega, fun b => by unfold Format.nearest; rw [if_pos h]⟩
  · refine ⟨min ((max (p + m.log2 - double.fractionBits) double.leastPlace - double.leastPlace).toNat * double.binade + Toward.even.cut false (m <<< (p - max (p + m.log2 - double.fractionBits) double.leastPlace).toNat) (max (p + m.log2 - double.fractionBits) double.leastPlace - p).toNat) double.infRung, ?_, fun b => ?_⟩
    · have : double.infRung < 9223372036854775808 := by decide
      omega
    · unfold Format.nearest
      rw [if_neg h]
      rfl
/-- The square of a float does not ask its sign. -/
theorem fmul_self_rung {x y : Nat} (h : rung x = rung y) : fmul x x = fmul y y := by
  unfold fmul Format.mul
  have hf : FloatKind.f64.format = double := rfl
  rw [read_eq, read_eq, h]
  by_cases h1 : rung y < 4503599627370496
  · simp only [if_pos h1, Datum.product, Bool.xor_self]
  · by_cases h2 : rung y < 9218868437227405312
    · simp only [if_neg h1, if_pos h2, Datum.product, Bool.xor_self]
    · by_cases h3 : rung y = 9218868437227405312
      · simp only [if_neg h1, if_neg h2, if_pos h3, Datum.product, Bool.xor_self]
      · simp only [if_neg h1, if_neg h2, if_neg h3, Datum.product]
theorem rung_nearest (b c : Bool) (m : Nat) (p : Int) : rung (double.nearest b m p) = rung (double.nearest c m p) := by
  obtain ⟨r, hr, h⟩ := nearest_word m p
  rw [h, h, (neg_word b r hr).1, (neg_word c r hr).1]
theorem signed_not (b : Bool) (m k : Nat) : signed (!b) m k = -signed b m k := by
  unfold signed
  cases b <;> simp
def subD (a b : Datum) : Nat := ((a.sum b.opposite).map double.write).getD qnan
theorem subD_rung (a b : Datum) : rung (subD a b) = rung (subD b a) := by
  unfold subD
  cases a with
  | nan s f => cases b <;> rfl
  | infinity s => cases b with
    | nan t f => rfl
    | infinity t => cases s <;> cases t <;> rfl
    | number t n j =>
      simp only [Datum.opposite, Datum.sum, Option.map_some, Option.getD_some, Format.write]
      rw [(neg_word _ _ (by decide)).1, (neg_word _ _ (by decide)).1]
  | number s m i => cases b with
    | nan t f => rfl
    | infinity t =>
      simp only [Datum.opposite, Datum.sum, Option.map_some, Option.getD_some, Format.write]
      rw [(neg_word _ _ (by decide)).1, (neg_word _ _ (by decide)).1]
    | number t n j =>
      simp only [Datum.opposite, Datum.sum, Option.map_some, Option.getD_some, Format.write]
      have e : signed t n (j - min j i).toNat + signed (!s) m (i - min j i).toNat = -(signed s m (i - min i j).toNat + signed (!t) n (j - min i j).toNat) := by
        rw [signed_not, signed_not, Int.min_comm j i]; omega
      rw [e, Int.natAbs_neg, Int.min_comm j i]
      exact rung_nearest _ _ _ _
theorem fsub_rung (x y : Nat) : rung (fsub x y) = rung (fsub y x) := subD_rung _ _
theorem vsq_sub (a b : GVec) : vsq (vsub a b) = vsq (vsub b a) := by
  unfold vsq vdot vsub
  rw [fmul_self_rung (fsub_rung a.X b.X), fmul_self_rung (fsub_rung a.Y b.Y)]
/-! ### a loop from a place on -/
theorem fold_from {β σ : Type} {a N : Nat} {g : σ → Nat → σ} {F : Nat → Int → σ → Option β} {X : σ → Option β} {s0 : σ} (I : Nat → σ → Prop) (h0 : I a s0) (ha : a ≤ N)
    (hs : ∀ n i s, a ≤ i → i < N → I i s → F (n + 1) (i : Int) s = F n ((i + 1 : Nat) : Int) (g s i)) (hI : ∀ i s, a ≤ i → i < N → I i s → I (i + 1) (g s i)) (hx : ∀ n s, I N s → F (n + 1) (N : Int) s = X s) :
    F (N - a + 1) (a : Int) s0 = X ((List.range' a (N - a)).foldl g s0) := by
  have main : ∀ d i s, i + d = N → a ≤ i → I i s → F (d + 1) (i : Int) s = X ((List.range' i d).foldl g s) := by
    intro d
    induction d with
    | zero =>
      intro i s hi _ h
      have : i = N := by omega
      subst this
      exact hx 0 s h
    | succ d ih =>
      intro i s hi ha h
      rw [hs _ i s ha (by omega) h, List.range'_succ, List.foldl_cons]
      exact ih (i + 1) (g s i) (by omega) (by omega) (hI i s ha (by omega) h)
  exact main (N - a) a s0 (by omega) (Nat.le_refl _) h0
/-! ### Join, by the reference -/
def getM (l : List GMass) (i : Nat) : GMass := l.getD i mass0
theorem getI_M {l : List GMass} {k : Nat} (h : k < l.length) : getI l (k : Int) = some (getM l k) := by
  rw [getI_at h]
  unfold getM
  rw [List.getD_eq_getElem?_getD, List.getElem?_eq_getElem h]
  rfl
def h51a : LH G := ⟨[0, 2, 3, 4], [], [2]⟩
def V51a (l : List GMass) (e i : Int) : List (RV G) := [.rslice .mass l, .ptr 2 0 0 0, .int .i64 e, .int .i64 i]
def OUT51a (l : List GMass) (K : XE → List (RV G) → List (Blk G) → Ans G) : Ans G := bif l.any (fun m => !mok m) then K .ret (V51a l 80 (l.findIdx (fun m => !mok m) : Nat)) B50 else K (.exit 0) (V51a l 0 (l.length : Nat)) B50
theorem step51a (lp : List (Nat × LC G)) (l : List GMass) (n : Nat) (i : Int) (K) : iter (EV L50 lp) h51a (lpBody Try.f51 0) (n + 1) (V51a l 0 i) B50 K = bif decide (i < (l.length : Int)) then (getI l i).bind fun m =>
    bif merr m != 0 then K .ret (V51a l 80 i) B50 else iter (EV L50 lp) h51a (lpBody Try.f51 0) n (V51a l 0 (IntKind.i64.wrap (i + 1))) B50 K
  else K (.exit 0) (V51a l 0 i) B50 := by kernel_rfl
def h51b : LH G := ⟨[0, 2, 3, 5, 6, 7, 8], [], [2, 5]⟩
def V51b (l : List GMass) (x y : Nat) (i : Int) : List (RV G) := [.rslice .mass l, .ptr 2 0 0 0, .int .i64 0, .ptr 5 0 0 0, .flt x, .flt y, .int .i64 i]
def B51 (m : GMass) : List (Blk G) := [.cells (encG .mass mass0), .cells (encG .mass m)]
theorem step51b (lp : List (Nat × LC G)) (l : List GMass) (m : GMass) (x y : Nat) (n : Nat) (i : Int) (K) : iter (EV L50 lp) h51b (lpBody Try.f51 1) (n + 1) (V51b l x y i) (B51 m) K = bif decide (i < (l.length : Int)) then
    (getI l i).bind fun a => (getI l i).bind fun b => (getI l i).bind fun c => (getI l i).bind fun d => (getI l i).bind fun e =>
      iter (EV L50 lp) h51b (lpBody Try.f51 1) n (V51b l (fadd x (fmul b.Mass c.Centre.X)) (fadd y (fmul d.Mass e.Centre.Y)) (IntKind.i64.wrap (i + 1))) (B51 { m with Mass := fadd m.Mass a.Mass }) K
  else K (.exit 2) (V51b l x y i) (B51 m) := by kernel_rfl
def h51c : LH G := ⟨[0, 2, 3, 5, 9], [], [2, 5]⟩
def V51c (l : List GMass) (i : Int) : List (RV G) := [.rslice .mass l, .ptr 2 0 0 0, .int .i64 0, .ptr 5 0 0 0, .int .i64 i]
def one51 (m a b c : GMass) : Nat := fadd a.Inertia (fmul b.Mass (vsq (vsub c.Centre m.Centre)))
theorem step51c (lp : List (Nat × LC G)) (l : List GMass) (m : GMass) (n : Nat) (i : Int) (K) : iter (EV L50 lp) h51c (lpBody Try.f51 2) (n + 1) (V51c l i) (B51 m) K = bif decide (i < (l.length : Int)) then
    (getI l i).bind fun a => (getI l i).bind fun b => (getI l i).bind fun c => bif i == 0 then iter (EV L50 lp) h51c (lpBody Try.f51 2) n (V51c l (IntKind.i64.wrap (i + 1))) (B51 { m with Inertia := one51 m a b c }) K
      else iter (EV L50 lp) h51c (lpBody Try.f51 2) n (V51c l (IntKind.i64.wrap (i + 1))) (B51 { m with Inertia := fadd m.Inertia (one51 m a b c) }) K
  else K (.exit 4) (V51c l i) (B51 m) := by kernel_rfl
def first51 (l : List GMass) : GMass := getM l 0
/-- The reference's mass behind its second loop, and as it stands at the third one's end. -/
def sum51 (l : List GMass) : GMass := { getM l 0 with Mass := jall l }
def end51 (l : List GMass) : GMass := jmass l
noncomputable def E51 (l : List GMass) : List (Nat × LC G) := [(4, lcOf h51a (V51a l 0 0) B50 (OUT51a l)),
  (16, lcOf h51b (V51b l (fmul (getM l 0).Mass (getM l 0).Centre.X) (fmul (getM l 0).Mass (getM l 0).Centre.Y) 1) (B51 (getM l 0)) fun K => K (.exit 2) (V51b l (jx l) (jy l) l.length) (B51 (sum51 l))),
  (25, lcOf h51c (V51c l 0) (B51 { sum51 l with Centre := jc l }) fun K => K (.exit 4) (V51c l l.length) (B51 (jmass l)))]
noncomputable def E51n (l : List GMass) : List (Nat × LC G) := [(4, lcOf h51a (V51a l 0 0) B50 (OUT51a l))]
theorem x51 (l : List GMass) (K) : xfn (EV L50 (E51 l)) Try.f51 [] (encs [.l .mass] (l, ())) [] K = bif decide ((l.length : Int) > 16384) then K (jres mass0 4) [] [] else gate (V51a l 0 0 = V51a l 0 0 ∧ B50 = B50)
    (bif l.any (fun m => !mok m) then K (jres mass0 80) [] [] else bif (l.length : Int) == 0 then K (jres mass0 0) [] [] else (getI l 0).bind fun m => bif (l.length : Int) == 1 then K (jres m 0) [] [] else
      gate (V51b l (fmul m.Mass m.Centre.X) (fmul m.Mass m.Centre.Y) 1 = V51b l (fmul (getM l 0).Mass (getM l 0).Centre.X) (fmul (getM l 0).Mass (getM l 0).Centre.Y) 1 ∧ B51 m = B51 (getM l 0))
        (bif feq (jall l) 0 then K (jres mass0 0) [] [] else gate (V51c l 0 = V51c l 0 ∧ B51 { sum51 l with Centre := jc l } = B51 { sum51 l with Centre := jc l }) (K (jres (mchk (jmass l)) (merr (jmass l))) [] []))) := by kernel_rfl
theorem x51n (l : List GMass) (K) : xfn (EV L50 (E51n l)) Try.f51 [] (encs [.l .mass] (l, ())) [] K = bif decide ((l.length : Int) > 16384) then K (jres mass0 4) [] [] else gate (V51a l 0 0 = V51a l 0 0 ∧ B50 = B50)
    (bif l.any (fun m => !mok m) then K (jres mass0 80) [] [] else bif (l.length : Int) == 0 then K (jres mass0 0) [] [] else (getI l 0).bind fun m => bif (l.length : Int) == 1 then K (jres m 0) [] [] else none) := by kernel_rfl
theorem foldl_alike {β : Type} {f g : β → Nat → β} : ∀ (r : List Nat) (a : β), (∀ a k, k ∈ r → f a k = g a k) → r.foldl f a = r.foldl g a
  | [], _, _ => rfl
  | k :: r, a, h => by
    rw [List.foldl_cons, List.foldl_cons, h a k List.mem_cons_self]
    exact foldl_alike r _ fun a k hk => h a k (List.mem_cons_of_mem _ hk)
theorem fsum_range (l : List GMass) (f : GMass → Nat) (h : l ≠ []) : (List.range' 1 (l.length - 1)).foldl (fun s i => fadd s (f (getM l i))) (f (getM l 0)) = fsum (l.map f) := by
  cases l with
  | nil => exact absurd rfl h
  | cons y r =>
    show _ = (r.map f).foldl fadd (f y)
    rw [List.foldl_map, List.length_cons, Nat.add_sub_cancel, List.range'_eq_map_range, List.foldl_map]
    have := foldl_range (fun s m => fadd s (f m)) mass0 r (f y)
    rw [← this]
    refine foldl_alike _ _ fun a k _ => ?_
    congr 2
    show (y :: r).getD (1 + k) mass0 = r.getD k mass0
    rw [Nat.add_comm 1 k]
    rfl
theorem lp51a (lp : List (Nat × LC G)) (l : List GMass) (hx : l.length < 9223372036854775808) : LpOk (EV L50 lp) [] (lpBody Try.f51 0) (lcOf h51a (V51a l 0 0) B50 (OUT51a l)) := lcOf_ok (by kernel_rfl) fun K => ⟨_, find_loop (xs := l) (p := fun m => !mok m) (F := fun n i => iter (EV L50 lp) h51a (lpBody Try.f51 0) n (V51a l 0 i) B50 K)
  (R := fun i => K .ret (V51a l 80 i) B50) (X := fun i => K (.exit 0) (V51a l 0 i) B50) (fun n i => by
    rw [step51a]
    congr 1
    congr 1
    funext m
    exact merr_K m (fun _ => K .ret (V51a l 80 i) B50) _) hx⟩
theorem lp51b (lp : List (Nat × LC G)) (l : List GMass) (h1 : l ≠ []) (hl : l.length ≤ 16384) : LpOk (EV L50 lp) [] (lpBody Try.f51 1) (lcOf h51b (V51b l (fmul (getM l 0).Mass (getM l 0).Centre.X) (fmul (getM l 0).Mass (getM l 0).Centre.Y) 1) (B51 (getM l 0)) fun K => K (.exit 2) (V51b l (jx l) (jy l) l.length) (B51 (sum51 l))) :=
  lcOf_ok (by kernel_rfl) fun K => ⟨_, (fold_from (a := 1) (N := l.length) (g := fun (t : Nat × Nat × Nat) i => (fadd t.1 (getM l i).Mass, fadd t.2.1 (fmul (getM l i).Mass (getM l i).Centre.X), fadd t.2.2 (fmul (getM l i).Mass (getM l i).Centre.Y)))
    (F := fun n i (t : Nat × Nat × Nat) => iter (EV L50 lp) h51b (lpBody Try.f51 1) n (V51b l t.2.1 t.2.2 i) (B51 { getM l 0 with Mass := t.1 }) K) (X := fun (t : Nat × Nat × Nat) => K (.exit 2) (V51b l t.2.1 t.2.2 l.length) (B51 { getM l 0 with Mass := t.1 })) (s0 := ((getM l 0).Mass, fmul (getM l 0).Mass (getM l 0).Centre.X, fmul (getM l 0).Mass (getM l 0).Centre.Y)) (fun _ _ => True) trivial (List.length_pos_iff.2 h1)
    (fun n i t _ hi _ => by rw [step51b, decide_eq_true (by omega), cond_true, getI_M hi, Option.bind_some, Option.bind_some, Option.bind_some, Option.bind_some, Option.bind_some, wrap_succ (by omega)])
    (fun _ _ _ _ _ => trivial) (fun n t _ => by rw [step51b, decide_eq_false (by omega)]; rfl)).trans (by
      have e : ∀ (r : List Nat) (t : Nat × Nat × Nat), r.foldl (fun (t : Nat × Nat × Nat) i => (fadd t.1 (getM l i).Mass, fadd t.2.1 (fmul (getM l i).Mass (getM l i).Centre.X), fadd t.2.2 (fmul (getM l i).Mass (getM l i).Centre.Y))) t =
          (r.foldl (fun s i => fadd s (getM l i).Mass) t.1, r.foldl (fun s i => fadd s (fmul (getM l i).Mass (getM l i).Centre.X)) t.2.1, r.foldl (fun s i => fadd s (fmul (getM l i).Mass (getM l i).Centre.Y)) t.2.2) := fun r => by
        induction r with
        | nil => intro t; rfl
        | cons i r ih => intro t; rw [List.foldl_cons, ih]; rfl
      rw [e]
      rw [fsum_range l (fun m => m.Mass) h1, fsum_range l (fun m => fmul m.Mass m.Centre.X) h1, fsum_range l (fun m => fmul m.Mass m.Centre.Y) h1]
      rfl)⟩
theorem lp51c (lp : List (Nat × LC G)) (l : List GMass) (h1 : l ≠ []) (hl : l.length ≤ 16384) : LpOk (EV L50 lp) [] (lpBody Try.f51 2) (lcOf h51c (V51c l 0) (B51 { sum51 l with Centre := jc l }) fun K => K (.exit 4) (V51c l l.length) (B51 (jmass l))) :=
  lcOf_ok (by kernel_rfl) fun K => ⟨_, (fold_loop (N := l.length) (g := fun (s : Nat) (i : Nat) => bif ((i : Nat) : Int) == 0 then mabout (getM l i) (jc l) else fadd s (mabout (getM l i) (jc l)))
    (F := fun n i (t : Nat) => iter (EV L50 lp) h51c (lpBody Try.f51 2) n (V51c l i) (B51 ⟨jall l, t, jc l⟩) K) (X := fun (t : Nat) => K (.exit 4) (V51c l l.length) (B51 ⟨jall l, t, jc l⟩)) (s0 := (getM l 0).Inertia) (fun _ _ => True) trivial
    (fun n i t hi _ => by
      have ho : ∀ a t, one51 ⟨jall l, t, jc l⟩ a a a = mabout a (jc l) := fun a t => by
        unfold one51 mabout
        rw [vsq_sub]
      rw [step51c, decide_eq_true (by omega), cond_true, getI_M hi, Option.bind_some, Option.bind_some, Option.bind_some, wrap_succ (by omega), ho]
      cases (i : Int) == 0 <;> rfl)
    (fun _ _ _ _ => trivial) (fun n t _ => by rw [step51c, decide_eq_false (by omega)]; rfl)).trans (by
      have hp : 0 < l.length := List.length_pos_iff.2 h1
      have e : (List.range l.length).foldl (fun (s : Nat) (i : Nat) => bif ((i : Nat) : Int) == 0 then mabout (getM l i) (jc l) else fadd s (mabout (getM l i) (jc l))) (getM l 0).Inertia = jturn l := by
        rw [List.range_eq_range', show l.length = (l.length - 1) + 1 by omega, List.range'_succ, List.foldl_cons]
        unfold jturn
        rw [← fsum_range l (fun m => mabout m (jc l)) h1]
        refine foldl_alike _ _ fun a k hk => ?_
        rw [List.mem_range'_1] at hk
        have : ((k : Int) == 0) = false := by simp; omega
        rw [this]
        rfl
      rw [e]
      rfl)⟩
theorem lps51 {E : Env G} (h0 : ∀ lc, E.lp 4 = some lc → LpOk E [] (lpBody Try.f51 0) lc) (h1 : ∀ lc, E.lp 16 = some lc → LpOk E [] (lpBody Try.f51 1) lc) (h2 : ∀ lc, E.lp 25 = some lc → LpOk E [] (lpBody Try.f51 2) lc) : LpsOk E [] (bodyD Try.f51) := LpsOk.of _ fun i b lc hb hi => by
  have hl : loops (bodyD Try.f51) = [(some 4, lpBody Try.f51 0), (some 16, lpBody Try.f51 1), (some 25, lpBody Try.f51 2)] := by kernel_rfl
  rw [hl] at hb
  simp only [List.mem_cons, Prod.mk.injEq, Option.some.injEq, List.not_mem_nil, or_false] at hb
  rcases hb with ⟨rfl, rfl⟩ | ⟨rfl, rfl⟩ | ⟨rfl, rfl⟩
  · exact h0 _ hi
  · exact h1 _ hi
  · exact h2 _ hi
def c51 : FC G := FC.sp [.l .mass] fun (l, _) => jres (joinM l) (joinE l)
theorem ok51 : FcOk Try.prog 51 c51 := sp_lp L50ok Try.func51 (by kernel_rfl) (by kernel_rfl) fun (l, _) ⟨hx, _⟩ => by
  have hx : (l : List GMass).length < 9223372036854775808 := hx
  show ∃ lp, LpsOk (EV L50 lp) [] (bodyD Try.f51) ∧ ∀ K, xfn (EV L50 lp) Try.f51 [] (encs [.l .mass] (l, ())) [] K = K (jres (joinM l) (joinE l)) [] []
  unfold joinM joinE
  cases h2 : decide (((l : List GMass).length : Int) > 16384) || (((l : List GMass).length : Int) == 0) with
  | true =>
    refine ⟨E51n l, lps51 (fun lc h => by cases h; exact lp51a _ l hx) (fun lc h => (by cases h)) (fun lc h => (by cases h)), fun K => (x51n l K).trans ?_⟩
    cases h1 : decide (((l : List GMass).length : Int) > 16384) with
    | true => rfl
    | false =>
      rw [h1, Bool.false_or] at h2
      rw [gate_pos ⟨rfl, rfl⟩, h2]
      cases (l : List GMass).any (fun m => !mok m) <;> rfl
  | false =>
    simp only [Bool.or_eq_false_iff, decide_eq_false_iff_not] at h2
    obtain ⟨h2, h3⟩ := h2
    have hne : (l : List GMass) ≠ [] := fun e => by rw [e] at h3; cases h3
    have hg : getI (l : List GMass) 0 = some (getM l 0) := getI_M (k := 0) (List.length_pos_iff.2 hne)
    have hd : (l : List GMass).getD 0 mass0 = getM l 0 := rfl
    refine ⟨E51 l, lps51 (fun lc h => by cases h; exact lp51a _ l hx) (fun lc h => by cases h; exact lp51b _ l hne (by omega)) (fun lc h => by cases h; exact lp51c _ l hne (by omega)), fun K => (x51 l K).trans ?_⟩
    rw [decide_eq_false h2, cond_false, gate_pos ⟨rfl, rfl⟩, h3, cond_false, hg, Option.bind_some, hd]
    cases (l : List GMass).any (fun m => !mok m) with
    | true => rfl
    | false =>
      cases ((l : List GMass).length : Int) == 1 with
      | true => rfl
      | false =>
        rw [gate_pos ⟨rfl, rfl⟩]
        cases feq (jall l) 0 with
        | true => rfl
        | false => rw [gate_pos ⟨rfl, rfl⟩]; rfl
noncomputable def L51 : Ctr := (51, c51) :: L50
theorem L51ok : AllOk L51 := .cons ok51 L50ok
end Go.SX

/- Polygons, by the program: their points, sides, whether they may be. No statement of the seat is proved here. -/
namespace Go.SX
open Go.Proofs
set_option maxRecDepth 20000
def vec0 : GVec := ⟨0, 0⟩
def getV (l : List GVec) (i : Nat) : GVec := l.getD i vec0
theorem getI_V {l : List GVec} {k : Nat} (h : k < l.length) : getI l (k : Int) = some (getV l k) := by
  rw [getI_at h]
  unfold getV
  rw [List.getD_eq_getElem?_getD, List.getElem?_eq_getElem h]
  rfl
theorem tmod_at {i n : Nat} : ((i : Nat) : Int).tmod (n : Int) = ((i % n : Nat) : Int) := by rw [Int.ofNat_tmod]
/-! ### places -/
def preal (l : List GVec) : Int := bif decide ((l.length : Int) > 64) then 4 else bif l.any (fun p => !vwithin p 4787326403894837248) then 5 else 0
def h125 : LH G := ⟨[2, 8, 9, 10], [], []⟩
def V125 (l : List GVec) (e i : Int) : List (RV G) := [.int .i64 e, .rslice .vec l, .int .i64 l.length, .int .i64 i]
def OUT125 (l : List GVec) (K : XE → List (RV G) → List (Blk G) → Ans G) : Ans G := bif l.any (fun p => !vwithin p 4787326403894837248) then K .ret (V125 l 5 (l.findIdx (fun p => !vwithin p 4787326403894837248) : Nat)) [] else K (.exit 0) (V125 l 0 (l.length : Nat)) []
noncomputable def E125 (l : List GVec) : List (Nat × LC G) := [(4, lcOf h125 (V125 l 0 0) [] (OUT125 l))]
theorem step125 (lp : List (Nat × LC G)) (l : List GVec) (n : Nat) (i : Int) (K) : iter (EV L51 lp) h125 (lpBody Try.f125 0) (n + 1) (V125 l 0 i) [] K = bif decide (i < (l.length : Int)) then (getI l i).bind fun p =>
    bif !vwithin p 4787326403894837248 then K .ret (V125 l 5 i) [] else iter (EV L51 lp) h125 (lpBody Try.f125 0) n (V125 l 0 (IntKind.i64.wrap (i + 1))) [] K
  else K (.exit 0) (V125 l 0 i) [] := by kernel_rfl
theorem x125 (l : List GVec) (K) : xfn (EV L51 (E125 l)) Try.f125 [] (encs [.l .vec] (l, ())) [] K = bif decide ((l.length : Int) > 64) then K (.int .i64 4) [] [] else gate (V125 l 0 0 = V125 l 0 0 ∧ ([] : List (Blk G)) = [])
    (bif l.any (fun p => !vwithin p 4787326403894837248) then K (.int .i64 5) [] [] else K (.int .i64 0) [] []) := by kernel_rfl
def c125 : FC G := FC.sp [.l .vec] fun (l, _) => .int .i64 (preal l)
theorem ok125 : FcOk Try.prog 125 c125 := sp_lp L51ok Try.func125 (by kernel_rfl) (by kernel_rfl) fun (l, _) ⟨hx, _⟩ => ⟨E125 l, lps1 (i := 4) (by kernel_rfl) rfl (lcOf_ok (by kernel_rfl) fun K => ⟨_, find_loop (xs := l) (p := fun p => !vwithin p 4787326403894837248) (F := fun n i => iter (EV L51 (E125 l)) h125 (lpBody Try.f125 0) n (V125 l 0 i) [] K)
    (R := fun i => K .ret (V125 l 5 i) []) (X := fun i => K (.exit 0) (V125 l 0 i) []) (fun n i => step125 _ l n i K) hx⟩), fun K => (x125 l K).trans (by
  show _ = K (.int .i64 (preal l)) [] []
  unfold preal
  rw [gate_pos ⟨rfl, rfl⟩]
  cases decide (((l : List GVec).length : Int) > 64) with
  | true => rfl
  | false => cases (l : List GVec).any (fun p => !vwithin p 4787326403894837248) <;> rfl)⟩
noncomputable def L125 : Ctr := (125, c125) :: L51
theorem L125ok : AllOk L125 := .cons ok125 L51ok
/-! ### sides -/
def vside (l : List GVec) (i : Nat) : GVec := vsub (getV l ((i + 1) % l.length)) (getV l i)
structure In126 (l : List GVec) (i : Int) : Prop where
  i0 : 0 ≤ i
  i1 : i < (l.length : Int)
  few : l.length ≤ 64
theorem x126 (l : List GVec) (i : Int) (K) : xfn (EV L125 []) Try.f126 [] (encs [.l .vec, .s .i64] (l, i, ())) [] K = bif (l.length : Int) == 0 then none else (getI l ((IntKind.i64.wrap (i + 1)).tmod l.length)).bind fun p => (getI l i).bind fun q =>
    K (encR .vec (vsub p q)) [] [] := by kernel_rfl
noncomputable def c126 : FC G := FC.rn [.l .vec, .s .i64] fun (l, i, _) K => gate (In126 l i) (K (encR .vec (vside l (i : Int).toNat)) [] [])
theorem side_at {l : List GVec} {i : Nat} (h : i < l.length) (hl : l.length ≤ 64) : getI l ((IntKind.i64.wrap ((i : Int) + 1)).tmod l.length) = some (getV l ((i + 1) % l.length)) := by
  rw [wrap_succ (by omega), tmod_at, getI_V (Nat.mod_lt _ (by omega))]
theorem ok126 : FcOk Try.prog 126 c126 := rn_ok L125ok Try.func126 (by kernel_rfl) [] (.none (by kernel_rfl)) (by kernel_rfl) fun (l, i, _) K o h => by
  obtain ⟨⟨h0, h1, h2⟩, h3⟩ := gate_some h
  obtain ⟨k, rfl⟩ := Int.eq_ofNat_of_zero_le h0
  have h1 : k < (l : List GVec).length := by omega
  have e : (((l : List GVec).length : Int) == 0) = false := beq_eq_false_iff_ne.2 (by omega)
  refine (x126 l (k : Int) K).trans ?_
  rw [e, cond_false, side_at h1 h2, Option.bind_some, getI_V h1, Option.bind_some]
  exact h3
noncomputable def L126 : Ctr := (126, c126) :: L125
theorem L126ok : AllOk L126 := .cons ok126 L125ok
/-! ### may a polygon be? -/
def pbad2 (l : List GVec) (i k : Nat) : Bool := fle (vcross (vside l i) (vsub (getV l ((i + k) % l.length)) (getV l i))) 0
def pbadk (l : List GVec) (i : Nat) : Bool := (List.range' 2 (l.length - 2)).any (pbad2 l i)
def pbad (l : List GVec) (i : Nat) : Bool := flt (vlen (vside l i)) 4472074429978902528 || pbadk l i
def perr (l : List GVec) : Int := bif preal l != 0 then preal l else bif decide ((l.length : Int) < 3) then 60 else bif (List.range l.length).any (pbad l) then 60 else 0
def h59o : LH G := ⟨[0, 2, 16, 17, 18], [], []⟩
def h59i : LH G := ⟨[0, 2, 4, 5, 6, 7, 16, 17, 18], [], [5, 6]⟩
def V59 (l : List GVec) (e i : Int) : List (RV G) := [.rslice .vec l, .int .i64 e, .rslice .vec l, .int .i64 l.length, .int .i64 i]
def W59 (l : List GVec) (e i k : Int) : List (RV G) := [.rslice .vec l, .int .i64 e, .int .i64 i, .ptr 5 0 0 0, .ptr 6 0 0 0, .int .i64 k, .rslice .vec l, .int .i64 l.length, .int .i64 i]
def C59 (l : List GVec) (i : Nat) : List (Blk G) := [.cells (encG .vec (getV l i)), .cells (encG .vec (vside l i))]
noncomputable def in59 (l : List GVec) : LC G := ⟨h59i, fun vs bs K => match vs with
  | [_, _, .int .i64 i, _, _, _, _, _, _] => gate (0 ≤ i ∧ i < (l.length : Int) ∧ vs = W59 l 0 i 2 ∧ bs = C59 l i.toNat)
      (bif pbadk l i.toNat then K .ret (W59 l 60 i ((2 + (List.range' 2 (l.length - 2)).findIdx (pbad2 l i.toNat) : Nat))) (C59 l i.toNat) else K (.exit 2) (W59 l 0 i l.length) (C59 l i.toNat))
  | _ => none⟩
noncomputable def E59 (l : List GVec) : List (Nat × LC G) := [(7, lcOf h59o (V59 l 0 0) [] fun K => bif (List.range l.length).any (pbad l) then K .ret (V59 l 60 ((List.range l.length).findIdx (pbad l) : Nat)) [] else K (.exit 0) (V59 l 0 l.length) []), (13, in59 l)]
theorem step59i (lp : List (Nat × LC G)) (l : List GVec) (p w : GVec) (e i : Int) (n : Nat) (k : Int) (K) : iter (EV L126 lp) h59i (lpBody Try.f59 1) (n + 1) (W59 l 0 i k) [.cells (encG .vec p), .cells (encG .vec w)] K = bif decide (k < (l.length : Int)) then
    bif (l.length : Int) == 0 then none else (getI l ((IntKind.i64.wrap (i + k)).tmod l.length)).bind fun q => bif fle (vcross w (vsub q p)) 0 then K .ret (W59 l 60 i k) [.cells (encG .vec p), .cells (encG .vec w)]
      else iter (EV L126 lp) h59i (lpBody Try.f59 1) n (W59 l 0 i (IntKind.i64.wrap (k + 1))) [.cells (encG .vec p), .cells (encG .vec w)] K
  else K (.exit 2) (W59 l 0 i k) [.cells (encG .vec p), .cells (encG .vec w)] := by kernel_rfl
theorem step59o (l : List GVec) (n : Nat) (i : Int) (K) : iter (EV L126 (E59 l)) h59o (lpBody Try.f59 0) (n + 1) (V59 l 0 i) [] K = bif decide (i < (l.length : Int)) then (getI l i).bind fun p => gate (In126 l i)
    (bif flt (vlen (vside l i.toNat)) 4472074429978902528 then K .ret (V59 l 60 i) [] else gate (0 ≤ i ∧ i < (l.length : Int) ∧ W59 l 0 i 2 = W59 l 0 i 2 ∧ [.cells (encG .vec p), .cells (encG .vec (vside l i.toNat))] = C59 l i.toNat)
      (bif pbadk l i.toNat then K .ret (V59 l 60 i) [] else iter (EV L126 (E59 l)) h59o (lpBody Try.f59 0) n (V59 l 0 (IntKind.i64.wrap (i + 1))) [] K))
  else K (.exit 0) (V59 l 0 i) [] := by kernel_rfl
theorem x59 (l : List GVec) (K) : xfn (EV L126 (E59 l)) Try.f59 [] (encs [.l .vec] (l, ())) [] K = bif preal l != 0 then K (.int .i64 (preal l)) [] [] else bif decide ((l.length : Int) < 3) then K (.int .i64 60) [] [] else gate (V59 l 0 0 = V59 l 0 0 ∧ ([] : List (Blk G)) = [])
    (bif (List.range l.length).any (pbad l) then K (.int .i64 60) [] [] else K (.int .i64 0) [] []) := by kernel_rfl
theorem x59n (l : List GVec) (K) : xfn (EV L126 []) Try.f59 [] (encs [.l .vec] (l, ())) [] K = bif preal l != 0 then K (.int .i64 (preal l)) [] [] else bif decide ((l.length : Int) < 3) then K (.int .i64 60) [] [] else none := by kernel_rfl
/-- A search from a place on. -/
theorem idx_from {β : Type} {a N : Nat} {p : Nat → Bool} {F : Nat → Int → Option β} {R X : Int → Option β} (ha : a ≤ N)
    (hs : ∀ n (i : Nat), a ≤ i → i < N → F (n + 1) (i : Int) = bif p i then R i else F n ((i + 1 : Nat) : Int)) (hx : ∀ n, F (n + 1) (N : Int) = X (N : Nat)) :
    F (N - a + 1) (a : Int) = bif (List.range' a (N - a)).any p then R ((a + (List.range' a (N - a)).findIdx p : Nat) : Int) else X (N : Nat) := by
  have main : ∀ d i : Nat, i + d = N → a ≤ i → F (d + 1) (i : Int) = bif (List.range' i d).any p then R ((i + (List.range' i d).findIdx p : Nat) : Int) else X (N : Nat) := by
    intro d
    induction d with
    | zero =>
      intro i hi _
      have : i = N := by omega
      subst this
      exact hx 0
    | succ d ih =>
      intro i hi ha
      rw [hs _ i ha (by omega), List.range'_succ, List.any_cons, List.findIdx_cons]
      cases h : p i with
      | true => rfl
      | false =>
        rw [cond_false, ih (i + 1) (by omega) (by omega), Bool.false_or]
        congr 2
        simp only [cond_false]
        omega
  exact main (N - a) a (by omega) (Nat.le_refl _)
theorem lp59i (l : List GVec) (lp : List (Nat × LC G)) (h3 : 3 ≤ l.length) (hl : l.length ≤ 64) : LpOk (EV L126 lp) [] (lpBody Try.f59 1) (in59 l) := lpOk_of (by kernel_rfl) fun vs bs K o h => by
  simp only [in59] at h
  split at h
  · rename_i i x1 x2 x3 x4 x5 x6 x7 x8
    obtain ⟨⟨h0, h1, hv, rfl⟩, g⟩ := gate_some h
    obtain ⟨i, rfl⟩ := Int.eq_ofNat_of_zero_le h0
    rw [hv]
    have hi : i < l.length := by omega
    rw [Int.toNat_natCast] at g ⊢
    exact ⟨_, (idx_from (a := 2) (N := l.length) (p := pbad2 l i) (F := fun n k => iter (EV L126 lp) h59i (lpBody Try.f59 1) n (W59 l 0 i k) (C59 l i) K) (R := fun k => K .ret (W59 l 60 i k) (C59 l i)) (X := fun k => K (.exit 2) (W59 l 0 i k) (C59 l i)) (by omega)
      (fun n k _ hk => by
        have e : ((l.length : Int) == 0) = false := beq_eq_false_iff_ne.2 (by omega)
        have hw : IntKind.i64.wrap ((i : Int) + (k : Int)) = ((i + k : Nat) : Int) := by rw [IntKind.wrap_i64]; omega
        show iter (EV L126 lp) h59i (lpBody Try.f59 1) (n + 1) (W59 l 0 i k) [.cells (encG .vec (getV l i)), .cells (encG .vec (vside l i))] K = _
        rw [step59i lp l _ _ 0, decide_eq_true (by omega), cond_true, e, cond_false, hw, tmod_at, getI_V (Nat.mod_lt _ (by omega)), Option.bind_some, wrap_succ (by omega)]
        rfl)
      (fun n => by
        show iter (EV L126 lp) h59i (lpBody Try.f59 1) (n + 1) (W59 l 0 i l.length) [.cells (encG .vec (getV l i)), .cells (encG .vec (vside l i))] K = _
        rw [step59i lp l _ _ 0, decide_eq_false (by omega)]; rfl)).trans g⟩
  · cases h
theorem lp59o (l : List GVec) (hl : l.length ≤ 64) : LpOk (EV L126 (E59 l)) [] (lpBody Try.f59 0) (lcOf h59o (V59 l 0 0) [] fun K => bif (List.range l.length).any (pbad l) then K .ret (V59 l 60 ((List.range l.length).findIdx (pbad l) : Nat)) [] else K (.exit 0) (V59 l 0 l.length) []) :=
  lcOf_ok (by kernel_rfl) fun K => ⟨_, idx_loop (N := l.length) (p := pbad l) (F := fun n i => iter (EV L126 (E59 l)) h59o (lpBody Try.f59 0) n (V59 l 0 i) [] K) (R := fun i => K .ret (V59 l 60 i) []) (X := fun i => K (.exit 0) (V59 l 0 i) [])
    (fun n i hi => by
      rw [step59o, decide_eq_true (by omega), cond_true, getI_V hi, Option.bind_some, gate_pos ⟨by omega, by omega, hl⟩, Int.toNat_natCast, gate_pos ⟨by omega, by omega, rfl, rfl⟩, wrap_succ (by omega)]
      unfold pbad
      cases flt (vlen (vside l i)) 4472074429978902528 <;> rfl)
    (fun n => by rw [step59o, decide_eq_false (by omega)]; rfl)⟩
theorem preal_few {l : List GVec} (h : (preal l != 0) = false) : l.length ≤ 64 := by
  unfold preal at h
  cases h1 : decide ((l.length : Int) > 64) with
  | true => rw [h1] at h; simp at h
  | false => simp at h1; omega
def c59 : FC G := FC.sp [.l .vec] fun (l, _) => .int .i64 (perr l)
theorem ok59 : FcOk Try.prog 59 c59 := sp_lp L126ok Try.func59 (by kernel_rfl) (by kernel_rfl) fun (l, _) _ => by
  show ∃ lp, LpsOk (EV L126 lp) [] (bodyD Try.f59) ∧ ∀ K, xfn (EV L126 lp) Try.f59 [] (encs [.l .vec] (l, ())) [] K = K (.int .i64 (perr l)) [] []
  unfold perr
  cases h1 : (preal (l : List GVec) != 0) with
  | true => exact ⟨[], LpsOk.of _ fun _ _ _ _ h => (by cases h), fun K => (x59n l K).trans (by rw [h1]; rfl)⟩
  | false =>
    cases h2 : decide (((l : List GVec).length : Int) < 3) with
    | true => exact ⟨[], LpsOk.of _ fun _ _ _ _ h => (by cases h), fun K => (x59n l K).trans (by rw [h1, h2]; rfl)⟩
    | false =>
      have hl := preal_few h1
      rw [decide_eq_false_iff_not] at h2
      refine ⟨E59 l, lps2 (i := 7) (j := 13) (by kernel_rfl) rfl (lp59o l hl) rfl (lp59i l _ (by omega) hl), fun K => (x59 l K).trans ?_⟩
      rw [h1, decide_eq_false h2, cond_false, cond_false, gate_pos ⟨rfl, rfl⟩]
      cases (List.range (l : List GVec).length).any (pbad l) <;> rfl
noncomputable def L59 : Ctr := (59, c59) :: L126
theorem L59ok : AllOk L59 := .cons ok59 L126ok
theorem perr_ok {l : List GVec} (h : (perr l != 0) = false) : 3 ≤ l.length ∧ l.length ≤ 64 := by
  unfold perr at h
  cases h1 : preal l != 0 with
  | true => rw [h1, cond_true, h1] at h; cases h
  | false =>
    rw [h1, cond_false] at h
    have := preal_few h1
    cases h2 : decide ((l.length : Int) < 3) with
    | true => rw [h2] at h; simp at h
    | false => simp at h2; omega
end Go.SX

/- Polygons, by the program: what they weigh. No statement of the seat is proved here. -/
namespace Go.SX
open Go.Proofs
set_option maxRecDepth 20000
/-! ### twice the area, the sums for the middle -/
def wc (l : List GVec) (i : Nat) : Nat := vcross (vsub (getV l i) (getV l 0)) (vsub (getV l (i + 1)) (getV l 0))
def wp (l : List GVec) (i : Nat) : GVec := vscale (vadd (vsub (getV l i) (getV l 0)) (vsub (getV l (i + 1)) (getV l 0))) (wc l i)
def w1 (l : List GVec) (t : Nat × GVec) (i : Nat) : Nat × GVec := bif ((i : Nat) : Int) == 1 then (wc l i, wp l i) else (fadd t.1 (wc l i), vadd t.2 (wp l i))
def wall (l : List GVec) : Nat × GVec := (List.range' 1 (l.length - 1 - 1)).foldl (w1 l) (0, vec0)
def h130 : LH G := ⟨[0, 2, 3, 4], [], [3]⟩
def V130 (l : List GVec) (s : Nat) (i : Int) : List (RV G) := [.rslice .vec l, .flt s, .ptr 3 0 0 0, .int .i64 i]
def B130 (m : GVec) : List (Blk G) := [.cells (encG .vec m)]
noncomputable def E130 (l : List GVec) : List (Nat × LC G) := [(2, lcOf h130 (V130 l 0 1) (B130 vec0) fun K => K (.exit 0) (V130 l (wall l).1 (l.length - 1 : Nat)) (B130 (wall l).2))]
theorem step130 (lp : List (Nat × LC G)) (l : List GVec) (s : Nat) (m : GVec) (n : Nat) (i : Int) (K) : iter (EV L59 lp) h130 (lpBody Try.f130 0) (n + 1) (V130 l s i) (B130 m) K = bif decide (i < IntKind.i64.wrap ((l.length : Int) - 1)) then
    (getI l i).bind fun a => (getI l 0).bind fun o => (getI l (IntKind.i64.wrap (i + 1))).bind fun b => (getI l 0).bind fun o2 =>
      bif i == 1 then iter (EV L59 lp) h130 (lpBody Try.f130 0) n (V130 l (vcross (vsub a o) (vsub b o2)) (IntKind.i64.wrap (i + 1))) (B130 (vscale (vadd (vsub a o) (vsub b o2)) (vcross (vsub a o) (vsub b o2)))) K
      else iter (EV L59 lp) h130 (lpBody Try.f130 0) n (V130 l (fadd s (vcross (vsub a o) (vsub b o2))) (IntKind.i64.wrap (i + 1))) (B130 (vadd m (vscale (vadd (vsub a o) (vsub b o2)) (vcross (vsub a o) (vsub b o2))))) K
  else K (.exit 0) (V130 l s i) (B130 m) := by kernel_rfl
theorem x130 (l : List GVec) (K) : xfn (EV L59 (E130 l)) Try.f130 [] (encs [.l .vec] (l, ())) [] K = gate (V130 l 0 1 = V130 l 0 1 ∧ B130 vec0 = B130 vec0) (K (.tuple [.flt (wall l).1, encR .vec (wall l).2]) [] []) := by kernel_rfl
noncomputable def c130 : FC G := FC.rn [.l .vec] fun (l, _) K => gate (3 ≤ (l : List GVec).length ∧ (l : List GVec).length ≤ 64) (K (.tuple [.flt (wall l).1, encR .vec (wall l).2]) [] [])
theorem ok130 : FcOk Try.prog 130 c130 := rn_lp L59ok Try.func130 (by kernel_rfl) (by kernel_rfl) (fun _ K o h => ⟨_, _, _, (gate_some h).2⟩) fun (l, _) _ => by
  by_cases hl : 3 ≤ (l : List GVec).length ∧ (l : List GVec).length ≤ 64
  · obtain ⟨h3, hmx⟩ := hl
    have hw : IntKind.i64.wrap (((l : List GVec).length : Int) - 1) = (((l : List GVec).length - 1 : Nat) : Int) := by rw [IntKind.wrap_i64]; omega
    have h0 : getI (l : List GVec) 0 = some (getV l 0) := getI_V (k := 0) (by omega)
    refine ⟨E130 l, lps1 (i := 2) (by kernel_rfl) rfl (lcOf_ok (by kernel_rfl) fun K => ⟨_, (fold_from (a := 1) (N := (l : List GVec).length - 1) (g := w1 l) (F := fun n i (t : Nat × GVec) => iter (EV L59 (E130 l)) h130 (lpBody Try.f130 0) n (V130 l t.1 i) (B130 t.2) K)
        (X := fun (t : Nat × GVec) => K (.exit 0) (V130 l t.1 ((l : List GVec).length - 1 : Nat)) (B130 t.2)) (s0 := (0, vec0)) (fun _ _ => True) trivial (by omega)
        (fun n i t _ hi _ => by
          rw [step130, hw, decide_eq_true (by omega), cond_true, getI_V (by omega), Option.bind_some, h0, Option.bind_some, wrap_succ (by omega), getI_V (by omega), Option.bind_some, Option.bind_some]
          unfold w1
          cases ((i : Nat) : Int) == 1 <;> rfl)
        (fun _ _ _ _ _ => trivial) (fun n t _ => by rw [step130, hw, decide_eq_false (by omega)]; rfl))⟩), fun K o h => (x130 l K).trans ?_⟩
    rw [gate_pos ⟨rfl, rfl⟩]
    exact (gate_some h).2
  · exact ⟨[], LpsOk.of _ fun _ _ _ _ h => (by cases h), fun K o h => absurd (gate_some h).1 hl⟩
noncomputable def L130 : Ctr := (130, c130) :: L59
theorem L130ok : AllOk L130 := .cons ok130 L59ok
/-! ### area, middle -/
def pflat (l : List GVec) : Bool := !flt 0 (wall l).1
def areaE (l : List GVec) : Int := bif perr l != 0 then perr l else bif pflat l then 61 else 0
def areaM (l : List GVec) : Nat := bif areaE l != 0 then 0 else fmul (wall l).1 4602678819172646912
def midOf (l : List GVec) : GVec := vadd (getV l 0) ⟨fdiv (wall l).2.X (fmul 4613937818241073152 (wall l).1), fdiv (wall l).2.Y (fmul 4613937818241073152 (wall l).1)⟩
def midM (l : List GVec) : GVec := bif areaE l != 0 then vec0 else midOf l
theorem x60 (l : List GVec) (K) : xfn (EV L130 []) Try.f60 [] (encs [.l .vec] (l, ())) [] K = bif perr l != 0 then K (.tuple [.flt 0, .int .i64 (perr l)]) [] [] else gate (3 ≤ l.length ∧ l.length ≤ 64) (bif pflat l then K (.tuple [.flt 0, .int .i64 61]) [] [] else
    K (.tuple [.flt (fmul (wall l).1 4602678819172646912), .int .i64 0]) [] []) := by kernel_rfl
def c60 : FC G := FC.sp [.l .vec] fun (l, _) => .tuple [.flt (areaM l), .int .i64 (areaE l)]
theorem ok60 : FcOk Try.prog 60 c60 := sp0 L130ok Try.func60 (by kernel_rfl) (by kernel_rfl) (by kernel_rfl) fun (l, _) K => (x60 l K).trans (by
  show _ = K (.tuple [.flt (areaM l), .int .i64 (areaE l)]) [] []
  unfold areaM areaE
  cases h1 : perr (l : List GVec) != 0 with
  | true => simp only [cond_true, h1]
  | false =>
    rw [gate_pos (perr_ok h1)]
    cases pflat l <;> rfl)
noncomputable def L60 : Ctr := (60, c60) :: L130
theorem L60ok : AllOk L60 := .cons ok60 L130ok
theorem x178 (l : List GVec) (K) : xfn (EV L60 []) Try.f178 [] (encs [.l .vec] (l, ())) [] K = bif perr l != 0 then K (.tuple [encR .vec vec0, .int .i64 (perr l)]) [] [] else gate (3 ≤ l.length ∧ l.length ≤ 64) (bif pflat l then K (.tuple [encR .vec vec0, .int .i64 61]) [] [] else
    (getI l 0).bind fun p => K (.tuple [encR .vec (vadd p ⟨fdiv (wall l).2.X (fmul 4613937818241073152 (wall l).1), fdiv (wall l).2.Y (fmul 4613937818241073152 (wall l).1)⟩), .int .i64 0]) [] []) := by kernel_rfl
def c178 : FC G := FC.sp [.l .vec] fun (l, _) => .tuple [encR .vec (midM l), .int .i64 (areaE l)]
theorem ok178 : FcOk Try.prog 178 c178 := sp0 L60ok Try.func178 (by kernel_rfl) (by kernel_rfl) (by kernel_rfl) fun (l, _) K => (x178 l K).trans (by
  show _ = K (.tuple [encR .vec (midM l), .int .i64 (areaE l)]) [] []
  unfold midM areaE
  cases h1 : perr (l : List GVec) != 0 with
  | true => simp only [cond_true, h1]
  | false =>
    have h3 := perr_ok h1
    have h0 : getI (l : List GVec) 0 = some (getV l 0) := getI_V (k := 0) (by omega)
    rw [gate_pos h3, h0]
    cases pflat l <;> rfl)
noncomputable def L178 : Ctr := (178, c178) :: L60
theorem L178ok : AllOk L178 := .cons ok178 L60ok
/-! ### the kinds of shapes -/
def fdisc (r d : Nat) : Nat := fmul d (fmul 4614256656552045848 (fmul r r))
def c176 : FC G := FC.sp [.s .f64, .s .f64] fun (r, d, _) => .flt (fdisc r d)
theorem ok176 : FcOk Try.prog 176 c176 := sp0 L178ok Try.func176 (by kernel_rfl) (by kernel_rfl) (by kernel_rfl) fun (r, d, _) K => by kernel_rfl
noncomputable def L176 : Ctr := (176, c176) :: L178
theorem L176ok : AllOk L176 := .cons ok176 L178ok
def circM (s : GShape) (d : Nat) : GMass := ⟨fdisc s.Radius d, fmul (fmul (fdisc s.Radius d) (fmul s.Radius s.Radius)) 4602678819172646912, getV s.Points 0⟩
theorem x132 (s : GShape) (d : Nat) (K) : xfn (EV L176 []) Try.f132 [] (encs [.s .shape, .s .f64] (s, d, ())) [] K = (getI s.Points 0).bind fun p => K (encR .mass ⟨fdisc s.Radius d, fmul (fmul (fdisc s.Radius d) (fmul s.Radius s.Radius)) 4602678819172646912, p⟩) [] [] := by kernel_rfl
noncomputable def c132 : FC G := FC.rn [.s .shape, .s .f64] fun (s, d, _) K => gate (1 ≤ (s : GShape).Points.length) (K (encR .mass (circM s d)) [] [])
theorem ok132 : FcOk Try.prog 132 c132 := rn_ok L176ok Try.func132 (by kernel_rfl) [] (.none (by kernel_rfl)) (by kernel_rfl) fun (s, d, _) K o h => by
  obtain ⟨h1, h2⟩ := gate_some h
  have h0 : getI (s : GShape).Points 0 = some (getV (s : GShape).Points 0) := getI_V (k := 0) (by omega)
  refine (x132 s d K).trans ?_
  rw [h0]
  exact h2
noncomputable def L132 : Ctr := (132, c132) :: L176
theorem L132ok : AllOk L132 := .cons ok132 L176ok
def capN (a b : GVec) : Nat := vlen (vsub b a)
def capP (r d n : Nat) : Nat := fmul d (fmul (fmul 4611686018427387904 r) n)
def capD (r : Nat) : Nat := fdiv (fmul 4616189618054758400 r) (fmul 4613937818241073152 4614256656552045848)
def capBar (r p n : Nat) : Nat := fdiv (fmul p (fadd (fmul n n) (fmul (fmul 4616189618054758400 r) r))) 4622945017495814144
def capEnds (r q n : Nat) : Nat := fmul q (fadd (fadd (fmul (fmul r r) 4602678819172646912) (fmul (fmul n n) 4598175219545276416)) (fmul n (capD r)))
def capOf (r d : Nat) (a b : GVec) : GMass := ⟨fadd (capP r d (capN a b)) (fdisc r d), fadd (capBar r (capP r d (capN a b)) (capN a b)) (capEnds r (fdisc r d) (capN a b)), vscale (vadd a b) 4602678819172646912⟩
def capM (s : GShape) (d : Nat) : GMass := capOf s.Radius d (getV s.Points 0) (getV s.Points 1)
theorem x133 (s : GShape) (d : Nat) (K) : xfn (EV L132 []) Try.f133 [] (encs [.s .shape, .s .f64] (s, d, ())) [] K = (getI s.Points 0).bind fun a => (getI s.Points 1).bind fun b => K (encR .mass (capOf s.Radius d a b)) [] [] := by kernel_rfl
noncomputable def c133 : FC G := FC.rn [.s .shape, .s .f64] fun (s, d, _) K => gate (2 ≤ (s : GShape).Points.length) (K (encR .mass (capM s d)) [] [])
theorem ok133 : FcOk Try.prog 133 c133 := rn_ok L132ok Try.func133 (by kernel_rfl) [] (.none (by kernel_rfl)) (by kernel_rfl) fun (s, d, _) K o h => by
  obtain ⟨h1, h2⟩ := gate_some h
  have h0 : getI (s : GShape).Points 0 = some (getV (s : GShape).Points 0) := getI_V (k := 0) (by omega)
  have h3 : getI (s : GShape).Points 1 = some (getV (s : GShape).Points 1) := getI_V (k := 1) (by omega)
  refine (x133 s d K).trans ?_
  rw [h0, Option.bind_some, h3]
  exact h2
noncomputable def L133 : Ctr := (133, c133) :: L132
theorem L133ok : AllOk L133 := .cons ok133 L132ok
end Go.SX

/- What a shape weighs, by the program; whether a shape may be. No statement of the seat is proved here. -/
namespace Go.SX
open Go.Proofs
set_option maxRecDepth 20000
/-! ### a polygon -/
def ptri (a b : GVec) : Nat := fmul (vcross a b) (fadd (fadd (vdot a a) (vdot a b)) (vdot b b))
def polyAt (l : List GVec) (c : GVec) (i : Nat) : Nat := ptri (vsub (getV l i) c) (vsub (getV l ((i + 1) % l.length)) c)
def polyI (l : List GVec) (c : GVec) : List Nat := (List.range l.length).map (polyAt l c)
def polyM (s : GShape) (d : Nat) : GMass := ⟨fmul d (areaM s.Points), fmul d (fdiv (fsum (polyI s.Points (midM s.Points))) 4622945017495814144), midM s.Points⟩
def h134 : LH G := ⟨[1, 2, 4, 6, 8, 9, 38, 39], [], [2, 4, 8, 36]⟩
def V134 (d a : Nat) (L : List Nat) (n i : Int) : List (RV G) := [.flt d, .ptr 2 0 0 0, .ptr 4 0 0 0, .flt a, .ptr 8 0 0 0, .own 36 .f64 L.length, .int .i64 n, .int .i64 i]
def B134 (s : GShape) (c : GVec) (L : List Nat) : List (Blk G) := [.cells (encG .shape s), .cells (encG .mass mass0), .cells (encG .vec c), .rows .f64 L]
def nought134 (l : List GVec) : List Nat := List.replicate (l.length : Int).toNat 0
noncomputable def E134 (s : GShape) (d : Nat) : List (Nat × LC G) := [(9, lcOf h134 (V134 d (areaM s.Points) (nought134 s.Points) (nought134 s.Points).length 0) (B134 s (midM s.Points) (nought134 s.Points))
  fun K => K (.exit 0) (V134 d (areaM s.Points) (polyI s.Points (midM s.Points)) (nought134 s.Points).length (nought134 s.Points).length) (B134 s (midM s.Points) (polyI s.Points (midM s.Points))))]
theorem step134 (lp : List (Nat × LC G)) (s : GShape) (d a : Nat) (c : GVec) (L : List Nat) (N : Int) (n : Nat) (i : Int) (K) : iter (EV L133 lp) h134 (lpBody Try.f134 0) (n + 1) (V134 d a L N i) (B134 s c L) K = bif decide (i < N) then
    (getI s.Points i).bind fun p => bif (L.length : Int) == 0 then none else (getI s.Points ((IntKind.i64.wrap (i + 1)).tmod L.length)).bind fun q => atN L.length L i fun _ =>
      iter (EV L133 lp) h134 (lpBody Try.f134 0) n (V134 d a (L.set i.toNat (ptri (vsub p c) (vsub q c))) N (IntKind.i64.wrap (i + 1))) (B134 s c (L.set i.toNat (ptri (vsub p c) (vsub q c)))) K
  else K (.exit 0) (V134 d a L N i) (B134 s c L) := by kernel_rfl
theorem x134 (s : GShape) (d : Nat) (K) : xfn (EV L133 (E134 s d)) Try.f134 [] (encs [.s .shape, .s .f64] (s, d, ())) [] K = bif areaE s.Points != 0 then K (.tuple [encR .mass mass0, .int .i64 (areaE s.Points)]) [] [] else
    bif areaE s.Points != 0 then K (.tuple [encR .mass mass0, .int .i64 (areaE s.Points)]) [] [] else bif decide (0 ≤ (s.Points.length : Int) ∧ (s.Points.length : Int) * ((8 : Nat) : Int) ≤ 2 ^ 47 ∧ 0 < 8) then
      gate (V134 d (areaM s.Points) (nought134 s.Points) (nought134 s.Points).length 0 = V134 d (areaM s.Points) (nought134 s.Points) (nought134 s.Points).length 0 ∧ B134 s (midM s.Points) (nought134 s.Points) = B134 s (midM s.Points) (nought134 s.Points))
        (K (.tuple [encR .mass (polyM s d), .int .i64 0]) [] []) else none := by kernel_rfl
theorem x134n (s : GShape) (d : Nat) (K) : xfn (EV L133 []) Try.f134 [] (encs [.s .shape, .s .f64] (s, d, ())) [] K = bif areaE s.Points != 0 then K (.tuple [encR .mass mass0, .int .i64 (areaE s.Points)]) [] [] else
    bif areaE s.Points != 0 then K (.tuple [encR .mass mass0, .int .i64 (areaE s.Points)]) [] [] else bif decide (0 ≤ (s.Points.length : Int) ∧ (s.Points.length : Int) * ((8 : Nat) : Int) ≤ 2 ^ 47 ∧ 0 < 8) then none else none := by kernel_rfl
/-- A list written place by place. -/
theorem fold_set (n : Nat) (g : Nat → Nat) (z : List Nat) (hz : z.length = n) : (List.range n).foldl (fun s i => s.set i (g i)) z = (List.range n).map g := by
  have main : ∀ m, m ≤ n → ((List.range m).foldl (fun s i => s.set i (g i)) z).length = n ∧ ∀ k, k < n → ((List.range m).foldl (fun s i => s.set i (g i)) z)[k]? = if k < m then some (g k) else z[k]? := by
    intro m
    induction m with
    | zero => intro _; exact ⟨hz, fun k _ => by simp⟩
    | succ m ih =>
      intro hm
      obtain ⟨g1, g2⟩ := ih (by omega)
      rw [List.range_succ, List.foldl_append]
      refine ⟨by simp [g1], fun k hk => ?_⟩
      simp only [List.foldl_cons, List.foldl_nil]
      rw [List.getElem?_set, g1]
      by_cases e : m = k
      · subst e; simp [hk]
      · rw [if_neg e, g2 k hk]
        by_cases h : k < m
        · rw [if_pos h, if_pos (by omega)]
        · rw [if_neg h, if_neg (by omega)]
  obtain ⟨h1, h2⟩ := main n (Nat.le_refl _)
  apply List.ext_getElem?
  intro k
  by_cases hk : k < n
  · rw [h2 k hk, if_pos hk]; simp [hk]
  · rw [List.getElem?_eq_none (by omega), List.getElem?_eq_none (by simp; omega)]
theorem areaE_ok {l : List GVec} (h : (areaE l != 0) = false) : 3 ≤ l.length ∧ l.length ≤ 64 := by
  refine perr_ok ?_
  unfold areaE at h
  cases h1 : perr l != 0 with
  | false => rfl
  | true => rw [h1, cond_true, h1] at h; cases h
theorem lp134 (s : GShape) (d : Nat) (h : 3 ≤ s.Points.length ∧ s.Points.length ≤ 64) : LpOk (EV L133 (E134 s d)) [] (lpBody Try.f134 0) (lcOf h134 (V134 d (areaM s.Points) (nought134 s.Points) (nought134 s.Points).length 0) (B134 s (midM s.Points) (nought134 s.Points))
    fun K => K (.exit 0) (V134 d (areaM s.Points) (polyI s.Points (midM s.Points)) (nought134 s.Points).length (nought134 s.Points).length) (B134 s (midM s.Points) (polyI s.Points (midM s.Points)))) := by
  have hz : (nought134 s.Points).length = s.Points.length := by unfold nought134; simp
  exact lcOf_ok (by kernel_rfl) fun K => ⟨_, (fold_loop (N := (nought134 s.Points).length) (g := fun L i => L.set i (polyAt s.Points (midM s.Points) i)) (F := fun n i L => iter (EV L133 (E134 s d)) h134 (lpBody Try.f134 0) n (V134 d (areaM s.Points) L (nought134 s.Points).length i) (B134 s (midM s.Points) L) K)
    (X := fun L => K (.exit 0) (V134 d (areaM s.Points) L (nought134 s.Points).length (nought134 s.Points).length) (B134 s (midM s.Points) L)) (s0 := nought134 s.Points) (fun _ L => L.length = s.Points.length) hz
    (fun n i L hi hL => by
      have e : ((L.length : Int) == 0) = false := beq_eq_false_iff_ne.2 (by omega)
      rw [step134, decide_eq_true (by omega), cond_true, getI_V (by omega), Option.bind_some, e, cond_false, wrap_succ (by omega), tmod_at, getI_V (by rw [hL]; exact Nat.mod_lt _ (by omega)), Option.bind_some, atN_any (by omega) (by omega) (Nat.le_refl _), hL, Int.toNat_natCast]
      rfl)
    (fun i L _ hL => by simp [hL]) (fun n L _ => by rw [step134, decide_eq_false (by omega)]; rfl)).trans (by
      rw [hz, fold_set s.Points.length _ _ hz]
      rfl)⟩
def c134 : FC G := FC.sp [.s .shape, .s .f64] fun (s, d, _) => .tuple [encR .mass (bif areaE (s : GShape).Points != 0 then mass0 else polyM s d), .int .i64 (areaE (s : GShape).Points)]
theorem ok134 : FcOk Try.prog 134 c134 := sp_lp L133ok Try.func134 (by kernel_rfl) (by kernel_rfl) fun (s, d, _) _ => by
  show ∃ lp, LpsOk (EV L133 lp) [] (bodyD Try.f134) ∧ ∀ K, xfn (EV L133 lp) Try.f134 [] (encs [.s .shape, .s .f64] (s, d, ())) [] K = K (.tuple [encR .mass (bif areaE (s : GShape).Points != 0 then mass0 else polyM s d), .int .i64 (areaE (s : GShape).Points)]) [] []
  cases h1 : areaE (s : GShape).Points != 0 with
  | true => exact ⟨[], LpsOk.of _ fun _ _ _ _ h => (by cases h), fun K => (x134n s d K).trans (by rw [h1]; rfl)⟩
  | false =>
    have h3 := areaE_ok h1
    have h0 : areaE (s : GShape).Points = 0 := by simpa using h1
    refine ⟨E134 s d, lps1 (i := 9) (by kernel_rfl) rfl (lp134 s d h3), fun K => (x134 s d K).trans ?_⟩
    rw [h1, cond_false, cond_false, decide_eq_true (by omega), cond_true, gate_pos ⟨rfl, rfl⟩, h0]
    rfl
noncomputable def L134 : Ctr := (134, c134) :: L133
theorem L134ok : AllOk L134 := .cons ok134 L133ok
/-! ### may a shape be? -/
def flen (a : Nat) : Bool := fle 4472074429978902528 a && fle a 4787326403894837248
def c219 : FC G := FC.sp [.s .f64] fun (a, _) => .bool (flen a)
theorem ok219 : FcOk Try.prog 219 c219 := sp0 L134ok Try.func219 (by kernel_rfl) (by kernel_rfl) (by kernel_rfl) fun (a, _) K => by kernel_rfl
noncomputable def L219 : Ctr := (219, c219) :: L134
theorem L219ok : AllOk L219 := .cons ok219 L134ok
def cirE (c : GCircle) : Int := bif (!vwithin c.At 4787326403894837248) || !flen c.Radius then 5 else 0
def capE (c : GCapsule) : Int := bif ((!vwithin c.A 4787326403894837248) || !vwithin c.B 4787326403894837248) || !flen c.Radius then 5 else bif flt (vlen (vsub c.B c.A)) 4472074429978902528 then 6 else 0
def c216 : FC G := FC.sp [.s .circle] fun (c, _) => .int .i64 (cirE c)
theorem ok216 : FcOk Try.prog 216 c216 := sp0 L219ok Try.func216 (by kernel_rfl) (by kernel_rfl) (by kernel_rfl) fun (c, _) K => (show xfn (EV L219 []) Try.f216 [] (encs [.s .circle] (c, ())) [] K = (bif ((!vwithin c.At 4787326403894837248) || !flen c.Radius) then K (.int .i64 5) [] [] else K (.int .i64 0) [] []) from by kernel_rfl).trans (by
  show _ = K (.int .i64 (cirE c)) [] []
  unfold cirE
  cases ((!vwithin (c : GCircle).At 4787326403894837248) || !flen (c : GCircle).Radius) <;> rfl)
noncomputable def L216 : Ctr := (216, c216) :: L219
theorem L216ok : AllOk L216 := .cons ok216 L219ok
def c221 : FC G := FC.sp [.s .capsule] fun (c, _) => .int .i64 (capE c)
theorem ok221 : FcOk Try.prog 221 c221 := sp0 L216ok Try.func221 (by kernel_rfl) (by kernel_rfl) (by kernel_rfl) fun (c, _) K => (show xfn (EV L216 []) Try.f221 [] (encs [.s .capsule] (c, ())) [] K = (bif (((!vwithin c.A 4787326403894837248) || !vwithin c.B 4787326403894837248) || !flen c.Radius) then K (.int .i64 5) [] [] else
    bif flt (vlen (vsub c.B c.A)) 4472074429978902528 then K (.int .i64 6) [] [] else K (.int .i64 0) [] []) from by kernel_rfl).trans (by
  show _ = K (.int .i64 (capE c)) [] []
  unfold capE
  cases (((!vwithin (c : GCapsule).A 4787326403894837248) || !vwithin (c : GCapsule).B 4787326403894837248) || !flen (c : GCapsule).Radius) with
  | true => rfl
  | false => cases flt (vlen (vsub (c : GCapsule).B (c : GCapsule).A)) 4472074429978902528 <;> rfl)
noncomputable def L221 : Ctr := (221, c221) :: L216
theorem L221ok : AllOk L221 := .cons ok221 L216ok
def c225 : FC G := FC.sp [.l .vec] fun (l, _) => .int .i64 (perr l)
theorem ok225 : FcOk Try.prog 225 c225 := sp0 L221ok Try.func225 (by kernel_rfl) (by kernel_rfl) (by kernel_rfl) fun (l, _) K => by kernel_rfl
noncomputable def L225 : Ctr := (225, c225) :: L221
theorem L225ok : AllOk L225 := .cons ok225 L221ok
def wild (s : GShape) : Bool := decide (s.Kind < 1) || decide (s.Kind > 3)
def isCir (s : GShape) : Bool := (s.Kind == 1) && ((s.Points.length : Int) == 1)
def isCap (s : GShape) : Bool := (s.Kind == 2) && ((s.Points.length : Int) == 2)
def isPol (s : GShape) : Bool := (((s.Kind == 3) && decide ((s.Points.length : Int) ≥ 3)) && decide ((s.Points.length : Int) ≤ 8)) && feq s.Radius 0
def runOpen (s : GShape) (K : RV G → List (Blk G) → List (Blk G) → Ans G) : Ans G := bif wild s then K (.tuple [.nilif, .int .i64 70]) [] [] else bif isCir s then (getI s.Points 0).bind fun p => K (.tuple [.iface 189 (encR .circle ⟨p, s.Radius⟩), .int .i64 0]) [] [] else
  bif isCap s then (getI s.Points 0).bind fun p => (getI s.Points 1).bind fun q => K (.tuple [.iface 191 (encR .capsule ⟨p, q, s.Radius⟩), .int .i64 0]) [] [] else
  bif isPol s then K (.tuple [.iface 192 (.rslice .vec s.Points), .int .i64 0]) [] [] else K (.tuple [.nilif, .int .i64 6]) [] []
def c180 : FC G := FC.rn [.s .shape] fun (s, _) K => runOpen s K
theorem ok180 : FcOk Try.prog 180 c180 := rn0 L225ok Try.func180 (by kernel_rfl) (by kernel_rfl) (by kernel_rfl) fun (s, _) K => by kernel_rfl
noncomputable def L180 : Ctr := (180, c180) :: L225
theorem L180ok : AllOk L180 := .cons ok180 L225ok
def runMay (s : GShape) (K : RV G → List (Blk G) → List (Blk G) → Ans G) : Ans G := bif wild s then K (.tuple [.nilif, .int .i64 70]) [] [] else bif isCir s then (getI s.Points 0).bind fun p => bif cirE ⟨p, s.Radius⟩ != 0 then K (.tuple [.nilif, .int .i64 (cirE ⟨p, s.Radius⟩)]) [] [] else K (.tuple [.iface 189 (encR .circle ⟨p, s.Radius⟩), .int .i64 0]) [] [] else
  bif isCap s then (getI s.Points 0).bind fun p => (getI s.Points 1).bind fun q => bif capE ⟨p, q, s.Radius⟩ != 0 then K (.tuple [.nilif, .int .i64 (capE ⟨p, q, s.Radius⟩)]) [] [] else K (.tuple [.iface 191 (encR .capsule ⟨p, q, s.Radius⟩), .int .i64 0]) [] [] else
  bif isPol s then (bif perr s.Points != 0 then K (.tuple [.nilif, .int .i64 (perr s.Points)]) [] [] else K (.tuple [.iface 192 (.rslice .vec s.Points), .int .i64 0]) [] []) else K (.tuple [.nilif, .int .i64 6]) [] []
def c136 : FC G := FC.rn [.s .shape] fun (s, _) K => runMay s K
theorem ok136 : FcOk Try.prog 136 c136 := rn0 L180ok Try.func136 (by kernel_rfl) (by kernel_rfl) (by kernel_rfl) fun (s, _) K => by kernel_rfl
noncomputable def L136 : Ctr := (136, c136) :: L180
theorem L136ok : AllOk L136 := .cons ok136 L180ok
def shE (s : GShape) : Int := bif wild s then 70 else bif isCir s then cirE ⟨getV s.Points 0, s.Radius⟩ else bif isCap s then capE ⟨getV s.Points 0, getV s.Points 1, s.Radius⟩ else bif isPol s then perr s.Points else 6
theorem x69 (s : GShape) (K) : xfn (EV L136 []) Try.f69 [] (encs [.s .shape] (s, ())) [] K = runMay s (fun r _ _ => match r with | .tuple [_, e] => K e [] [] | _ => none) := by kernel_rfl
def c69 : FC G := FC.sp [.s .shape] fun (s, _) => .int .i64 (shE s)
theorem ok69 : FcOk Try.prog 69 c69 := sp0 L136ok Try.func69 (by kernel_rfl) (by kernel_rfl) (by kernel_rfl) fun (s, _) K => (x69 s K).trans (by
  show runMay (s : GShape) _ = K (.int .i64 (shE s)) [] []
  unfold runMay shE
  cases wild (s : GShape) with
  | true => rfl
  | false =>
    cases h1 : isCir (s : GShape) with
    | true =>
      have hl : (s : GShape).Points.length = 1 := by
        unfold isCir at h1
        simp at h1; omega
      have h0 : getI (s : GShape).Points 0 = some (getV (s : GShape).Points 0) := getI_V (k := 0) (by omega)
      rw [h0]
      simp only [cond_false, cond_true, Option.bind_some]
      cases h : cirE ⟨getV (s : GShape).Points 0, (s : GShape).Radius⟩ != 0 with
      | true => rfl
      | false => rw [show cirE ⟨getV (s : GShape).Points 0, (s : GShape).Radius⟩ = 0 by simpa using h]; rfl
    | false =>
      cases h2 : isCap (s : GShape) with
      | true =>
        have hl : (s : GShape).Points.length = 2 := by
          unfold isCap at h2
          simp at h2; omega
        have h0 : getI (s : GShape).Points 0 = some (getV (s : GShape).Points 0) := getI_V (k := 0) (by omega)
        have h3 : getI (s : GShape).Points 1 = some (getV (s : GShape).Points 1) := getI_V (k := 1) (by omega)
        rw [h0, h3]
        simp only [cond_false, cond_true, Option.bind_some]
        cases h : capE ⟨getV (s : GShape).Points 0, getV (s : GShape).Points 1, (s : GShape).Radius⟩ != 0 with
        | true => rfl
        | false => rw [show capE ⟨getV (s : GShape).Points 0, getV (s : GShape).Points 1, (s : GShape).Radius⟩ = 0 by simpa using h]; rfl
      | false =>
        cases isPol (s : GShape) with
        | true =>
          simp only [cond_false, cond_true]
          cases h : perr (s : GShape).Points != 0 with
          | true => rfl
          | false => rw [show perr (s : GShape).Points = 0 by simpa using h]; rfl
        | false => rfl)
noncomputable def L69 : Ctr := (69, c69) :: L136
theorem L69ok : AllOk L69 := .cons ok69 L136ok
end Go.SX

/- What a shape weighs, by the program, whole; what the laws of masses ask of themselves. No statement of the seat is proved here. -/
namespace Go.SX
open Go.Proofs
set_option maxRecDepth 20000
def dwild (d : Nat) : Bool := (!fwithin d 4787326403894837248) || flt d 0
def polyR (s : GShape) (d : Nat) : GMass := bif areaE s.Points != 0 then mass0 else polyM s d
def kindM (s : GShape) (d : Nat) : GMass := bif s.Kind == 1 then circM s d else bif s.Kind == 2 then capM s d else polyR s d
def kindE (s : GShape) : Int := bif s.Kind == 1 then 0 else bif s.Kind == 2 then 0 else areaE s.Points
def ofM (s : GShape) (d : Nat) : GMass := bif shE s != 0 then mass0 else bif dwild d then mass0 else bif kindE s != 0 then mass0 else mchk (kindM s d)
def ofE (s : GShape) (d : Nat) : Int := bif shE s != 0 then shE s else bif dwild d then 5 else bif kindE s != 0 then kindE s else merr (kindM s d)
theorem x62 (s : GShape) (d : Nat) (K) : xfn (EV L69 []) Try.f62 [] (encs [.s .shape, .s .f64] (s, d, ())) [] K = bif shE s != 0 then K (jres mass0 (shE s)) [] [] else bif dwild d then K (jres mass0 5) [] [] else
    bif s.Kind == 1 then gate (1 ≤ s.Points.length) (K (jres (mchk (circM s d)) (merr (circM s d))) [] []) else bif s.Kind == 2 then gate (2 ≤ s.Points.length) (K (jres (mchk (capM s d)) (merr (capM s d))) [] []) else
    bif areaE s.Points != 0 then K (jres mass0 (areaE s.Points)) [] [] else K (jres (mchk (polyR s d)) (merr (polyR s d))) [] [] := by kernel_rfl
theorem shE_len {s : GShape} (h : (shE s != 0) = false) : ((s.Kind == 1) = true → s.Points.length = 1) ∧ ((s.Kind == 2) = true → s.Points.length = 2) := by
  unfold shE at h
  cases h0 : wild s with
  | true => rw [h0] at h; simp at h
  | false =>
    rw [h0, cond_false] at h
    cases h1 : isCir s with
    | true =>
      unfold isCir at h1
      simp at h1
      refine ⟨fun _ => by omega, fun h2 => ?_⟩
      simp at h2; omega
    | false =>
      rw [h1, cond_false] at h
      cases h2 : isCap s with
      | true =>
        unfold isCap at h2
        simp at h2
        refine ⟨fun h3 => ?_, fun _ => by omega⟩
        simp at h3; omega
      | false =>
        rw [h2, cond_false] at h
        cases h3 : isPol s with
        | true =>
          unfold isPol at h3
          simp at h3
          refine ⟨fun h4 => ?_, fun h4 => ?_⟩
          · simp at h4; omega
          · simp at h4; omega
        | false => rw [h3] at h; simp at h
def c62 : FC G := FC.sp [.s .shape, .s .f64] fun (s, d, _) => jres (ofM s d) (ofE s d)
theorem ok62 : FcOk Try.prog 62 c62 := sp0 L69ok Try.func62 (by kernel_rfl) (by kernel_rfl) (by kernel_rfl) fun (s, d, _) K => (x62 s d K).trans (by
  show _ = K (jres (ofM s d) (ofE s d)) [] []
  unfold ofM ofE
  cases h0 : shE (s : GShape) != 0 with
  | true => rfl
  | false =>
    obtain ⟨h1, h2⟩ := shE_len h0
    cases dwild d with
    | true => rfl
    | false =>
      unfold kindE kindM
      cases h3 : (s : GShape).Kind == 1 with
      | true => rw [gate_pos (by rw [h1 h3]; exact Nat.le_refl _)]; rfl
      | false => cases h4 : (s : GShape).Kind == 2 with
        | true => simp only [cond_false, cond_true]; rw [gate_pos (by rw [h2 h4]; exact Nat.le_refl _)]; rfl
        | false =>
          simp only [cond_false]
          cases h5 : areaE (s : GShape).Points != 0 <;> rfl)
noncomputable def L62 : Ctr := (62, c62) :: L69
theorem L62ok : AllOk L62 := .cons ok62 L69ok
def c63 : FC G := FC.sp [.l .vec] fun (l, _) => encR .shape ⟨3, 0, l⟩
theorem ok63 : FcOk Try.prog 63 c63 := sp0 L62ok Try.func63 (by kernel_rfl) (by kernel_rfl) (by kernel_rfl) fun (l, _) K => by kernel_rfl
noncomputable def L63 : Ctr := (63, c63) :: L62
theorem L63ok : AllOk L63 := .cons ok63 L62ok
def c67 : FC G := FC.rn [.s .f64] fun (r, _) K => K (.agg [.int .u8 1, .flt r, .own 0 .vec 1]) [] [.rows .vec [vec0]]
theorem ok67 : FcOk Try.prog 67 c67 := rn0 L63ok Try.func67 (by kernel_rfl) (by kernel_rfl) (by kernel_rfl) fun (r, _) K => by kernel_rfl
noncomputable def L67 : Ctr := (67, c67) :: L63
theorem L67ok : AllOk L67 := .cons ok67 L63ok
theorem ok49 : FcOk Try.prog 49 (FC.sp [] fun _ => .bool true) := sp0 L67ok Try.func49 (by kernel_rfl) (by kernel_rfl) (by kernel_rfl) fun _ K => (show xfn (EV L67 []) Try.f49 [] [] [] K = K (.bool true) [] [] from by kernel_rfl)
end Go.SX

/- The laws MassOnes and MassJoins answer true. No statement of the seat is proved here. -/
namespace Go.SX
open Go.Proofs
set_option maxRecDepth 20000
theorem fis_same (x : Nat) : fis x x = true := by unfold fis; simp
noncomputable def L10 : Ctr := (49, FC.sp [] fun _ => .bool true) :: L51
theorem L10ok : AllOk L10 := .cons ok49 L51ok
def abM (m : GMass) (p : GVec) : Nat := bif mok m && vwithin p 4787326403894837248 then mabout m p else 0
def abE (m : GMass) (p : GVec) : Int := bif !mok m then 80 else bif !vwithin p 4787326403894837248 then 5 else 0
def stM (m : GMass) : Nat := bif mok m then fover m.Mass else 0
def stI (m : GMass) : Nat := bif mok m then fover m.Inertia else 0
theorem ok10 : FcOk Try.prog 10 (FC.sp [.s .mass, .s .vec] fun _ => .bool true) := sp0 L10ok Try.func10 (by kernel_rfl) (by kernel_rfl) (by kernel_rfl) fun (m, p, _) K =>
  (show xfn (EV L10 []) Try.f10 [] (encs [.s .mass, .s .vec] (m, p, ())) [] K = K (.bool ((((((true && (merr m == merr m)) && fis (abM m p) (abM m p)) && (abE m p == abE m p)) && fis (stM m) (stM m)) && fis (stI m) (stI m)) && (merr m == merr m))) [] [] from by kernel_rfl).trans (by
  rw [fis_same, fis_same, fis_same]
  simp)
/-! ### MassJoins -/
def mark1 : GMass := { mass0 with Mass := 4635118810238550016 }
def mark2 : GMass := { mass0 with Mass := 4635189178982727680 }
def q9 (l : List GMass) : List GMass := ([] ++ l) ++ [mark1, mark2]
def lent9 (l : List GMass) : List GMass := ((q9 l).drop 0).take ((l.length : Int) - 0).toNat
theorem lent9_eq (l : List GMass) : lent9 l = l := by unfold lent9 q9; simp
def h9 : LH G := ⟨[0, 2, 3, 4, 6, 8, 9, 10], [], [26]⟩
def same9 (l : List GMass) : Bool := msame (joinM (lent9 l)) (joinM l)
def V9 (l : List GMass) (i : Int) : List (RV G) := [.rslice .mass l, .bool false, .bool true, .own 26 .mass (q9 l).length, .int .i64 (joinE (lent9 l)), .int .i64 (joinE l), .bool (same9 l), .int .i64 i]
def B9 (l : List GMass) : List (Blk G) := [.rows .mass (q9 l)]
noncomputable def E9 (l : List GMass) : List (Nat × LC G) := [(12, lcOf h9 (V9 l 0) (B9 l) fun K => K (.exit 0) (V9 l l.length) (B9 l))]
theorem step9 (lp : List (Nat × LC G)) (l : List GMass) (n : Nat) (i : Int) (K) : iter (EV L10 lp) h9 (lpBody Try.f9 0) (n + 1) (V9 l i) (B9 l) K = bif decide (i < (l.length : Int)) then
    atN (q9 l).length (q9 l) i fun x => (getI l i).bind fun y => bif !msame x y then K .ret (V9 l i) (B9 l) else iter (EV L10 lp) h9 (lpBody Try.f9 0) n (V9 l (IntKind.i64.wrap (i + 1))) (B9 l) K
  else K (.exit 0) (V9 l i) (B9 l) := by kernel_rfl
theorem x9 (l : List GMass) (K) : xfn (EV L10 (E9 l)) Try.f9 [] (encs [.l .mass] (l, ())) [] K = bif decide ((l.length : Int) > 300) then K (.bool true) [] [] else
    bif decide (([] ++ l : List GMass).length * 32 ≤ 2 ^ 47) then bif decide ((q9 l).length * 32 ≤ 2 ^ 47) then bif decide ((0 : Int) ≤ 0 ∧ (0 : Int) ≤ (l.length : Int) ∧ (l.length : Int) ≤ ((q9 l).length : Int)) then
      gate (V9 l 0 = V9 l 0 ∧ B9 l = B9 l) (bif ((true && same9 l) && (joinE (lent9 l) == joinE l)) then atN (q9 l).length (q9 l) (l.length : Int) fun x => bif (true && feq x.Mass 4635118810238550016) then
        atN (q9 l).length (q9 l) (IntKind.i64.wrap ((l.length : Int) + 1)) fun y => K (.bool (true && feq y.Mass 4635189178982727680)) [] [] else K (.bool false) [] [] else K (.bool false) [] [])
    else none else none else none := by kernel_rfl
theorem x9n (l : List GMass) (K) : xfn (EV L10 []) Try.f9 [] (encs [.l .mass] (l, ())) [] K = bif decide ((l.length : Int) > 300) then K (.bool true) [] [] else
    bif decide (([] ++ l : List GMass).length * 32 ≤ 2 ^ 47) then bif decide ((q9 l).length * 32 ≤ 2 ^ 47) then bif decide ((0 : Int) ≤ 0 ∧ (0 : Int) ≤ (l.length : Int) ∧ (l.length : Int) ≤ ((q9 l).length : Int)) then none else none else none else none := by kernel_rfl
theorem msame_self (m : GMass) : msame m m = true := by unfold msame vsame; simp only [fis_same, Bool.and_self]
theorem q9_len (l : List GMass) : (q9 l).length = l.length + 2 := by simp [q9]
theorem q9_at {l : List GMass} {i : Nat} (h : i < l.length) : (q9 l)[((i : Nat) : Int).toNat]? = some (getM l i) := by
  have := getI_M h
  unfold getI at this
  rw [decide_eq_true (by omega), cond_true] at this
  rw [← this, Int.toNat_natCast]
  unfold q9
  rw [List.nil_append, List.getElem?_append_left h]
theorem lp9 (lp : List (Nat × LC G)) (l : List GMass) (hl : l.length ≤ 300) : LpOk (EV L10 lp) [] (lpBody Try.f9 0) (lcOf h9 (V9 l 0) (B9 l) fun K => K (.exit 0) (V9 l l.length) (B9 l)) :=
  lcOf_ok (by kernel_rfl) fun K => ⟨_, fold_loop (N := l.length) (g := fun (_ : Unit) _ => ()) (F := fun n i _ => iter (EV L10 lp) h9 (lpBody Try.f9 0) n (V9 l i) (B9 l) K) (X := fun _ => K (.exit 0) (V9 l l.length) (B9 l)) (s0 := ()) (fun _ _ => True) trivial
    (fun n i _ hi _ => by
      have := q9_len l
      rw [step9, decide_eq_true (by omega), cond_true, atN_at (by omega) (by omega) (q9_at hi), getI_M hi, Option.bind_some, msame_self, wrap_succ (by omega)]
      rfl)
    (fun _ _ _ _ => trivial) (fun n _ _ => by rw [step9, decide_eq_false (by omega)]; rfl)⟩
theorem ok9 : FcOk Try.prog 9 (FC.sp [.l .mass] fun _ => .bool true) := sp_lp L10ok Try.func9 (by kernel_rfl) (by kernel_rfl) fun (l, _) _ => by
  show ∃ lp, LpsOk (EV L10 lp) [] (bodyD Try.f9) ∧ ∀ K, xfn (EV L10 lp) Try.f9 [] (encs [.l .mass] (l, ())) [] K = K (.bool true) [] []
  cases h : decide (((l : List GMass).length : Int) > 300) with
  | true => exact ⟨[], LpsOk.of _ fun _ _ _ _ h => (by cases h), fun K => (x9n l K).trans (by rw [h]; rfl)⟩
  | false =>
    rw [decide_eq_false_iff_not] at h
    have hl : (l : List GMass).length ≤ 300 := by omega
    have hq := q9_len l
    have e1 : (q9 (l : List GMass))[((l : List GMass).length : Int).toNat]? = some mark1 := by unfold q9; simp
    have e2 : (q9 (l : List GMass))[((((l : List GMass).length + 1 : Nat)) : Int).toNat]? = some mark2 := by unfold q9; rw [Int.toNat_natCast, List.nil_append, List.getElem?_append_right (by omega)]; simp
    have e3 : same9 (l : List GMass) = true := by unfold same9; rw [lent9_eq]; exact msame_self _
    refine ⟨E9 l, lps1 (i := 12) (by kernel_rfl) rfl (lp9 _ l hl), fun K => (x9 l K).trans ?_⟩
    rw [decide_eq_false (by omega), cond_false, decide_eq_true (by rw [List.nil_append]; omega), cond_true, decide_eq_true (by omega), cond_true, decide_eq_true (by omega), cond_true, gate_pos ⟨rfl, rfl⟩, e3, lent9_eq,
      atN_at (by omega) (by omega) e1, wrap_succ (by omega), atN_at (by omega) (by omega) e2]
    have f1 : feq mark1.Mass 4635118810238550016 = true := by decide
    have f2 : feq mark2.Mass 4635189178982727680 = true := by decide
    rw [f1, f2]
    simp
end Go.SX

/- The law MassAbout: its walk. No statement of the seat is proved here. -/
namespace Go.SX
open Go.Proofs
set_option maxRecDepth 20000
def nearly (a b c q : Nat) : Bool := fle (fabs (fsub a b)) (fmul q (fabs c))
def c65 : FC G := FC.sp [.s .f64, .s .f64, .s .f64, .s .f64] fun (a, b, c, q, _) => .bool (nearly a b c q)
theorem ok65 : FcOk Try.prog 65 c65 := sp0 L10ok Try.func65 (by kernel_rfl) (by kernel_rfl) (by kernel_rfl) fun (a, b, c, q, _) K => by kernel_rfl
noncomputable def L12 : Ctr := (65, c65) :: L10
theorem L12ok : AllOk L12 := .cons ok65 L10ok
def h12 : LH G := ⟨[0, 3, 5, 6, 7, 9, 10], [(8, .mass, 900)], [3, 6]⟩
def V12 (l : List GMass) (most : Nat) (i : Int) (acc : List GMass) : List (RV G) := [.rslice .mass l, .ptr 3 0 0 0, .bool true, .ptr 6 0 0 0, .int .i64 (joinE l), .flt most, .int .i64 i, .own 900 .mass acc.length]
def B12 (l : List GMass) (p : GVec) (acc : List GMass) : List (Blk G) := [.cells (encG .vec p), .cells (encG .mass (joinM l)), .rows .mass acc]
theorem step12 (lp : List (Nat × LC G)) (l : List GMass) (p : GVec) (most n : Nat) (i : Int) (acc : List GMass) (K) : iter (EV L12 lp) h12 (lpBody Try.f12 0) (n + 1) (V12 l most i acc) (B12 l p acc) K = bif decide ((0 : Int) ≤ i) then (getI l i).bind fun m =>
    bif decide ((acc ++ [m]).length * 32 ≤ 2 ^ 47) then (getI l i).bind fun m1 => (getI l i).bind fun m2 =>
      iter (EV L12 lp) h12 (lpBody Try.f12 0) n (V12 l (fmax (fmax most (fabs m1.Centre.X)) (fabs m2.Centre.Y)) (IntKind.i64.wrap (i - 1)) (acc ++ [m])) (B12 l p (acc ++ [m])) K else none
  else K (.exit 0) (V12 l most i acc) (B12 l p acc) := by kernel_rfl
def bad12 (m : GMass) (p : GVec) : Bool := ((((!true || (abE m m.Centre != 0)) || !feq (abM m m.Centre) m.Inertia) || !((abE m p == 0) == vwithin p 4787326403894837248)) || (vwithin p 4787326403894837248 && flt (abM m p) (abM m m.Centre)))
def near12 (m n : GMass) (most : Nat) : Bool := (flt m.Mass 4156822456062967808 || flt most 553942754166571008) || ((nearly m.Mass n.Mass m.Mass 4427038433705197568 && nearly m.Centre.X n.Centre.X most 4427038433705197568) && nearly m.Centre.Y n.Centre.Y most 4427038433705197568)
def tail12 (l acc : List GMass) (p : GVec) (most : Nat) (K : RV G → List (Blk G) → List (Blk G) → Ans G) : Ans G :=
  bif (joinE l != 0) || (joinE acc != 0) then K (.bool true) [] [] else bif bad12 (joinM l) p then K (.bool false) [] [] else
    bif (l.length : Int) == 1 then (getI l 0).bind fun m0 => K (.bool (msame (joinM l) m0)) [] [] else K (.bool (near12 (joinM l) (joinM acc) most)) [] []
noncomputable def E12 (l : List GMass) (p : GVec) (most : Nat) (acc : List GMass) : List (Nat × LC G) := [(10, lcOf h12 (V12 l 0 (IntKind.i64.wrap ((l.length : Int) - 1)) []) (B12 l p []) fun K => K (.exit 0) (V12 l most (-1) acc) (B12 l p acc))]
theorem x12 (l : List GMass) (p : GVec) (most : Nat) (acc : List GMass) (K) : xfn (EV L12 (E12 l p most acc)) Try.f12 [] (encs [.l .mass, .s .vec] (l, p, ())) [] K = bif decide ((l.length : Int) > 64) then K (.bool true) [] [] else
    gate (V12 l 0 (IntKind.i64.wrap ((l.length : Int) - 1)) [] = V12 l 0 (IntKind.i64.wrap ((l.length : Int) - 1)) [] ∧ B12 l p [] = B12 l p [])
      (bif (joinE l == 80) && decide ((l.length : Int) > 0) then (getI l 0).bind fun m0 => bif true && (merr m0 != 0) then K (.bool (true && (joinE acc == joinE l))) [] [] else tail12 l acc p most K else tail12 l acc p most K) := by kernel_rfl
theorem x12n (l : List GMass) (p : GVec) (K) : xfn (EV L12 []) Try.f12 [] (encs [.l .mass, .s .vec] (l, p, ())) [] K = bif decide ((l.length : Int) > 64) then K (.bool true) [] [] else none := by kernel_rfl
/-! ### the loop -/
theorem wrap_64 {v : Int} (h0 : -1000 ≤ v) (h1 : v < 9223372036854775807) : IntKind.i64.wrap v = v := by
  rw [IntKind.wrap_i64]; omega
def most1 (a : Nat) (m : GMass) : Nat := fmax (fmax a (fabs m.Centre.X)) (fabs m.Centre.Y)
def mostOf (l : List GMass) : Nat := l.reverse.foldl most1 0
def both1 (s : Nat × List GMass) (m : GMass) : Nat × List GMass := (most1 s.1 m, s.2 ++ [m])
theorem both_fold : ∀ (l : List GMass) (s : Nat × List GMass), l.foldl both1 s = (l.foldl most1 s.1, s.2 ++ l) := by
  intro l
  induction l with
  | nil => intro s; simp
  | cons x r ih => intro s; rw [List.foldl_cons, ih]; simp [both1]
theorem getI_back {l : List GMass} {k : Nat} (h : k < l.reverse.length) : getI l ((l.length : Int) - 1 - (k : Int)) = some (l.reverse.getD k mass0) := by
  rw [List.length_reverse] at h
  rw [show (l.length : Int) - 1 - (k : Int) = ((l.length - 1 - k : Nat) : Int) by omega, getI_at (by omega), List.getD_eq_getElem?_getD, List.getElem?_reverse h, List.getElem?_eq_getElem (by omega)]
  rfl
theorem lp12 (l : List GMass) (p : GVec) (h : l.length ≤ 64) : LpOk (EV L12 (E12 l p (mostOf l) l.reverse)) [] (lpBody Try.f12 0) (lcOf h12 (V12 l 0 (IntKind.i64.wrap ((l.length : Int) - 1)) []) (B12 l p []) fun K => K (.exit 0) (V12 l (mostOf l) (-1) l.reverse) (B12 l p l.reverse)) :=
  lcOf_ok (by kernel_rfl) fun K => ⟨_, by
    have hw : IntKind.i64.wrap ((l.length : Int) - 1) = (l.length : Int) - 1 - ((0 : Nat) : Int) := by rw [wrap_64 (by omega) (by omega)]; omega
    rw [hw]
    refine (fold_loop (N := l.reverse.length) (g := fun s k => both1 s (l.reverse.getD k mass0)) (F := fun n (k : Int) (s : Nat × List GMass) => iter (EV L12 (E12 l p (mostOf l) l.reverse)) h12 (lpBody Try.f12 0) n (V12 l s.1 ((l.length : Int) - 1 - k) s.2) (B12 l p s.2) K)
      (X := fun s => K (.exit 0) (V12 l s.1 (-1) s.2) (B12 l p s.2)) (s0 := (0, [])) (fun k s => s.2.length = k) rfl ?_ ?_ ?_).trans ?_
    · intro n k s hk hs
      have hk' : k < l.length := by rw [List.length_reverse] at hk; exact hk
      rw [step12, decide_eq_true (by omega), cond_true, getI_back hk]
      simp only [Option.bind_some]
      rw [decide_eq_true (by rw [List.length_append, hs, List.length_singleton]; omega), cond_true, wrap_64 (by omega) (by omega), show (l.length : Int) - 1 - (k : Int) - 1 = (l.length : Int) - 1 - ((k + 1 : Nat) : Int) by omega]
      rfl
    · intro k s _ hs
      simp [both1, hs]
    · intro n s hs
      rw [List.length_reverse, step12, decide_eq_false (by omega), cond_false, show (l.length : Int) - 1 - (l.length : Int) = -1 by omega]
    · rw [foldl_range both1 mass0 l.reverse, both_fold]
      rfl⟩
end Go.SX

/- Rounding: a rounded number lies between the floats about it. No statement of the seat is proved here. -/
namespace Go.SX
open Ieee
set_option maxRecDepth 20000
/-! ### cutting digits -/
theorem cut_spec (b : Bool) (n d : Nat) : n / 2 ^ d ≤ Toward.even.cut b n d ∧ Toward.even.cut b n d ≤ n / 2 ^ d + 1 ∧ (n % 2 ^ d = 0 → Toward.even.cut b n d = n / 2 ^ d) := by
  unfold Toward.cut
  by_cases h : d ≤ n.log2 + 2
  · rw [Nat.min_eq_left h]
    simp only [Nat.one_shiftLeft]
    have hb : ∀ c : Bool, c.toNat ≤ 1 := fun c => by cases c <;> decide
    refine ⟨Nat.le_add_right _ _, Nat.add_le_add_left (hb _) _, fun h0 => ?_⟩
    rw [h0]
    have hp : 0 < 2 ^ d := Nat.two_pow_pos d
    have e1 : decide (2 ^ d < 2 * 0) = false := decide_eq_false (by omega)
    have e2 : (2 ^ d == 2 * 0) = false := by simp
    simp only [e1, e2, Bool.false_or, Bool.false_and]
    rfl
  · rw [Nat.min_eq_right (by omega)]
    simp only [Nat.one_shiftLeft]
    have hlt : n < 2 ^ (n.log2 + 1) := Nat.lt_log2_self
    have h2 : 2 ^ (n.log2 + 2) = 2 * 2 ^ (n.log2 + 1) := by rw [Nat.pow_succ]; omega
    have h3 : 2 ^ (n.log2 + 2) ≤ 2 ^ d := Nat.pow_le_pow_right (by decide) (by omega)
    have e0 : n / 2 ^ d = 0 := Nat.div_eq_of_lt (by omega)
    have e1 : n / 2 ^ (n.log2 + 2) = 0 := Nat.div_eq_of_lt (by omega)
    have e2 : n % 2 ^ (n.log2 + 2) = n := Nat.mod_eq_of_lt (by omega)
    rw [e0, e1, e2]
    have e3 : decide (2 ^ (n.log2 + 2) < 2 * n) = false := decide_eq_false (by omega)
    have e4 : (2 ^ (n.log2 + 2) == 2 * n) = false := beq_eq_false_iff_ne.2 (by omega)
    simp only [e3, e4, Bool.false_or, Bool.false_and]
    exact ⟨Nat.le_refl _, by decide, fun _ => rfl⟩
/-! ### rungs -/
theorem mg_at {k c : Nat} (h : k = 0 ∨ 4503599627370496 ≤ c) (hc : c ≤ 9007199254740992) : mg (k * 4503599627370496 + c) = c * 2 ^ k := by
  unfold mg
  rcases Nat.lt_or_ge c 4503599627370496 with g | g
  · have hk : k = 0 := by omega
    subst hk
    rw [if_pos (by omega)]; simp
  · rw [if_neg (by omega)]
    rcases Nat.lt_or_ge c 9007199254740992 with g2 | g2
    · have e1 : (k * 4503599627370496 + c) % 4503599627370496 = c - 4503599627370496 := by omega
      have e2 : (k * 4503599627370496 + c) / 4503599627370496 - 1 = k := by omega
      rw [e1, e2, show 4503599627370496 + (c - 4503599627370496) = c by omega]
    · have e0 : c = 9007199254740992 := by omega
      subst e0
      have e1 : (k * 4503599627370496 + 9007199254740992) % 4503599627370496 = 0 := by omega
      have e2 : (k * 4503599627370496 + 9007199254740992) / 4503599627370496 - 1 = k + 1 := by omega
      rw [e1, e2, Nat.pow_succ]
      omega
theorem mg_le {r s : Nat} (h : r ≤ s) : mg r ≤ mg s := by
  rcases Nat.lt_or_ge r s with g | g
  · exact Nat.le_of_lt (mg_lt g)
  · have : r = s := by omega
    rw [this]; exact Nat.le_refl _
/-! ### the nearest float: between its neighbours -/
/-- The rung that a number 'm * 2^p' is rounded to, infinity not looked at. -/
def lastOf (m : Nat) (p : Int) : Int := max (p + m.log2 - 52) (-1074)
def keptOf (m : Nat) (p : Int) : Nat := Toward.even.cut false (m <<< (p - lastOf m p).toNat) (lastOf m p - p).toNat
def rdOf (m : Nat) (p : Int) : Nat := if m = 0 then 0 else (lastOf m p + 1074).toNat * 4503599627370496 + keptOf m p
theorem nearest_rd (b : Bool) (m : Nat) (p : Int) : double.nearest b m p = double.word b (min (rdOf m p) 9218868437227405312) := by
  unfold Format.nearest rdOf
  by_cases h : m = 0
  · rw [if_pos h, if_pos h]; rfl
  · rw [if_neg h, if_neg h]
    have h1 : double.fractionBits = 52 := rfl
    have h2 : double.leastPlace = -1074 := by decide
    have h3 : double.binade = 4503599627370496 := by decide
    have h4 : double.infRung = 9218868437227405312 := by decide
    rw [h2, h3, h4]
    simp only [h1]
    show double.word b (min ((lastOf m p - -1074).toNat * 4503599627370496 + keptOf m p) 9218868437227405312) = _
    rw [show lastOf m p - -1074 = lastOf m p + 1074 by omega]
/-- The number in units of the least place, as a fraction over a power of two. -/
def numOf (m : Nat) (p : Int) : Nat := m * 2 ^ (p + 1074).toNat
def denOf (p : Int) : Nat := 2 ^ (-(p + 1074)).toNat
theorem denOf_pos (p : Int) : 0 < denOf p := Nat.two_pow_pos _
structure Cutting (m : Nat) (p : Int) (k c f : Nat) : Prop where
  rd : rdOf m p = k * 4503599627370496 + c
  lo : f ≤ c
  hi : c ≤ f + 1
  top : f < 9007199254740992
  bot : k = 0 ∨ 4503599627370496 ≤ f
  floor : f * 2 ^ k * denOf p ≤ numOf m p
  ceil : numOf m p < (f + 1) * 2 ^ k * denOf p
  exact_ : numOf m p = f * 2 ^ k * denOf p → c = f
theorem log2_le {m : Nat} (h : m ≠ 0) : 2 ^ m.log2 ≤ m := Nat.log2_self_le h
theorem cutting {m : Nat} (hm : m ≠ 0) (p : Int) : ∃ k c f, Cutting m p k c f := by
  have hl := log2_le hm
  have hh : m < 2 ^ (m.log2 + 1) := Nat.lt_log2_self
  refine ⟨(lastOf m p + 1074).toNat, keptOf m p, (m <<< (p - lastOf m p).toNat) / 2 ^ (lastOf m p - p).toNat, ?_⟩
  have hlast : -1074 ≤ lastOf m p ∧ p + m.log2 - 52 ≤ lastOf m p ∧ (lastOf m p = -1074 ∨ lastOf m p = p + m.log2 - 52) := by
    unfold lastOf; omega
  obtain ⟨c1, c2, c3⟩ := cut_spec false (m <<< (p - lastOf m p).toNat) (lastOf m p - p).toNat
  have hsh : m <<< (p - lastOf m p).toNat = m * 2 ^ (p - lastOf m p).toNat := Nat.shiftLeft_eq _ _
  rw [hsh] at c1 c2 c3 ⊢
  generalize hL : lastOf m p = L at *
  -- one of the two shifts is nought
  have key : numOf m p * 2 ^ (L - p).toNat = m * 2 ^ (p - L).toNat * (2 ^ (L + 1074).toNat * denOf p) := by
    unfold numOf denOf
    rw [Nat.mul_assoc, Nat.mul_assoc, ← Nat.pow_add, ← Nat.pow_add, ← Nat.pow_add]
    congr 2
    omega
  have hd : 0 < 2 ^ (L - p).toNat := Nat.two_pow_pos _
  have hu : 0 < 2 ^ (L + 1074).toNat * denOf p := Nat.mul_pos (Nat.two_pow_pos _) (denOf_pos p)
  generalize hN : m * 2 ^ (p - L).toNat = N at *
  generalize hD : 2 ^ (L - p).toNat = D at *
  generalize hU : 2 ^ (L + 1074).toNat * denOf p = U at *
  have hdm := Nat.div_add_mod N D
  have hml := Nat.mod_lt N hd
  generalize hF : N / D = F at *
  generalize hR : N % D = R at *
  refine ⟨?_, ?_, ?_, ?_, ?_, ?_, ?_, ?_⟩
  · unfold rdOf; rw [if_neg hm, hL]
  · unfold keptOf; rw [hL, hsh]; exact c1
  · unfold keptOf; rw [hL, hsh]; exact c2
  · -- the digits kept are few
    have : N < 2 ^ 53 * D := by
      rw [← hN, ← hD]
      have e : m * 2 ^ (p - L).toNat < 2 ^ (m.log2 + 1) * 2 ^ (p - L).toNat := Nat.mul_lt_mul_of_pos_right hh (Nat.two_pow_pos _)
      refine Nat.lt_of_lt_of_le e ?_
      rw [← Nat.pow_add, ← Nat.pow_add]
      exact Nat.pow_le_pow_right (by decide) (by omega)
    have : N / D < 2 ^ 53 := (Nat.div_lt_iff_lt_mul hd).2 this
    rw [hF] at this
    exact this
  · by_cases hk : (L + 1074).toNat = 0
    · exact .inl hk
    · right
      have hLe : L = p + m.log2 - 52 := by omega
      have : 2 ^ 52 * D ≤ N := by
        rw [← hN, ← hD]
        refine Nat.le_trans ?_ (Nat.mul_le_mul_right _ hl)
        rw [← Nat.pow_add, ← Nat.pow_add]
        exact Nat.pow_le_pow_right (by decide) (by omega)
      have := (Nat.le_div_iff_mul_le hd).2 this
      rw [hF] at this
      exact this
  · rw [Nat.mul_assoc, hU]
    refine Nat.le_of_mul_le_mul_right (c := D) ?_ hd
    rw [key, ← hdm]
    calc F * U * D = D * F * U := by rw [Nat.mul_comm (F * U) D, ← Nat.mul_assoc]
      _ ≤ (D * F + R) * U := Nat.mul_le_mul_right _ (Nat.le_add_right _ _)
  · rw [Nat.mul_assoc, hU]
    refine Nat.lt_of_mul_lt_mul_right (a := D) ?_
    rw [key, ← hdm]
    calc (D * F + R) * U < (D * F + D) * U := Nat.mul_lt_mul_of_pos_right (by omega) hu
      _ = (F + 1) * U * D := by rw [← Nat.mul_succ, Nat.mul_comm ((F + 1) * U) D, ← Nat.mul_assoc]
  · intro he
    rw [Nat.mul_assoc, hU] at he
    have h0 : R = 0 := by
      rw [he] at key
      rw [← hdm] at key
      have e1 : F * U * D = D * F * U := by rw [Nat.mul_comm (F * U) D, ← Nat.mul_assoc]
      rw [e1, Nat.add_mul] at key
      have : R * U = 0 := by omega
      rcases Nat.mul_eq_zero.1 this with h | h
      · exact h
      · omega
    unfold keptOf
    rw [hL, hsh]
    exact c3 h0
/-- What is at least a float is rounded to no less. -/
theorem rd_ge {m : Nat} {p : Int} {t : Nat} (h : mg t * denOf p ≤ numOf m p) : t ≤ rdOf m p := by
  by_cases hm : m = 0
  · subst hm
    have h0 : numOf 0 p = 0 := by unfold numOf; simp
    rw [h0] at h
    have := denOf_pos p
    have : mg t = 0 := by
      rcases Nat.mul_eq_zero.1 (Nat.le_zero.1 h) with g | g
      · exact g
      · omega
    rw [mg_zero] at this
    omega
  · obtain ⟨k, c, f, hc⟩ := cutting hm p
    rw [hc.rd]
    refine Nat.le_of_not_lt fun hlt => ?_
    have hcc := hc.lo
    have htop := hc.top
    have hbot := hc.bot
    have h1 : mg (k * 4503599627370496 + f + 1) ≤ mg t := mg_le (by omega)
    have h2 : mg (k * 4503599627370496 + (f + 1)) = (f + 1) * 2 ^ k := mg_at (by omega) (by omega)
    rw [Nat.add_assoc, h2] at h1
    have := hc.ceil
    have := Nat.mul_le_mul_right (denOf p) h1
    omega
/-- What is at most a float is rounded to no more. -/
theorem rd_le {m : Nat} {p : Int} {t : Nat} (h : numOf m p ≤ mg t * denOf p) : rdOf m p ≤ t := by
  by_cases hm : m = 0
  · unfold rdOf; rw [if_pos hm]; omega
  · obtain ⟨k, c, f, hc⟩ := cutting hm p
    rw [hc.rd]
    refine Nat.le_of_not_lt fun hlt => ?_
    have hcc := hc.hi
    have hlo := hc.lo
    have htop := hc.top
    have hbot := hc.bot
    have hd := denOf_pos p
    have h1 : mg t ≤ mg (k * 4503599627370496 + f) := mg_le (by omega)
    have h2 : mg (k * 4503599627370496 + f) = f * 2 ^ k := mg_at (by omega) (by omega)
    rw [h2] at h1
    have h3 := Nat.mul_le_mul_right (denOf p) h1
    have h4 := hc.floor
    have h5 : numOf m p = f * 2 ^ k * denOf p := by omega
    have h6 := hc.exact_ h5
    subst h6
    have h7 : mg t < mg (k * 4503599627370496 + c) := mg_lt (by omega)
    rw [h2] at h7
    have := Nat.mul_lt_mul_of_pos_right h7 hd
    omega
end Go.SX

/- Sums and products of floats that are finite; a half. No statement of the seat is proved here. -/
namespace Go.SX
open Ieee
set_option maxRecDepth 20000
def Fin64 (x : Nat) : Prop := rung x < 9218868437227405312
/-- A float that 'a' over 'd' (in units of the least place) is rounded to. -/
structure Rounds (z : Nat) (a : Int) (d : Nat) : Prop where
  is : ∃ (R : Nat) (b : Bool), z = double.word b (min R 9218868437227405312) ∧ (∀ t, mg t * d ≤ a.natAbs → t ≤ R) ∧ (∀ t, a.natAbs ≤ mg t * d → R ≤ t) ∧ (0 < a → b = false) ∧ (a < 0 → b = true)
theorem word_parts (b : Bool) {r : Nat} (h : r ≤ 9218868437227405312) : rung (double.word b r) = r ∧ neg? (double.word b r) = b := by
  unfold Format.word Format.signWeight double rung neg?
  cases b
  · simp; omega
  · simp; omega
theorem Rounds.nan {z : Nat} {a : Int} {d : Nat} (h : Rounds z a d) : isNan z = false := by
  obtain ⟨R, b, rfl, _⟩ := h
  rw [isNan_rung, (word_parts b (Nat.min_le_right _ _)).1, decide_eq_false_iff_not]
  omega
theorem Rounds.le {z : Nat} {a : Int} {d t : Nat} (h : Rounds z a d) (ha : a.natAbs ≤ mg t * d) : rung z ≤ t := by
  obtain ⟨R, b, rfl, _, h2, _⟩ := h
  rw [(word_parts b (Nat.min_le_right _ _)).1]
  have := h2 t ha
  omega
theorem Rounds.ge {z : Nat} {a : Int} {d t : Nat} (h : Rounds z a d) (ht : t ≤ 9218868437227405312) (ha : mg t * d ≤ a.natAbs) : t ≤ rung z := by
  obtain ⟨R, b, rfl, h1, _⟩ := h
  rw [(word_parts b (Nat.min_le_right _ _)).1]
  have := h1 t ha
  omega
theorem Rounds.sign {z : Nat} {a : Int} {d : Nat} (h : Rounds z a d) : (0 < a → neg? z = false) ∧ (a < 0 → neg? z = true) := by
  obtain ⟨R, b, rfl, _, _, h3, h4⟩ := h
  rw [(word_parts b (Nat.min_le_right _ _)).2]
  exact ⟨h3, h4⟩
theorem val_abs (x : Nat) : (val x).natAbs = mg (rung x) := by
  unfold val sg
  cases neg? x <;> simp
theorem fin_nan {x : Nat} (h : Fin64 x) : isNan x = false := by
  unfold Fin64 at h
  rw [isNan_rung, decide_eq_false_iff_not]; omega
/-- A number that is written. -/
theorem writes (b : Bool) (m : Nat) (p : Int) (a : Int) (d : Nat) (hd : 0 < d) (hv : numOf m p * d = a.natAbs * denOf p) (h1 : 0 < a → b = false) (h2 : a < 0 → b = true) : Rounds (double.nearest b m p) a d := by
  have hp := denOf_pos p
  refine ⟨rdOf m p, b, nearest_rd b m p, fun t ht => rd_ge ?_, fun t ht => rd_le ?_, h1, h2⟩
  · refine Nat.le_of_mul_le_mul_right (c := d) ?_ hd
    rw [hv, Nat.mul_right_comm]
    exact Nat.mul_le_mul_right _ ht
  · refine Nat.le_of_mul_le_mul_right (c := d) ?_ hd
    rw [hv, Nat.mul_right_comm]
    exact Nat.mul_le_mul_right _ ht
theorem signed_neg (b : Bool) (m k : Nat) : signed (!b) m k = -signed b m k := by
  unfold signed
  cases b <;> simp
theorem val_read {x : Nat} (h : Fin64 x) : ∃ m k : Nat, FloatKind.f64.format.read x = .number (neg? x) m (-1074 + (k : Int)) ∧ val x = signed (neg? x) m k ∧ mg (rung x) = m * 2 ^ k := by
  obtain ⟨m, k, e, g⟩ := read_fin h
  refine ⟨m, k, e, ?_, g⟩
  rw [signed_sg, ← g]
  rfl
theorem sg_shift (b : Bool) (m k j : Nat) : signed b m (k + j) = signed b m k * ((2 ^ j : Nat) : Int) := by
  rw [signed_sg, signed_sg, Nat.pow_add, ← Nat.mul_assoc, sg_mul]
theorem sum_rounds {s t : Bool} {m n i j : Nat} : ∃ z, ((Datum.number s m (-1074 + (i : Int))).sum (.number t n (-1074 + (j : Int)))).map double.write = some z ∧ Rounds z (signed s m i + signed t n j) 1 := by
  refine ⟨_, rfl, ?_⟩
  have hb : min (-1074 + (i : Int)) (-1074 + (j : Int)) = -1074 + ((min i j : Nat) : Int) := by omega
  simp only [Format.write, hb]
  have e1 : (-1074 + (i : Int) - (-1074 + ((min i j : Nat) : Int))).toNat = i - min i j := by omega
  have e2 : (-1074 + (j : Int) - (-1074 + ((min i j : Nat) : Int))).toNat = j - min i j := by omega
  rw [e1, e2]
  have f1 : signed s m i = signed s m (i - min i j) * ((2 ^ min i j : Nat) : Int) := by rw [← sg_shift]; congr 1; omega
  have f2 : signed t n j = signed t n (j - min i j) * ((2 ^ min i j : Nat) : Int) := by rw [← sg_shift]; congr 1; omega
  rw [f1, f2, ← Int.add_mul]
  generalize signed s m (i - min i j) + signed t n (j - min i j) = T
  have hp : (0 : Int) < ((2 ^ min i j : Nat) : Int) := by exact_mod_cast Nat.two_pow_pos _
  refine writes _ _ _ _ 1 (by decide) ?_ (fun h => ?_) (fun h => ?_)
  · unfold numOf denOf
    have g1 : (-1074 + ((min i j : Nat) : Int) + 1074).toNat = min i j := by omega
    have g2 : (-(-1074 + ((min i j : Nat) : Int) + 1074)).toNat = 0 := by omega
    rw [g1, g2, Int.natAbs_mul, Int.natAbs_natCast]
  · have hT : 0 < T := by
      refine Int.lt_of_not_ge fun hle => ?_
      have := Int.mul_nonpos_of_nonpos_of_nonneg hle (Int.le_of_lt hp)
      omega
    rw [if_neg (by omega), decide_eq_false (by omega)]
  · have hT : T < 0 := by
      refine Int.lt_of_not_ge fun hle => ?_
      have := Int.mul_nonneg hle (Int.le_of_lt hp)
      omega
    rw [if_neg (by omega), decide_eq_true hT]
theorem fadd_rounds {x y : Nat} (hx : Fin64 x) (hy : Fin64 y) : Rounds (fadd x y) (val x + val y) 1 := by
  obtain ⟨m, i, e1, v1, _⟩ := val_read hx
  obtain ⟨n, j, e2, v2, _⟩ := val_read hy
  unfold fadd Format.add
  rw [e1, e2, v1, v2]
  obtain ⟨z, h1, h2⟩ := sum_rounds (s := neg? x) (t := neg? y) (m := m) (n := n) (i := i) (j := j)
  have h1' : Option.map FloatKind.f64.format.write ((Datum.number (neg? x) m (-1074 + (i : Int))).sum (.number (neg? y) n (-1074 + (j : Int)))) = some z := h1
  rw [h1']
  exact h2
theorem fsub_rounds {x y : Nat} (hx : Fin64 x) (hy : Fin64 y) : Rounds (fsub x y) (val x - val y) 1 := by
  obtain ⟨m, i, e1, v1, _⟩ := val_read hx
  obtain ⟨n, j, e2, v2, _⟩ := val_read hy
  unfold fsub Format.sub
  rw [e1, e2, v1, v2]
  obtain ⟨z, h1, h2⟩ := sum_rounds (s := neg? x) (t := !neg? y) (m := m) (n := n) (i := i) (j := j)
  have h1' : Option.map FloatKind.f64.format.write ((Datum.number (neg? x) m (-1074 + (i : Int))).sum (Datum.number (neg? y) n (-1074 + (j : Int))).opposite) = some z := h1
  rw [h1']
  rw [signed_neg] at h2
  exact h2
theorem fmul_rounds {x y : Nat} (hx : Fin64 x) (hy : Fin64 y) : Rounds (fmul x y) (val x * val y) (2 ^ 1074) := by
  obtain ⟨m, i, e1, v1, _⟩ := val_read hx
  obtain ⟨n, j, e2, v2, _⟩ := val_read hy
  unfold fmul Format.mul
  rw [e1, e2, v1, v2]
  show Rounds (double.nearest (neg? x ^^ neg? y) (m * n) (-1074 + (i : Int) + (-1074 + (j : Int)))) _ _
  have hs : ∀ (b : Bool) (a k : Nat), (signed b a k).natAbs = a * 2 ^ k := fun b a k => by
    rw [signed_sg]
    unfold sg
    generalize a * 2 ^ k = w
    cases b <;> simp
  have hpos : ∀ (b : Bool) (a k : Nat), (b = false → 0 ≤ signed b a k) ∧ (b = true → signed b a k ≤ 0) := fun b a k => by
    rw [signed_sg]
    unfold sg
    generalize a * 2 ^ k = w
    cases b <;> simp
  refine writes _ _ _ _ _ (Nat.two_pow_pos _) ?_ (fun h => ?_) (fun h => ?_)
  · rw [Int.natAbs_mul, hs, hs]
    unfold numOf denOf
    have key : m * n * 2 ^ (-1074 + (i : Int) + (-1074 + (j : Int)) + 1074).toNat * 2 ^ 1074 = m * n * (2 ^ (-1074 + (i : Int) + (-1074 + (j : Int)) + 1074).toNat * 2 ^ 1074) := Nat.mul_assoc _ _ _
    rw [key, ← Nat.pow_add]
    have e3 : m * 2 ^ i * (n * 2 ^ j) * 2 ^ (-(-1074 + (i : Int) + (-1074 + (j : Int)) + 1074)).toNat = m * n * (2 ^ i * 2 ^ j * 2 ^ (-(-1074 + (i : Int) + (-1074 + (j : Int)) + 1074)).toNat) := by
      simp only [Nat.mul_assoc, Nat.mul_left_comm, Nat.mul_comm]
    rw [e3, ← Nat.pow_add, ← Nat.pow_add]
    congr 2
    omega
  · obtain ⟨p1, p2⟩ := hpos (neg? x) m i
    obtain ⟨q1, q2⟩ := hpos (neg? y) n j
    cases hx' : neg? x <;> cases hy' : neg? y <;> rw [hx', hy'] at h <;> first | rfl | skip
    · rw [hx'] at p1; rw [hy'] at q2
      have := Int.mul_nonpos_of_nonneg_of_nonpos (p1 rfl) (q2 rfl)
      omega
    · rw [hx'] at p2; rw [hy'] at q1
      have := Int.mul_nonpos_of_nonpos_of_nonneg (p2 rfl) (q1 rfl)
      omega
  · obtain ⟨p1, p2⟩ := hpos (neg? x) m i
    obtain ⟨q1, q2⟩ := hpos (neg? y) n j
    cases hx' : neg? x <;> cases hy' : neg? y <;> rw [hx', hy'] at h <;> first | rfl | skip
    · rw [hx'] at p1; rw [hy'] at q1
      have := Int.mul_nonneg (p1 rfl) (q1 rfl)
      omega
    · rw [hx'] at p2; rw [hy'] at q2
      have := Int.mul_nonneg_of_nonpos_of_nonpos (p2 rfl) (q2 rfl)
      omega
end Go.SX

/- Bounds of what is reckoned with places; a root of a square; a half. No statement of the seat is proved here. -/
namespace Go.SX
open Ieee
set_option maxRecDepth 20000
theorem mg_pow (k : Nat) : mg ((k + 1) * 4503599627370496) = 2 ^ (k + 52) := by
  have := mg_at (k := k) (c := 4503599627370496) (.inr (Nat.le_refl _)) (by decide)
  rw [show (k + 1) * 4503599627370496 = k * 4503599627370496 + 4503599627370496 by omega, this, Nat.pow_add, Nat.mul_comm]
/-- Of at most 2^(k - 1022), without the sign; finite. -/
def Bd (k : Nat) (x : Nat) : Prop := rung x ≤ (k + 1) * 4503599627370496 ∧ k < 2045
theorem Bd.fin {k x : Nat} (h : Bd k x) : Fin64 x := by
  obtain ⟨h1, h2⟩ := h
  unfold Fin64
  omega
theorem Bd.abs {k x : Nat} (h : Bd k x) : (val x).natAbs ≤ 2 ^ (k + 52) := by
  rw [val_abs, ← mg_pow]
  exact mg_le h.1
theorem Bd.sub {k x y : Nat} (hx : Bd k x) (hy : Bd k y) (hk : k + 1 < 2045) : Bd (k + 1) (fsub x y) := by
  refine ⟨(fsub_rounds hx.fin hy.fin).le ?_, hk⟩
  have h1 := hx.abs
  have h2 := hy.abs
  rw [mg_pow, show k + 1 + 52 = (k + 52) + 1 by omega, Nat.pow_succ]
  omega
theorem Bd.add {k x y : Nat} (hx : Bd k x) (hy : Bd k y) (hk : k + 1 < 2045) : Bd (k + 1) (fadd x y) := by
  refine ⟨(fadd_rounds hx.fin hy.fin).le ?_, hk⟩
  have h1 := hx.abs
  have h2 := hy.abs
  rw [mg_pow, show k + 1 + 52 = (k + 52) + 1 by omega, Nat.pow_succ]
  omega
theorem Bd.mul {k j x y : Nat} (hx : Bd k x) (hy : Bd j y) {n : Nat} (hn : k + j + 52 ≤ n + 1074) (hk : n < 2045) : Bd n (fmul x y) := by
  refine ⟨(fmul_rounds hx.fin hy.fin).le ?_, hk⟩
  rw [mg_pow, ← Nat.pow_add, Int.natAbs_mul]
  refine Nat.le_trans (Nat.mul_le_mul hx.abs hy.abs) ?_
  rw [← Nat.pow_add]
  exact Nat.pow_le_pow_right (by decide) (by omega)
theorem within_bd {a : Nat} (h : fwithin a 4787326403894837248 = true) : Bd 1062 a := by
  unfold fwithin at h
  simp only [Bool.and_eq_true] at h
  have n0 : isNan 4787326403894837248 = false := by decide
  have n1 : isNan (fneg 4787326403894837248) = false := by decide
  have na : isNan a = false := by
    cases hn : isNan a with
    | false => rfl
    | true => rw [fle_nan (.inl hn)] at h; cases h.2
  rw [fle_val n1 na, fle_val na n0] at h
  simp only [decide_eq_true_eq] at h
  have v0 : val 4787326403894837248 = (mg 4787326403894837248 : Int) := (val_pos (by decide)).1
  have v1 : val (fneg 4787326403894837248) = -(mg 4787326403894837248 : Int) := (val_neg (r := 4787326403894837248) (by decide)).1
  rw [v0, v1] at h
  have hm : mg (rung a) ≤ mg 4787326403894837248 := by rw [← val_abs]; omega
  refine ⟨?_, by decide⟩
  refine Nat.le_of_not_lt fun hlt => ?_
  have := mg_lt hlt
  have e : (1062 + 1) * 4503599627370496 = 4787326403894837248 := by decide
  rw [e] at this
  omega
structure VBd (k : Nat) (p : GVec) : Prop where
  x : Bd k p.X
  y : Bd k p.Y
theorem vwithin_bd {p : GVec} (h : vwithin p 4787326403894837248 = true) : VBd 1062 p := by
  unfold vwithin at h
  simp only [Bool.and_eq_true] at h
  exact ⟨within_bd h.1, within_bd h.2⟩
theorem VBd.sub {k : Nat} {p q : GVec} (hp : VBd k p) (hq : VBd k q) (hk : k + 1 < 2045) : VBd (k + 1) (vsub p q) := ⟨hp.x.sub hq.x hk, hp.y.sub hq.y hk⟩
theorem VBd.cross {k : Nat} {p q : GVec} (hp : VBd k p) (hq : VBd k q) {n : Nat} (hn : k + k + 52 ≤ n + 1074) (hk : n + 1 < 2045) : Bd (n + 1) (vcross p q) :=
  (hp.x.mul hq.y hn (by omega)).sub (hp.y.mul hq.x hn (by omega)) hk
theorem VBd.dot {k : Nat} {p q : GVec} (hp : VBd k p) (hq : VBd k q) {n : Nat} (hn : k + k + 52 ≤ n + 1074) (hk : n + 1 < 2045) : Bd (n + 1) (vdot p q) :=
  (hp.x.mul hq.x hn (by omega)).add (hp.y.mul hq.y hn (by omega)) hk
/-! ### a root -/
theorem val_nonneg {x : Nat} (h : neg? x = false) : 0 ≤ val x := by
  unfold val sg
  rw [h]
  simp
theorem sq_nonneg {x : Nat} (h : Fin64 x) : 0 ≤ val (fmul x x) := by
  have hr := fmul_rounds h h
  rcases Int.lt_trichotomy (val x) 0 with g | g | g
  · exact val_nonneg (hr.sign.1 (Int.mul_pos_of_neg_of_neg g g))
  · have h0 : rung (fmul x x) ≤ 0 := hr.le (by rw [g]; simp)
    have h1 : rung (fmul x x) = 0 := by omega
    have : (val (fmul x x)).natAbs = 0 := by rw [val_abs, h1]; rfl
    omega
  · exact val_nonneg (hr.sign.1 (Int.mul_pos g g))
theorem nearest_nan (b : Bool) (m : Nat) (p : Int) : isNan (double.nearest b m p) = false := by
  rw [nearest_rd, isNan_rung, (word_parts b (Nat.min_le_right _ _)).1, decide_eq_false_iff_not]
  omega
theorem sqrt_nan {x : Nat} (h : Fin64 x) (h0 : 0 ≤ val x) : isNan ((FloatKind.f64.format.sqrt x).getD qnan) = false := by
  obtain ⟨m, k, e, v, _⟩ := val_read h
  unfold Format.sqrt
  rw [e]
  simp only [Datum.root]
  split
  · exact nearest_nan _ _ _
  · rename_i hm
    split
    · rename_i hs
      rw [hs, signed_sg] at v
      have hp : 0 < m * 2 ^ k := Nat.mul_pos (by omega) (Nat.two_pow_pos _)
      unfold sg at v
      rw [v] at h0
      simp only [if_true] at h0
      omega
    · exact nearest_nan _ _ _
theorem vlen_nan {k : Nat} {p : GVec} (hp : VBd k p) {n : Nat} (hn : k + k + 52 ≤ n + 1074) (hk : n + 1 < 2045) : isNan (vlen p) = false := by
  have h1 := hp.x.mul hp.x hn (by omega)
  have h2 := hp.y.mul hp.y hn (by omega)
  have hf : Fin64 (vsq p) := (hp.dot hp hn hk).fin
  refine sqrt_nan hf ?_
  have g1 := sq_nonneg hp.x.fin
  have g2 := sq_nonneg hp.y.fin
  have hr := fadd_rounds h1.fin h2.fin
  rcases Int.lt_or_le 0 (val (fmul p.X p.X) + val (fmul p.Y p.Y)) with g | g
  · exact val_nonneg (hr.sign.1 g)
  · have e : val (fmul p.X p.X) + val (fmul p.Y p.Y) = 0 := by omega
    have h0 : rung (fadd (fmul p.X p.X) (fmul p.Y p.Y)) ≤ 0 := hr.le (by rw [e]; simp)
    have h3 : rung (fadd (fmul p.X p.X) (fmul p.Y p.Y)) = 0 := by omega
    have : (val (fadd (fmul p.X p.X) (fmul p.Y p.Y))).natAbs = 0 := by rw [val_abs, h3]; rfl
    show 0 ≤ val (fadd (fmul p.X p.X) (fmul p.Y p.Y))
    omega
/-- Orders of floats that are numbers. -/
theorem flt_not_fle {x y : Nat} (hx : isNan x = false) (hy : isNan y = false) : flt x y = !fle y x := by
  rw [flt_val hx hy, fle_val hy hx, Bool.eq_iff_iff]
  simp
/-! ### a half -/
theorem cut_shift (b : Bool) (n d j : Nat) (hn : n ≠ 0) : Toward.even.cut b (n * 2 ^ j) (d + j) = Toward.even.cut b n d := by
  unfold Toward.cut
  have hl : (n * 2 ^ j).log2 = n.log2 + j := by
    have h1 := Nat.log2_self_le hn
    have h2 : n < 2 ^ (n.log2 + 1) := Nat.lt_log2_self
    have hne : n * 2 ^ j ≠ 0 := Nat.mul_ne_zero hn (Nat.ne_of_gt (Nat.two_pow_pos j))
    have a1 : 2 ^ (n.log2 + j) ≤ n * 2 ^ j := by rw [Nat.pow_add]; exact Nat.mul_le_mul_right _ h1
    have a2 : n * 2 ^ j < 2 ^ (n.log2 + j + 1) := by
      rw [show n.log2 + j + 1 = (n.log2 + 1) + j by omega, Nat.pow_add]
      exact Nat.mul_lt_mul_of_pos_right h2 (Nat.two_pow_pos j)
    have b1 : n.log2 + j ≤ (n * 2 ^ j).log2 := (Nat.le_log2 hne).2 a1
    have b2 : (n * 2 ^ j).log2 < n.log2 + j + 1 := (Nat.log2_lt hne).2 a2
    omega
  rw [hl, show min (d + j) (n.log2 + j + 2) = min d (n.log2 + 2) + j by omega]
  simp only [Nat.one_shiftLeft, Nat.pow_add]
  generalize 2 ^ min d (n.log2 + 2) = g
  have hj : 0 < 2 ^ j := Nat.two_pow_pos j
  generalize 2 ^ j = q at hj
  rw [Nat.mul_div_mul_right _ _ hj, Nat.mul_mod_mul_right]
  have c1 : decide (g * q < 2 * (n % g * q)) = decide (g < 2 * (n % g)) := by
    rw [Bool.eq_iff_iff, decide_eq_true_eq, decide_eq_true_eq, ← Nat.mul_assoc]
    exact Nat.mul_lt_mul_right hj
  have c2 : (g * q == 2 * (n % g * q)) = (g == 2 * (n % g)) := by
    rw [Bool.eq_iff_iff, beq_iff_eq, beq_iff_eq, ← Nat.mul_assoc]
    exact Nat.mul_right_cancel_iff hj
  rw [c1, c2]
theorem log2_shift {n : Nat} (hn : n ≠ 0) (j : Nat) : (n * 2 ^ j).log2 = n.log2 + j := by
  have h1 := Nat.log2_self_le hn
  have h2 : n < 2 ^ (n.log2 + 1) := Nat.lt_log2_self
  have hne : n * 2 ^ j ≠ 0 := Nat.mul_ne_zero hn (Nat.ne_of_gt (Nat.two_pow_pos j))
  have a1 : 2 ^ (n.log2 + j) ≤ n * 2 ^ j := by rw [Nat.pow_add]; exact Nat.mul_le_mul_right _ h1
  have a2 : n * 2 ^ j < 2 ^ (n.log2 + j + 1) := by
    rw [show n.log2 + j + 1 = (n.log2 + 1) + j by omega, Nat.pow_add]
    exact Nat.mul_lt_mul_of_pos_right h2 (Nat.two_pow_pos j)
  have b1 : n.log2 + j ≤ (n * 2 ^ j).log2 := (Nat.le_log2 hne).2 a1
  have b2 : (n * 2 ^ j).log2 < n.log2 + j + 1 := (Nat.log2_lt hne).2 a2
  omega
theorem rd_shift (m j : Nat) (p : Int) : rdOf (m * 2 ^ j) p = rdOf m (p + (j : Int)) := by
  by_cases hm : m = 0
  · subst hm; unfold rdOf; simp
  have hne : m * 2 ^ j ≠ 0 := Nat.mul_ne_zero hm (Nat.ne_of_gt (Nat.two_pow_pos j))
  have hl := log2_shift hm j
  have hL : lastOf (m * 2 ^ j) p = lastOf m (p + (j : Int)) := by unfold lastOf; rw [hl]; omega
  unfold rdOf
  rw [if_neg hm, if_neg hne, hL]
  congr 1
  unfold keptOf
  rw [hL]
  generalize lastOf m (p + (j : Int)) = L
  rw [Nat.shiftLeft_eq, Nat.shiftLeft_eq]
  by_cases h1 : L ≤ p
  · have e1 : (L - p).toNat = 0 := by omega
    have e2 : (L - (p + (j : Int))).toNat = 0 := by omega
    rw [e1, e2, Nat.mul_assoc, ← Nat.pow_add]
    congr 2
    congr 1
    omega
  · by_cases h2 : p + (j : Int) ≤ L
    · have e1 : (p - L).toNat = 0 := by omega
      have e2 : (p + (j : Int) - L).toNat = 0 := by omega
      rw [e1, e2, Nat.pow_zero, Nat.mul_one, Nat.mul_one, show (L - p).toNat = (L - (p + (j : Int))).toNat + j by omega]
      exact cut_shift _ _ _ _ hm
    · have e1 : (p - L).toNat = 0 := by omega
      have e2 : (L - (p + (j : Int))).toNat = 0 := by omega
      rw [e1, e2, Nat.pow_zero, Nat.mul_one]
      have hne2 : m * 2 ^ (p + (j : Int) - L).toNat ≠ 0 := Nat.mul_ne_zero hm (Nat.ne_of_gt (Nat.two_pow_pos _))
      have := cut_shift false (m * 2 ^ (p + (j : Int) - L).toNat) 0 (L - p).toNat hne2
      rw [← this, Nat.zero_add, Nat.mul_assoc, ← Nat.pow_add]
      congr 3
      omega
theorem nearest_shift (b : Bool) (m j : Nat) (p q : Int) (h : q = p + (j : Int)) : double.nearest b (m * 2 ^ j) p = double.nearest b m q := by
  subst h
  rw [nearest_rd, nearest_rd, rd_shift]
theorem half_nearest (b : Bool) (m : Nat) (p : Int) (hm : m ≠ 0) (hl : m.log2 ≤ 54) (c : Nat) (hc : c = 2 ^ 52) :
    double.nearest b (2 * (m <<< (106 - m.log2) / c) + (m <<< (106 - m.log2) % c != 0).toNat) (p - -51 - ((106 - m.log2 : Nat) : Int) - 1) = double.nearest b (m * c) (p + -53) := by
  have hpc : 0 < c := by rw [hc]; exact Nat.two_pow_pos _
  have hsh : m <<< (106 - m.log2) = m * 2 ^ (54 - m.log2) * c := by
    rw [Nat.shiftLeft_eq, show 106 - m.log2 = (54 - m.log2) + 52 by omega, Nat.pow_add, ← Nat.mul_assoc, hc]
  rw [hsh, Nat.mul_div_cancel _ hpc, Nat.mul_mod_left]
  have hz : ((0 : Nat) != 0).toNat = 0 := rfl
  rw [hz, Nat.add_zero]
  have h1 : 2 * (m * 2 ^ (54 - m.log2)) = m * 2 ^ (55 - m.log2) := by
    rw [show 55 - m.log2 = (54 - m.log2) + 1 by omega, Nat.pow_succ, Nat.mul_comm 2, Nat.mul_assoc]
  rw [h1, hc, nearest_shift b m (55 - m.log2) _ (p - 1) (by omega), nearest_shift b m 52 _ (p - 1) (by omega)]
theorem nearest_nought (b : Bool) (p : Int) : double.nearest b 0 p = double.word b 0 := by unfold Format.nearest; rw [if_pos rfl]
theorem half_nought (b : Bool) (k : Nat) (p q : Int) (c : Nat) : double.nearest b (2 * (0 <<< k / c) + (0 <<< k % c != 0).toNat) p = double.nearest b (0 * c) q := by
  have h0 : 2 * (0 <<< k / c) + (0 <<< k % c != 0).toNat = 0 := by simp
  rw [h0, Nat.zero_mul, nearest_nought, nearest_nought]
theorem log2_53 {m : Nat} (hm : m ≠ 0) (h : m < 2 ^ 53) : m.log2 ≤ 54 := by
  have := (Nat.log2_lt hm).2 h
  omega
theorem read_few {x m : Nat} {b : Bool} {p : Int} (h : FloatKind.f64.format.read x = .number b m p) : m < 2 ^ 53 := by
  rw [read_eq] at h
  split at h
  · injection h with _ h2 _
    rw [← h2]
    exact Nat.lt_of_lt_of_le (by assumption) (by decide)
  · split at h
    · injection h with _ h2 _
      rw [← h2, show 2 ^ 53 = 4503599627370496 + 4503599627370496 by decide]
      exact Nat.add_lt_add_left (Nat.mod_lt _ (by decide)) _
    · split at h <;> cases h
def divD (a b : Datum) : Nat := ((a.quotient 54 b).map double.write).getD qnan
def mulD (a b : Datum) : Nat := ((a.product b).map double.write).getD qnan
theorem fdiv_D (x y : Nat) : fdiv x y = divD (FloatKind.f64.format.read x) (FloatKind.f64.format.read y) := rfl
theorem fmul_D (x y : Nat) : fmul x y = mulD (FloatKind.f64.format.read x) (FloatKind.f64.format.read y) := rfl
theorem half_D (s : Bool) (m : Nat) (p : Int) (h : m < 2 ^ 53) (c : Nat) (hc : c = 2 ^ 52) (hl : c.log2 = 52) : divD (.number s m p) (.number false c (-51)) = mulD (.number s m p) (.number false c (-53)) := by
  have h0 : c ≠ 0 := by
    intro e
    have : 0 < c := by rw [hc]; exact Nat.two_pow_pos _
    omega
  unfold divD mulD
  simp only [Datum.quotient, Datum.product, if_neg h0, Option.map_some, Option.getD_some, Format.write, hl]
  by_cases hm : m = 0
  · rw [hm]; exact half_nought _ _ _ _ _
  · exact half_nearest _ m p hm (log2_53 hm h) c hc
theorem fdiv_two {x : Nat} (hx : Fin64 x) : fdiv x 4611686018427387904 = fmul x 4602678819172646912 := by
  obtain ⟨m, k, e, _⟩ := val_read hx
  have e2 : FloatKind.f64.format.read 4611686018427387904 = .number false 4503599627370496 (-51) := by decide
  have e3 : FloatKind.f64.format.read 4602678819172646912 = .number false 4503599627370496 (-53) := by decide
  rw [fdiv_D, fmul_D, e2, e3, e]
  exact half_D _ _ _ (read_few e) _ (by decide) (by decide)
end Go.SX

/- Floats as numbers; how far what is reckoned lies from what is meant. No statement of the seat is proved here. -/
namespace Go.SX
open Ieee
set_option maxRecDepth 20000
theorem mg_step (t : Nat) : mg (t + 1) = mg t + 1 ∨ mg (t + 1) * 4503599627370496 ≤ mg t * 4503599627370497 := by
  rcases Nat.lt_or_ge t 4503599627370496 with h | h
  · left
    have h1 : mg (0 * 4503599627370496 + t) = t * 2 ^ 0 := mg_at (.inl rfl) (by omega)
    have h2 : mg (0 * 4503599627370496 + (t + 1)) = (t + 1) * 2 ^ 0 := mg_at (.inl rfl) (by omega)
    simp only [Nat.zero_mul, Nat.zero_add, Nat.pow_zero, Nat.mul_one] at h1 h2
    rw [h1, h2]
  · right
    have h1 : mg ((t / 4503599627370496 - 1) * 4503599627370496 + (4503599627370496 + t % 4503599627370496)) = (4503599627370496 + t % 4503599627370496) * 2 ^ (t / 4503599627370496 - 1) := mg_at (.inr (by omega)) (by omega)
    have h2 : mg ((t / 4503599627370496 - 1) * 4503599627370496 + (4503599627370496 + t % 4503599627370496 + 1)) = (4503599627370496 + t % 4503599627370496 + 1) * 2 ^ (t / 4503599627370496 - 1) := mg_at (.inr (by omega)) (by omega)
    rw [show (t / 4503599627370496 - 1) * 4503599627370496 + (4503599627370496 + t % 4503599627370496) = t by omega] at h1
    rw [show (t / 4503599627370496 - 1) * 4503599627370496 + (4503599627370496 + t % 4503599627370496 + 1) = t + 1 by omega] at h2
    rw [h1, h2]
    generalize 2 ^ (t / 4503599627370496 - 1) = q
    rw [Nat.mul_right_comm, Nat.mul_right_comm _ q]
    refine Nat.mul_le_mul_right q ?_
    omega
theorem Rounds.fin_parts {z : Nat} {a : Int} {d : Nat} (h : Rounds z a d) (hz : Fin64 z) (hd : 0 < d) :
    (0 ≤ a → val z = (mg (rung z) : Int)) ∧ (a ≤ 0 → val z = -(mg (rung z) : Int)) ∧ (∀ t, mg t * d ≤ a.natAbs → t ≤ rung z) ∧ (∀ t, a.natAbs ≤ mg t * d → rung z ≤ t) := by
  obtain ⟨R, b, rfl, h1, h2, h3, h4⟩ := h
  obtain ⟨p1, p2⟩ := word_parts b (Nat.min_le_right R 9218868437227405312)
  unfold Fin64 at hz
  rw [p1] at hz ⊢
  have hR : min R 9218868437227405312 = R := by omega
  rw [hR] at p1 p2 ⊢
  have h0 : a = 0 → mg R = 0 := fun e => by
    have : R ≤ 0 := h2 0 (by rw [e]; simp)
    have : R = 0 := by omega
    rw [this]; rfl
  refine ⟨fun ha => ?_, fun ha => ?_, h1, h2⟩
  · unfold val
    rw [p1, p2]
    rcases Int.lt_or_eq_of_le ha with g | g
    · rw [h3 g]; rfl
    · rw [h0 g.symm]; cases b <;> rfl
  · unfold val
    rw [p1, p2]
    rcases Int.lt_or_eq_of_le ha with g | g
    · rw [h4 g]; rfl
    · rw [h0 g]; cases b <;> rfl
theorem scale_le {a b L M d : Nat} (h : a * L ≤ b * M) : a * d * L ≤ b * d * M := by
  rw [Nat.mul_right_comm, Nat.mul_right_comm b]
  exact Nat.mul_le_mul_right d h
/-- How far a rounded number lies from what was rounded. -/
theorem Rounds.near {z : Nat} {a : Int} {d : Nat} (h : Rounds z a d) (hz : Fin64 z) (hd : 0 < d) :
    (mg (rung z) * d : Nat) * 4503599627370496 ≤ a.natAbs * 4503599627370496 + (a.natAbs + d * 4503599627370496) ∧ a.natAbs * 4503599627370496 ≤ (mg (rung z) * d : Nat) * 4503599627370496 + (a.natAbs + d * 4503599627370496) := by
  obtain ⟨_, _, h1, h2⟩ := h.fin_parts hz hd
  generalize rung z = R at *
  generalize a.natAbs = A at *
  constructor
  · by_cases g : mg R * d ≤ A
    · omega
    · have hR : R ≠ 0 := fun e => g (by rw [e, show mg 0 = 0 from rfl, Nat.zero_mul]; exact Nat.zero_le _)
      obtain ⟨t, rfl⟩ := Nat.exists_eq_succ_of_ne_zero hR
      have hlt : mg t * d < A := Nat.lt_of_not_le fun e => by have := h2 t e; omega
      rcases mg_step t with e | e
      · rw [Nat.succ_eq_add_one, e, Nat.add_mul]; omega
      · have := scale_le (d := d) e
        rw [Nat.succ_eq_add_one]
        lia
  · by_cases g : A ≤ mg R * d
    · omega
    · have hlt : A < mg (R + 1) * d := Nat.lt_of_not_le fun e => by have := h1 (R + 1) e; omega
      rcases mg_step R with e | e
      · rw [e, Nat.add_mul] at hlt; omega
      · have := scale_le (d := d) e
        lia
/-- Of a whole number of least places. -/
theorem Rounds.near1 {z : Nat} {a : Int} (h : Rounds z a 1) (hz : Fin64 z) :
    mg (rung z) * 4503599627370496 ≤ a.natAbs * 4503599627370497 ∧ a.natAbs * 4503599627370496 ≤ mg (rung z) * 4503599627370496 + a.natAbs := by
  obtain ⟨_, _, h1, h2⟩ := h.fin_parts hz Nat.one_pos
  generalize rung z = R at *
  generalize a.natAbs = A at *
  constructor
  · by_cases g : mg R ≤ A
    · omega
    · have hR : R ≠ 0 := fun e => g (by rw [e, show mg 0 = 0 from rfl]; exact Nat.zero_le _)
      obtain ⟨t, rfl⟩ := Nat.exists_eq_succ_of_ne_zero hR
      have hlt : mg t * 1 < A := Nat.lt_of_not_le fun e => by have := h2 t e; omega
      rcases mg_step t with e | e
      · rw [Nat.succ_eq_add_one, e] at g; omega
      · rw [Nat.succ_eq_add_one]
        lia
  · by_cases g : A ≤ mg R
    · omega
    · have hlt : A < mg (R + 1) * 1 := Nat.lt_of_not_le fun e => by have := h1 (R + 1) e; omega
      rcases mg_step R with e | e
      · omega
      · lia
/-! ### in numbers -/
/-- How many least places are in 1. -/
def TT : Rat := ((2 ^ 1074 : Nat) : Rat)
theorem TT_pos : 0 < TT := by
  unfold TT
  have : 0 < 2 ^ 1074 := Nat.two_pow_pos _
  exact_mod_cast this
def rv (x : Nat) : Rat := (val x : Rat) / TT
/-- A part that rounding may take; the least float. -/
def ep : Rat := 1 / 4503599627370496
def ta : Rat := 1 / TT
theorem TT_ne : TT ≠ 0 := by have := TT_pos; grind
theorem ta_T : ta * TT = 1 := by unfold ta; have := TT_ne; grind
theorem ep_E : ep * 4503599627370496 = 1 := by unfold ep; grind
theorem ep_pos : 0 < ep := by unfold ep; grind
theorem ta_pos : 0 < ta := by
  have h := ta_T
  have := TT_pos
  refine Rat.lt_of_mul_lt_mul_right (c := TT) ?_ (Rat.le_of_lt this)
  grind
theorem val_rv (x : Nat) : (val x : Rat) = rv x * TT := by unfold rv; have := TT_ne; grind
theorem cancel_le {a b W : Rat} (hW : 0 < W) (h : a * W ≤ b * W) : a ≤ b := Rat.le_of_mul_le_mul_right h hW
theorem key_up {D A M t : Rat} (u : D * 4503599627370496 ≤ A) (v : A ≤ M + t * 4503599627370496) : D ≤ M * ep + t := by unfold ep; grind
theorem key_dn {D A M t : Rat} (u : -A ≤ D * 4503599627370496) (v : A ≤ M + t * 4503599627370496) : -(M * ep + t) ≤ D := by unfold ep; grind
theorem w_up {R Q T d t : Rat} (ht : t * T = 1) (h : (R * T * d - Q * T * d) * 4503599627370496 ≤ Q * T * d + d * 4503599627370496) : (R - Q) * 4503599627370496 * (T * d) ≤ (Q + t * 4503599627370496) * (T * d) := by
  have e : t * T * d = d := by rw [ht, Rat.one_mul]
  clear ht
  grind
theorem w_dn {R Q T d t : Rat} (ht : t * T = 1) (h : (Q * T * d - R * T * d) * 4503599627370496 ≤ Q * T * d + d * 4503599627370496) : -(Q + t * 4503599627370496) * (T * d) ≤ (R - Q) * 4503599627370496 * (T * d) := by
  have e : t * T * d = d := by rw [ht, Rat.one_mul]
  clear ht
  grind
theorem w_up' {R Q T d t : Rat} (ht : t * T = 1) (h : (R * T * d - Q * T * d) * 4503599627370496 ≤ -(Q * T * d) + d * 4503599627370496) : (R - Q) * 4503599627370496 * (T * d) ≤ (-Q + t * 4503599627370496) * (T * d) := by
  have e : t * T * d = d := by rw [ht, Rat.one_mul]
  clear ht
  grind
theorem w_dn' {R Q T d t : Rat} (ht : t * T = 1) (h : (Q * T * d - R * T * d) * 4503599627370496 ≤ -(Q * T * d) + d * 4503599627370496) : -(-Q + t * 4503599627370496) * (T * d) ≤ (R - Q) * 4503599627370496 * (T * d) := by
  have e : t * T * d = d := by rw [ht, Rat.one_mul]
  clear ht
  grind
theorem cast_n {x A d E : Nat} (h : x * d * E ≤ A * E + (A + d * E)) : ((x : Int) * d) * E ≤ A * E + (A + d * E) := by exact_mod_cast h
theorem cast_m {x A d E : Nat} (h : A * E ≤ x * d * E + (A + d * E)) : (A : Int) * E ≤ ((x : Int) * d) * E + (A + d * E) := by exact_mod_cast h
theorem cast_q {u v : Int} {d E : Nat} (h : u * E ≤ v + d * E) : (u : Rat) * (E : Rat) ≤ (v : Rat) + (d : Rat) * (E : Rat) := by exact_mod_cast h
theorem lit_E : ((4503599627370496 : Nat) : Rat) = 4503599627370496 := rfl
theorem lit_I : ((4503599627370496 : Nat) : Int) = 4503599627370496 := rfl
theorem near_int {v a : Int} {x d : Nat} (h0 : 0 ≤ a → v = (x : Int)) (h0' : a ≤ 0 → v = -(x : Int)) (n1 : x * d * 4503599627370496 ≤ a.natAbs * 4503599627370496 + (a.natAbs + d * 4503599627370496)) (n2 : a.natAbs * 4503599627370496 ≤ x * d * 4503599627370496 + (a.natAbs + d * 4503599627370496)) :
    (v * d - a) * (4503599627370496 : Nat) ≤ (a.natAbs : Int) + d * (4503599627370496 : Nat) ∧ (a - v * d) * (4503599627370496 : Nat) ≤ (a.natAbs : Int) + d * (4503599627370496 : Nat) := by
  have m1 := cast_n n1
  have m2 := cast_m n2
  rw [lit_I] at m1 m2 ⊢
  rcases Int.le_total 0 a with g | g
  · rw [h0 g]
    have e : (a.natAbs : Int) = a := Int.natAbs_of_nonneg g
    rw [e] at m1 m2 ⊢
    generalize (x : Int) * d = y at *
    constructor <;> lia
  · rw [h0' g, Int.neg_mul]
    have e : (a.natAbs : Int) = -a := Int.ofNat_natAbs_of_nonpos g
    rw [e] at m1 m2 ⊢
    generalize (x : Int) * d = y at *
    constructor <;> lia
theorem Rounds.rat {z : Nat} {a : Int} {d : Nat} (h : Rounds z a d) (hz : Fin64 z) (hd : 0 < d) {Q M : Rat} (hQ : Q * TT * (d : Rat) = (a : Rat)) (h1 : -M ≤ Q) (h2 : Q ≤ M) :
    rv z - Q ≤ M * ep + ta ∧ -(M * ep + ta) ≤ rv z - Q := by
  obtain ⟨p1, p2, _, _⟩ := h.fin_parts hz hd
  obtain ⟨n1, n2⟩ := h.near hz hd
  have hdq : (0 : Rat) < (d : Rat) := by exact_mod_cast hd
  have hW : 0 < TT * (d : Rat) := Rat.mul_pos TT_pos hdq
  have ht := ta_T
  have hv := val_rv z
  obtain ⟨i1, i2⟩ := near_int p1 p2 n1 n2
  have q1 := cast_q i1
  have q2 := cast_q i2
  rw [lit_E, Rat.intCast_sub, Rat.intCast_mul, Rat.intCast_natCast, hv, ← hQ] at q1 q2
  have h3 : -Q ≤ M := by clear hQ p1 p2 n1 n2 q1 q2 i1 i2; grind
  rcases Int.le_total 0 a with g | g
  · have e : (a.natAbs : Int) = a := Int.natAbs_of_nonneg g
    rw [e, ← hQ] at q1 q2
    exact ⟨key_up (cancel_le hW (w_up ht q1)) (Rat.add_le_add_right.2 h2), key_dn (cancel_le hW (w_dn ht q2)) (Rat.add_le_add_right.2 h2)⟩
  · have e : (a.natAbs : Int) = -a := Int.ofNat_natAbs_of_nonpos g
    rw [e, Rat.intCast_neg, ← hQ] at q1 q2
    exact ⟨key_up (cancel_le hW (w_up' ht q1)) (Rat.add_le_add_right.2 h3), key_dn (cancel_le hW (w_dn' ht q2)) (Rat.add_le_add_right.2 h3)⟩
theorem cast_n1 {x A E : Nat} (h : x * E ≤ A * (E + 1)) : (x : Int) * E ≤ (A : Int) * (E + 1) := by exact_mod_cast h
theorem cast_m1 {x A E : Nat} (h : A * E ≤ x * E + A) : (A : Int) * E ≤ (x : Int) * E + A := by exact_mod_cast h
theorem cast_q1 {u v : Int} {E : Nat} (h : u * E ≤ v) : (u : Rat) * (E : Rat) ≤ (v : Rat) := by exact_mod_cast h
theorem near_int1 {v a : Int} {x : Nat} (h0 : 0 ≤ a → v = (x : Int)) (h0' : a ≤ 0 → v = -(x : Int)) (n1 : x * 4503599627370496 ≤ a.natAbs * 4503599627370497) (n2 : a.natAbs * 4503599627370496 ≤ x * 4503599627370496 + a.natAbs) :
    (v - a) * (4503599627370496 : Nat) ≤ (a.natAbs : Int) ∧ (a - v) * (4503599627370496 : Nat) ≤ (a.natAbs : Int) := by
  have m1 := cast_n1 (E := 4503599627370496) n1
  have m2 := cast_m1 n2
  rw [lit_I] at m1 m2 ⊢
  rcases Int.le_total 0 a with g | g
  · rw [h0 g]
    have e : (a.natAbs : Int) = a := Int.natAbs_of_nonneg g
    rw [e] at m1 m2 ⊢
    generalize (x : Int) = y at *
    constructor <;> lia
  · rw [h0' g]
    have e : (a.natAbs : Int) = -a := Int.ofNat_natAbs_of_nonpos g
    rw [e] at m1 m2 ⊢
    generalize (x : Int) = y at *
    constructor <;> lia
theorem key1_up {D A M : Rat} (u : D * 4503599627370496 ≤ A) (v : A ≤ M) : D ≤ M * ep := by unfold ep; grind
theorem key1_dn {D A M : Rat} (u : -A ≤ D * 4503599627370496) (v : A ≤ M) : -(M * ep) ≤ D := by unfold ep; grind
theorem v_up {R Q T : Rat} (h : (R * T - Q * T) * 4503599627370496 ≤ Q * T) : (R - Q) * 4503599627370496 * T ≤ Q * T := by grind
theorem v_dn {R Q T : Rat} (h : (Q * T - R * T) * 4503599627370496 ≤ Q * T) : -Q * T ≤ (R - Q) * 4503599627370496 * T := by grind
theorem v_up' {R Q T : Rat} (h : (R * T - Q * T) * 4503599627370496 ≤ -(Q * T)) : (R - Q) * 4503599627370496 * T ≤ -Q * T := by grind
theorem v_dn' {R Q T : Rat} (h : (Q * T - R * T) * 4503599627370496 ≤ -(Q * T)) : -(-Q) * T ≤ (R - Q) * 4503599627370496 * T := by grind
theorem Rounds.rat1 {z : Nat} {a : Int} (h : Rounds z a 1) (hz : Fin64 z) {Q M : Rat} (hQ : Q * TT = (a : Rat)) (h1 : -M ≤ Q) (h2 : Q ≤ M) :
    rv z - Q ≤ M * ep ∧ -(M * ep) ≤ rv z - Q := by
  obtain ⟨p1, p2, _, _⟩ := h.fin_parts hz Nat.one_pos
  obtain ⟨n1, n2⟩ := h.near1 hz
  have hv := val_rv z
  obtain ⟨i1, i2⟩ := near_int1 p1 p2 n1 n2
  have q1 := cast_q1 i1
  have q2 := cast_q1 i2
  rw [lit_E, Rat.intCast_sub, hv, ← hQ] at q1 q2
  have h3 : -Q ≤ M := by clear hQ p1 p2 n1 n2 q1 q2 i1 i2; grind
  rcases Int.le_total 0 a with g | g
  · have e : (a.natAbs : Int) = a := Int.natAbs_of_nonneg g
    rw [e, ← hQ] at q1 q2
    exact ⟨key1_up (cancel_le TT_pos (v_up q1)) h2, key1_dn (cancel_le TT_pos (v_dn q2)) h2⟩
  · have e : (a.natAbs : Int) = -a := Int.ofNat_natAbs_of_nonpos g
    rw [e, Rat.intCast_neg, ← hQ] at q1 q2
    exact ⟨key1_up (cancel_le TT_pos (v_up' q1)) h3, key1_dn (cancel_le TT_pos (v_dn' q2)) h3⟩
theorem add_err {x y : Nat} {M : Rat} (hx : Fin64 x) (hy : Fin64 y) (hz : Fin64 (fadd x y)) (h1 : -M ≤ rv x + rv y) (h2 : rv x + rv y ≤ M) :
    rv (fadd x y) - (rv x + rv y) ≤ M * ep ∧ -(M * ep) ≤ rv (fadd x y) - (rv x + rv y) :=
  (fadd_rounds hx hy).rat1 hz (by rw [Rat.intCast_add, val_rv, val_rv, Rat.add_mul]) h1 h2
theorem sub_err {x y : Nat} {M : Rat} (hx : Fin64 x) (hy : Fin64 y) (hz : Fin64 (fsub x y)) (h1 : -M ≤ rv x - rv y) (h2 : rv x - rv y ≤ M) :
    rv (fsub x y) - (rv x - rv y) ≤ M * ep ∧ -(M * ep) ≤ rv (fsub x y) - (rv x - rv y) :=
  (fsub_rounds hx hy).rat1 hz (by rw [Rat.intCast_sub, val_rv, val_rv]; grind) h1 h2
theorem mul_err {x y : Nat} {M : Rat} (hx : Fin64 x) (hy : Fin64 y) (hz : Fin64 (fmul x y)) (h1 : -M ≤ rv x * rv y) (h2 : rv x * rv y ≤ M) :
    rv (fmul x y) - rv x * rv y ≤ M * ep + ta ∧ -(M * ep + ta) ≤ rv (fmul x y) - rv x * rv y :=
  (fmul_rounds hx hy).rat hz (Nat.two_pow_pos _) (by
    rw [Rat.intCast_mul, val_rv, val_rv]
    show rv x * rv y * TT * TT = rv x * TT * (rv y * TT)
    generalize rv x = a; generalize rv y = b; generalize TT = t
    grind) h1 h2
end Go.SX

/- Quotients of floats; what is finite. No statement of the seat is proved here. -/
namespace Go.SX
open Ieee
set_option maxRecDepth 20000
/-! ### what is finite -/
theorem read_wild {x : Nat} (h : ¬Fin64 x) : (∃ s, FloatKind.f64.format.read x = .infinity s) ∨ ∃ s t, FloatKind.f64.format.read x = .nan s t := by
  unfold Fin64 at h
  rw [read_eq, if_neg (by omega), if_neg h]
  by_cases e : rung x = 9218868437227405312
  · rw [if_pos e]; exact .inl ⟨_, rfl⟩
  · rw [if_neg e]; exact .inr ⟨_, _, rfl⟩
theorem inf_wild (s : Bool) : ¬Fin64 (FloatKind.f64.format.write (.infinity s)) := by
  have : FloatKind.f64.format.write (.infinity s) = double.word s 9218868437227405312 := by cases s <;> decide
  rw [this]
  unfold Fin64
  rw [(word_parts s (Nat.le_refl _)).1]
  omega
theorem qnan_wild : ¬Fin64 qnan := by unfold Fin64; decide
theorem sum_wild {d e : Datum} (h : (∃ s, d = .infinity s) ∨ ∃ s t, d = .nan s t) : ¬Fin64 (((d.sum e).map FloatKind.f64.format.write).getD qnan) := by
  rcases h with ⟨s, rfl⟩ | ⟨s, t, rfl⟩
  · cases e with
    | number a b c => exact inf_wild s
    | infinity u =>
      by_cases g : s = u
      · subst g
        have : (Datum.infinity s).sum (.infinity s) = some (.infinity s) := by simp [Datum.sum]
        rw [this]; exact inf_wild s
      · have : (Datum.infinity s).sum (.infinity u) = none := by simp [Datum.sum, g]
        rw [this]; exact qnan_wild
    | nan u v => exact qnan_wild
  · cases e <;> exact qnan_wild
theorem sum_comm_wild {d e : Datum} (h : (∃ s, e = .infinity s) ∨ ∃ s t, e = .nan s t) : ¬Fin64 (((d.sum e).map FloatKind.f64.format.write).getD qnan) := by
  cases d with
  | number a b c =>
    rcases h with ⟨s, rfl⟩ | ⟨s, t, rfl⟩
    · exact inf_wild s
    · exact qnan_wild
  | infinity u => exact sum_wild (.inl ⟨_, rfl⟩)
  | nan u v => exact sum_wild (.inr ⟨_, _, rfl⟩)
theorem fadd_fin {x y : Nat} (h : Fin64 (fadd x y)) : Fin64 x ∧ Fin64 y := by
  unfold fadd Format.add at h
  refine ⟨Classical.byContradiction fun g => ?_, Classical.byContradiction fun g => ?_⟩
  · exact sum_wild (read_wild g) h
  · exact sum_comm_wild (read_wild g) h
/-- A quotient by what is finite is finite only of what is finite. -/
theorem fdiv_fin {x y : Nat} (hy : Fin64 y) (h : Fin64 (fdiv x y)) : Fin64 x := by
  obtain ⟨n, j, e, _⟩ := val_read hy
  unfold fdiv Format.div at h
  refine Classical.byContradiction fun g => ?_
  rw [e] at h
  rcases read_wild g with ⟨s, e1⟩ | ⟨s, t, e1⟩ <;> rw [e1] at h
  · exact inf_wild _ h
  · exact qnan_wild h
/-! ### quotients -/
theorem cancel_eq {a b W : Rat} (hW : W ≠ 0) (h : a * W = b * W) : a = b := by grind
theorem div_core {m m' n K1 K2 Mo De H N T Q' Q : Rat} (hK1 : 0 ≤ K1) (hH : H ≠ 0) (hDe : De ≠ 0) (hW : 0 < n * K2 * Mo)
    (hI : N * (K2 * Mo) = m' * (H * K1) * De) (hT : T = 2 * H) (hQ' : Q' * T * De = N) (hQ : Q * (n * K2) = m * K1)
    (h1 : m' * n ≤ 2 * (m * Mo) + n) (h2 : 2 * (m * Mo) ≤ m' * n + n) (h3 : n * 9007199254740992 ≤ m * Mo) : Q' - Q ≤ Q * ep ∧ -(Q * ep) ≤ Q' - Q := by
  have a1 : Q' * 2 * K2 * Mo = m' * K1 := cancel_eq (W := H * De) (by grind) (by grind)
  have a2 : Q' * (n * K2 * Mo) * 2 = m' * n * K1 := by grind
  have a3 : Q * (n * K2 * Mo) = m * Mo * K1 := by grind
  have b1 := Rat.mul_le_mul_of_nonneg_right h1 hK1
  have b2 := Rat.mul_le_mul_of_nonneg_right h2 hK1
  have b3 := Rat.mul_le_mul_of_nonneg_right h3 hK1
  clear hI hT hQ' hQ a1 h1 h2 h3
  rw [← a2, Rat.add_mul, Rat.mul_assoc 2, ← a3] at b1
  rw [Rat.add_mul, ← a2, Rat.mul_assoc 2, ← a3] at b2
  rw [← a3] at b3
  clear a2 a3
  have b4 : n * 9007199254740992 * K1 = n * K1 * 9007199254740992 := by grind
  rw [b4] at b3
  clear b4
  generalize n * K1 = P at b1 b2 b3
  have c1 : (Q' - Q) * (n * K2 * Mo) ≤ Q * ep * (n * K2 * Mo) := by
    have e1 : (Q' - Q) * (n * K2 * Mo) = Q' * (n * K2 * Mo) - Q * (n * K2 * Mo) := by grind
    have e2 : Q * ep * (n * K2 * Mo) = Q * (n * K2 * Mo) * ep := by grind
    rw [e1, e2]
    generalize Q' * (n * K2 * Mo) = A at *
    generalize Q * (n * K2 * Mo) = B at *
    clear hW e1 e2
    unfold ep
    grind
  have c2 : -(Q * ep) * (n * K2 * Mo) ≤ (Q' - Q) * (n * K2 * Mo) := by
    have e1 : (Q' - Q) * (n * K2 * Mo) = Q' * (n * K2 * Mo) - Q * (n * K2 * Mo) := by grind
    have e2 : -(Q * ep) * (n * K2 * Mo) = -(Q * (n * K2 * Mo) * ep) := by grind
    rw [e1, e2]
    generalize Q' * (n * K2 * Mo) = A at *
    generalize Q * (n * K2 * Mo) = B at *
    clear hW e1 e2 c1
    unfold ep
    grind
  exact ⟨cancel_le hW c1, cancel_le hW c2⟩
theorem cast_n3 {n L D : Nat} (h : n * L ≤ D) : (n : Rat) * (L : Rat) ≤ (D : Rat) := by exact_mod_cast h
theorem cast_h1 {a b c : Nat} (h : a ≤ 2 * b + c) : (a : Rat) ≤ 2 * (b : Rat) + (c : Rat) := by exact_mod_cast h
theorem cast_h2 {a b c : Nat} (h : 2 * a ≤ b + c) : 2 * (a : Rat) ≤ (b : Rat) + (c : Rat) := by exact_mod_cast h
theorem lit_53 : ((9007199254740992 : Nat) : Rat) = 9007199254740992 := rfl
theorem TT_half : TT = 2 * ((2 ^ 1073 : Nat) : Rat) := by
  unfold TT
  rw [show (2 : Nat) ^ 1074 = 2 * 2 ^ 1073 from by rw [show 1074 = 1073 + 1 from rfl, Nat.pow_succ, Nat.mul_comm], Rat.natCast_mul]
  rfl
/-- The digits of a quotient. -/
theorem quo_digits {m n : Nat} (hm : m ≠ 0) (hn : n ≠ 0) {more m' : Nat} (hmore : more = 54 + n.log2 - m.log2) (hm' : m' = 2 * (m <<< more / n) + (m <<< more % n != 0).toNat) :
    m' * n ≤ 2 * (m * 2 ^ more) + n ∧ 2 * (m * 2 ^ more) ≤ m' * n + n ∧ n * 9007199254740992 ≤ m * 2 ^ more := by
  rw [Nat.shiftLeft_eq] at hm'
  have h3 : n * 9007199254740992 ≤ m * 2 ^ more := by
    have a1 : n < 2 ^ (n.log2 + 1) := Nat.lt_log2_self
    have a2 := Nat.log2_self_le hm
    have a3 : 2 ^ m.log2 * 2 ^ more ≤ m * 2 ^ more := Nat.mul_le_mul_right _ a2
    have a4 : n * 2 ^ 53 ≤ 2 ^ (n.log2 + 1) * 2 ^ 53 := Nat.mul_le_mul_right _ (Nat.le_of_lt a1)
    rw [← Nat.pow_add] at a3 a4
    have a5 : 2 ^ (n.log2 + 1 + 53) ≤ 2 ^ (m.log2 + more) := Nat.pow_le_pow_right (by decide) (by omega)
    have a6 : (2 : Nat) ^ 53 = 9007199254740992 := by decide
    rw [a6] at a4
    exact Nat.le_trans a4 (Nat.le_trans a5 a3)
  generalize m * 2 ^ more = D at *
  have d1 := Nat.div_add_mod D n
  have d2 := Nat.mod_lt D (Nat.pos_of_ne_zero hn)
  generalize D / n = q at *
  generalize D % n = r at *
  refine ⟨?_, ?_, h3⟩
  · rw [hm', Nat.add_mul]
    have : (r != 0).toNat * n ≤ n := by cases (r != 0) <;> simp
    have e : 2 * q * n = 2 * (n * q) := by rw [Nat.mul_assoc, Nat.mul_comm q]
    omega
  · rw [hm', Nat.add_mul]
    have e : 2 * q * n = 2 * (n * q) := by rw [Nat.mul_assoc, Nat.mul_comm q]
    by_cases g : r = 0
    · subst g; simp; omega
    · have : (r != 0) = true := by simp [g]
      rw [this]
      simp only [Bool.toNat_true, Nat.one_mul]
      omega
/-- Where a quotient's digits stand. -/
theorem quo_place (m' k1 k2 more : Nat) : numOf m' (-1074 + (k1 : Int) - (-1074 + (k2 : Int)) - more - 1) * (2 ^ k2 * 2 ^ more) = m' * (2 ^ 1073 * 2 ^ k1) * denOf (-1074 + (k1 : Int) - (-1074 + (k2 : Int)) - more - 1) := by
  unfold numOf denOf
  rw [Nat.mul_assoc, Nat.mul_assoc, ← Nat.pow_add, ← Nat.pow_add, ← Nat.pow_add, ← Nat.pow_add]
  congr 2
  omega
theorem div_abs {m n k1 k2 more m' : Nat} (hm : m ≠ 0) (hn : n ≠ 0) (hmore : more = 54 + n.log2 - m.log2) (hm' : m' = 2 * (m <<< more / n) + (m <<< more % n != 0).toNat) {Q Q' : Rat}
    (hQ : Q * ((n * 2 ^ k2 : Nat) : Rat) = ((m * 2 ^ k1 : Nat) : Rat)) (hQ' : Q' * TT * ((denOf (-1074 + (k1 : Int) - (-1074 + (k2 : Int)) - more - 1) : Nat) : Rat) = ((numOf m' (-1074 + (k1 : Int) - (-1074 + (k2 : Int)) - more - 1) : Nat) : Rat)) :
    Q' - Q ≤ Q * ep ∧ -(Q * ep) ≤ Q' - Q := by
  obtain ⟨h1, h2, h3⟩ := quo_digits hm hn hmore hm'
  have hI := quo_place m' k1 k2 more
  have pos : ∀ k : Nat, (0 : Rat) < ((2 ^ k : Nat) : Rat) := fun k => by have : 0 < 2 ^ k := Nat.two_pow_pos k; exact_mod_cast this
  have hnq : (0 : Rat) < (n : Rat) := by have : 0 < n := Nat.pos_of_ne_zero hn; exact_mod_cast this
  have hd : (0 : Rat) < ((denOf (-1074 + (k1 : Int) - (-1074 + (k2 : Int)) - more - 1) : Nat) : Rat) := by have := denOf_pos (-1074 + (k1 : Int) - (-1074 + (k2 : Int)) - more - 1); exact_mod_cast this
  have c1 := cast_h1 h1
  have c2 := cast_h2 h2
  have c3 := cast_n3 h3
  rw [lit_53] at c3
  have cI : ((numOf m' (-1074 + (k1 : Int) - (-1074 + (k2 : Int)) - more - 1) : Nat) : Rat) * (((2 ^ k2 : Nat) : Rat) * ((2 ^ more : Nat) : Rat)) = (m' : Rat) * (((2 ^ 1073 : Nat) : Rat) * ((2 ^ k1 : Nat) : Rat)) * ((denOf (-1074 + (k1 : Int) - (-1074 + (k2 : Int)) - more - 1) : Nat) : Rat) := by
    rw [← Rat.natCast_mul, ← Rat.natCast_mul, ← Rat.natCast_mul, ← Rat.natCast_mul, ← Rat.natCast_mul, hI]
  rw [Rat.natCast_mul] at hQ
  rw [Rat.natCast_mul] at hQ
  rw [Rat.natCast_mul, Rat.natCast_mul] at c1 c2
  rw [Rat.natCast_mul] at c3
  exact div_core (Rat.le_of_lt (pos k1)) (fun e => by have := pos 1073; rw [e] at this; exact absurd this (Rat.lt_irrefl)) (fun e => by rw [e] at hd; exact absurd hd (Rat.lt_irrefl)) (Rat.mul_pos (Rat.mul_pos hnq (pos k2)) (pos more)) cI TT_half hQ' hQ c1 c2 c3
theorem bnd_pos {Q Q' M : Rat} (h : Q' - Q ≤ Q * ep ∧ -(Q * ep) ≤ Q' - Q) (h2 : Q ≤ M) : Q' - Q ≤ M * ep ∧ -(M * ep) ≤ Q' - Q := by
  have := Rat.mul_le_mul_of_nonneg_right h2 (Rat.le_of_lt ep_pos)
  grind
theorem bnd_neg {Q Q' M : Rat} (h : -Q' - -Q ≤ -Q * ep ∧ -(-Q * ep) ≤ -Q' - -Q) (h2 : -M ≤ Q) : Q' - Q ≤ M * ep ∧ -(M * ep) ≤ Q' - Q := by
  have := Rat.mul_le_mul_of_nonneg_right (show -Q ≤ M by grind) (Rat.le_of_lt ep_pos)
  grind
theorem sg_ne {b : Bool} {w : Nat} (h : 0 < w) : sg b w ≠ 0 := by unfold sg; cases b <;> simp <;> omega
theorem fdiv_near {x y : Nat} (hx : Fin64 x) (hy : Fin64 y) (h0 : val y ≠ 0) : ∃ (a : Int) (d : Nat) (Q' : Rat), 0 < d ∧ Rounds (fdiv x y) a d ∧ Q' * TT * (d : Rat) = (a : Rat) ∧
    ∀ Q M : Rat, Q * rv y = rv x → -M ≤ Q → Q ≤ M → Q' - Q ≤ M * ep ∧ -(M * ep) ≤ Q' - Q := by
  obtain ⟨m, k1, e1, v1, _⟩ := val_read hx
  obtain ⟨n, k2, e2, v2, _⟩ := val_read hy
  have hn : n ≠ 0 := fun e => h0 (by rw [v2, e, signed_sg]; unfold sg; simp)
  have hq : ∀ Q : Rat, Q * rv y = rv x → Q * (val y : Rat) = (val x : Rat) := fun Q h => by
    rw [val_rv, val_rv, ← h]; generalize rv y = b; generalize TT = t; clear h; grind
  rw [signed_sg] at v1 v2
  generalize hp : -1074 + (k1 : Int) - (-1074 + (k2 : Int)) - (54 + n.log2 - m.log2 : Nat) - 1 = p
  generalize hm' : 2 * (m <<< (54 + n.log2 - m.log2) / n) + (m <<< (54 + n.log2 - m.log2) % n != 0).toNat = m'
  have hfd : fdiv x y = double.nearest (neg? x ^^ neg? y) m' p := by
    unfold fdiv Format.div
    rw [e1, e2]
    simp only [Datum.quotient, if_neg hn]
    rw [← hm', ← hp]
    rfl
  have hdq : (0 : Rat) < ((denOf p : Nat) : Rat) := by have := denOf_pos p; exact_mod_cast this
  have hTd : TT * ((denOf p : Nat) : Rat) ≠ 0 := fun e => by have := Rat.mul_pos TT_pos hdq; rw [e] at this; exact absurd this Rat.lt_irrefl
  refine ⟨sg (neg? x ^^ neg? y) (numOf m' p), denOf p, ((sg (neg? x ^^ neg? y) (numOf m' p) : Int) : Rat) / (TT * ((denOf p : Nat) : Rat)), denOf_pos p, ?_, ?_, ?_⟩
  · rw [hfd]
    refine writes _ _ _ _ _ (denOf_pos p) ?_ ?_ ?_
    · unfold sg; cases (neg? x ^^ neg? y) <;> simp
    · unfold sg; cases (neg? x ^^ neg? y) <;> simp
    · unfold sg; cases (neg? x ^^ neg? y) <;> simp
  · rw [Rat.mul_assoc, Rat.div_mul_cancel hTd]
  · intro Q M hQ h1 h2
    have hQv := hq Q hQ
    have hback : ((sg (neg? x ^^ neg? y) (numOf m' p) : Int) : Rat) / (TT * ((denOf p : Nat) : Rat)) * TT * ((denOf p : Nat) : Rat) = ((sg (neg? x ^^ neg? y) (numOf m' p) : Int) : Rat) := by rw [Rat.mul_assoc, Rat.div_mul_cancel hTd]
    generalize ((sg (neg? x ^^ neg? y) (numOf m' p) : Int) : Rat) / (TT * ((denOf p : Nat) : Rat)) = Q' at *
    clear hfd hQ
    rw [v1, v2] at hQv
    clear v1 v2 e1 e2
    by_cases hm : m = 0
    · subst hm
      have hm0 : m' = 0 := by rw [← hm']; simp
      have hn0 : numOf m' p = 0 := by rw [hm0]; unfold numOf; simp
      rw [hn0] at hback
      have hs0 : ∀ b, sg b 0 = 0 := fun b => by cases b <;> rfl
      rw [hs0] at hback
      rw [Nat.zero_mul, hs0] at hQv
      have hy0 : ((sg (neg? y) (n * 2 ^ k2) : Int) : Rat) ≠ 0 := by
        have : sg (neg? y) (n * 2 ^ k2) ≠ 0 := by
          exact sg_ne (Nat.mul_pos (Nat.pos_of_ne_zero hn) (Nat.two_pow_pos _))
        exact_mod_cast this
      have z1 : Q = 0 := cancel_eq hy0 (by rw [hQv, Rat.zero_mul]; rfl)
      have z2 : Q' = 0 := cancel_eq hTd (by rw [← Rat.mul_assoc, hback, Rat.zero_mul]; rfl)
      subst z1 z2
      have := Rat.mul_le_mul_of_nonneg_right h2 (Rat.le_of_lt ep_pos)
      clear hback hQv hdq hTd
      grind
    · have core := fun (R R' : Rat) => div_abs (k1 := k1) (k2 := k2) hm hn rfl hm'.symm (Q := R) (Q' := R')
      rw [hp] at core
      cases hs : neg? x <;> cases ht : neg? y <;> rw [hs, ht] at hback <;> rw [hs, ht] at hQv <;> simp only [sg, if_true, if_false, Bool.xor_false, Bool.xor_true, Bool.not_false, Bool.not_true, Bool.false_eq_true] at hback hQv
      · exact bnd_pos (core Q Q' (by exact_mod_cast hQv) (by exact_mod_cast hback)) h2
      · refine bnd_neg (core (-Q) (-Q') ?_ ?_) h1
        · rw [Rat.intCast_neg] at hQv
          have : -Q * ((n * 2 ^ k2 : Nat) : Rat) = ((m * 2 ^ k1 : Nat) : Rat) := by
            have e3 : ((n * 2 ^ k2 : Nat) : Rat) = (((n * 2 ^ k2 : Nat) : Int) : Rat) := rfl
            have e4 : ((m * 2 ^ k1 : Nat) : Rat) = (((m * 2 ^ k1 : Nat) : Int) : Rat) := rfl
            rw [e3, e4, ← hQv, Rat.neg_mul, Rat.mul_neg]
          exact this
        · rw [Rat.intCast_neg] at hback
          rw [Rat.neg_mul, Rat.neg_mul, hback, Rat.neg_neg]
          rfl
      · refine bnd_neg (core (-Q) (-Q') ?_ ?_) h1
        · rw [Rat.intCast_neg] at hQv
          have e3 : ((n * 2 ^ k2 : Nat) : Rat) = (((n * 2 ^ k2 : Nat) : Int) : Rat) := rfl
          rw [e3, Rat.neg_mul, hQv, Rat.neg_neg]
          rfl
        · rw [Rat.intCast_neg] at hback
          rw [Rat.neg_mul, Rat.neg_mul, hback, Rat.neg_neg]
          rfl
      · refine bnd_pos (core Q Q' ?_ (by exact_mod_cast hback)) h2
        rw [Rat.intCast_neg, Rat.intCast_neg, Rat.mul_neg] at hQv
        have e3 : ((n * 2 ^ k2 : Nat) : Rat) = (((n * 2 ^ k2 : Nat) : Int) : Rat) := rfl
        have e4 : ((m * 2 ^ k1 : Nat) : Rat) = (((m * 2 ^ k1 : Nat) : Int) : Rat) := rfl
        rw [e3, e4]
        rw [← Rat.neg_neg (Q * _), hQv, Rat.neg_neg]
/-- A quotient's error. -/
theorem div_err {x y : Nat} {Q M : Rat} (hx : Fin64 x) (hy : Fin64 y) (h0 : val y ≠ 0) (hz : Fin64 (fdiv x y)) (hQ : Q * rv y = rv x) (h1 : -M ≤ Q) (h2 : Q ≤ M) :
    rv (fdiv x y) - Q ≤ M * (3 * ep) + ta ∧ -(M * (3 * ep) + ta) ≤ rv (fdiv x y) - Q := by
  obtain ⟨a, d, Q', hd, hr, hq, hb⟩ := fdiv_near hx hy h0
  obtain ⟨b1, b2⟩ := hb Q M hQ h1 h2
  have hM : 0 ≤ M := by clear hq hr hb hQ b1 b2; grind
  obtain ⟨c1, c2⟩ := hr.rat hz hd (M := M * (1 + ep)) hq (by clear hq hr hb hQ; grind) (by clear hq hr hb hQ; grind)
  clear hq hr hb hQ
  have e1 : M * (1 + ep) * ep ≤ M * (2 * ep) := by
    rw [Rat.mul_assoc]
    refine Rat.mul_le_mul_of_nonneg_left ?_ hM
    unfold ep
    grind
  grind
end Go.SX

/- Sums of floats: how far from the sum of the numbers. No statement of the seat is proved here. -/
namespace Go.SX
open Ieee
set_option maxRecDepth 20000
def rabs (q : Rat) : Rat := if q < 0 then -q else q
theorem rabs_bnd (q : Rat) : -rabs q ≤ q ∧ q ≤ rabs q ∧ 0 ≤ rabs q := by unfold rabs; split <;> grind
theorem rabs_le {q M : Rat} (h1 : -M ≤ q) (h2 : q ≤ M) : rabs q ≤ M := by unfold rabs; split <;> grind
def rsum : List Nat → Rat | [] => 0 | x :: r => rv x + rsum r
def asum : List Nat → Rat | [] => 0 | x :: r => rabs (rv x) + asum r
theorem asum_nn : ∀ l, 0 ≤ asum l := by
  intro l
  induction l with
  | nil => exact Rat.le_refl
  | cons x r ih =>
    have := (rabs_bnd (rv x)).2.2
    show 0 ≤ rabs (rv x) + asum r
    grind
theorem fold_fin : ∀ (l : List Nat) (s : Nat), Fin64 (l.foldl fadd s) → Fin64 s ∧ ∀ x ∈ l, Fin64 x := by
  intro l
  induction l with
  | nil => intro s h; exact ⟨h, fun x hx => by cases hx⟩
  | cons y r ih =>
    intro s h
    obtain ⟨g1, g2⟩ := ih _ h
    obtain ⟨g3, g4⟩ := fadd_fin g1
    refine ⟨g3, fun x hx => ?_⟩
    rcases List.mem_cons.1 hx with e | e
    · rw [e]; exact g4
    · exact g2 x e
theorem rv_zero : rv 0 = 0 := by
  have : val 0 = 0 := by decide
  unfold rv
  rw [this]
  have := TT_ne
  grind
theorem step_err {B s S A e x s' d n : Rat} (h1 : s - S ≤ e) (h2 : -e ≤ s - S) (h3 : -A ≤ S) (h4 : S ≤ A) (h5 : A + (rabs x + n) ≤ B) (hn : 0 ≤ n) (he : e ≤ B) : -(2 * B) ≤ s + x ∧ s + x ≤ 2 * B := by
  obtain ⟨r1, r2, _⟩ := rabs_bnd x
  grind
theorem fold_err {B : Rat} (hB : 0 ≤ B) : ∀ (l : List Nat) (s : Nat) (S A e : Rat), Fin64 (l.foldl fadd s) → rv s - S ≤ e → -e ≤ rv s - S → -A ≤ S → S ≤ A → A + asum l ≤ B → e + (l.length : Rat) * (2 * B * ep) ≤ B →
    rv (l.foldl fadd s) - (S + rsum l) ≤ e + (l.length : Rat) * (2 * B * ep) ∧ -(e + (l.length : Rat) * (2 * B * ep)) ≤ rv (l.foldl fadd s) - (S + rsum l) := by
  intro l
  induction l with
  | nil =>
    intro s S A e _ h1 h2 _ _ _ _
    have e0 : ((([] : List Nat).length : Nat) : Rat) = 0 := rfl
    have e1 : rsum [] = 0 := rfl
    rw [e0, e1, Rat.zero_mul, Rat.add_zero, Rat.add_zero]
    exact ⟨h1, h2⟩
  | cons x r ih =>
    intro s S A e hf h1 h2 h3 h4 h5 h6
    have hd : 0 ≤ 2 * B * ep := Rat.mul_nonneg (by grind) (Rat.le_of_lt ep_pos)
    obtain ⟨f1, f2⟩ := fold_fin r _ hf
    obtain ⟨f3, f4⟩ := fadd_fin f1
    have el : (((x :: r).length : Nat) : Rat) = (r.length : Rat) + 1 := by rw [List.length_cons, Rat.natCast_add]; rfl
    have hl : (0 : Rat) ≤ (r.length : Rat) := by exact_mod_cast Nat.zero_le _
    have hl2 : 0 ≤ (r.length : Rat) * (2 * B * ep) := Rat.mul_nonneg hl hd
    rw [el, Rat.add_mul, Rat.one_mul] at h6 ⊢
    have ea : asum (x :: r) = rabs (rv x) + asum r := rfl
    have er : rsum (x :: r) = rv x + rsum r := rfl
    rw [ea] at h5
    rw [er]
    obtain ⟨r1, r2, r3⟩ := rabs_bnd (rv x)
    obtain ⟨b1, b2⟩ := step_err (d := 0) (s' := 0) h1 h2 h3 h4 h5 (asum_nn r) (by grind)
    obtain ⟨c1, c2⟩ := add_err f3 f4 f1 b1 b2
    show rv (r.foldl fadd (fadd s x)) - _ ≤ _ ∧ _ ≤ rv (r.foldl fadd (fadd s x)) - _
    obtain ⟨i1, i2⟩ := ih (fadd s x) (S + rv x) (A + rabs (rv x)) (e + 2 * B * ep) hf (by grind) (by grind) (by grind) (by grind) (by grind) (by grind)
    grind
theorem fsum_err {l : List Nat} {B : Rat} (hf : Fin64 (fsum l)) (h5 : asum l ≤ B) (h6 : (l.length : Rat) * (2 * B * ep) ≤ B) :
    rv (fsum l) - rsum l ≤ (l.length : Rat) * (2 * B * ep) ∧ -((l.length : Rat) * (2 * B * ep)) ≤ rv (fsum l) - rsum l := by
  have hB : 0 ≤ B := Rat.le_trans (asum_nn l) h5
  have hd : 0 ≤ 2 * B * ep := Rat.mul_nonneg (by grind) (Rat.le_of_lt ep_pos)
  cases l with
  | nil =>
    have e0 : ((([] : List Nat).length : Nat) : Rat) = 0 := rfl
    have e1 : rsum [] = 0 := rfl
    have e2 : rv (fsum []) = 0 := rv_zero
    rw [e0, e1, e2, Rat.zero_mul]
    grind
  | cons x r =>
    have el : (((x :: r).length : Nat) : Rat) = (r.length : Rat) + 1 := by rw [List.length_cons, Rat.natCast_add]; rfl
    rw [el, Rat.add_mul, Rat.one_mul] at h6 ⊢
    have ea : asum (x :: r) = rabs (rv x) + asum r := rfl
    have er : rsum (x :: r) = rv x + rsum r := rfl
    rw [ea] at h5
    obtain ⟨r1, r2, r3⟩ := rabs_bnd (rv x)
    obtain ⟨i1, i2⟩ := fold_err hB r x (rv x) (rabs (rv x)) 0 hf (by grind) (by grind) r1 r2 h5 (by grind)
    rw [er]
    show rv (r.foldl fadd x) - _ ≤ _ ∧ _ ≤ rv (r.foldl fadd x) - _
    grind
/-! ### sums over masses -/
def gsum (f : GMass → Rat) : List GMass → Rat | [] => 0 | m :: r => f m + gsum f r
theorem gsum_app (f : GMass → Rat) (a b : List GMass) : gsum f (a ++ b) = gsum f a + gsum f b := by
  induction a with
  | nil => show gsum f b = 0 + gsum f b; grind
  | cons m r ih => show f m + gsum f (r ++ b) = f m + gsum f r + gsum f b; rw [ih]; grind
theorem gsum_rev (f : GMass → Rat) (l : List GMass) : gsum f l.reverse = gsum f l := by
  induction l with
  | nil => rfl
  | cons m r ih =>
    rw [List.reverse_cons, gsum_app, ih]
    show gsum f r + (f m + 0) = f m + gsum f r
    grind
theorem gsum_le {f g : GMass → Rat} {l : List GMass} (h : ∀ m ∈ l, f m ≤ g m) : gsum f l ≤ gsum g l := by
  induction l with
  | nil => exact Rat.le_refl
  | cons m r ih =>
    have h1 := h m List.mem_cons_self
    have h2 := ih fun x hx => h x (List.mem_cons_of_mem _ hx)
    show f m + gsum f r ≤ g m + gsum g r
    grind
theorem gsum_mul (f : GMass → Rat) (c d : Rat) (l : List GMass) : gsum (fun m => f m * c + d) l = gsum f l * c + (l.length : Rat) * d := by
  induction l with
  | nil =>
    have e0 : ((([] : List GMass).length : Nat) : Rat) = 0 := rfl
    show (0 : Rat) = 0 * c + _
    rw [e0]
    grind
  | cons m r ih =>
    have el : (((m :: r).length : Nat) : Rat) = (r.length : Rat) + 1 := by rw [List.length_cons, Rat.natCast_add]; rfl
    show f m * c + d + gsum _ r = (f m + gsum f r) * c + _
    rw [ih, el]
    grind
theorem rsum_map (f : GMass → Nat) (l : List GMass) : rsum (l.map f) = gsum (fun m => rv (f m)) l := by
  induction l with
  | nil => rfl
  | cons m r ih => show rv (f m) + rsum (r.map f) = rv (f m) + _; rw [ih]
theorem asum_map (f : GMass → Nat) (l : List GMass) : asum (l.map f) = gsum (fun m => rabs (rv (f m))) l := by
  induction l with
  | nil => rfl
  | cons m r ih => show rabs (rv (f m)) + asum (r.map f) = rabs (rv (f m)) + _; rw [ih]
end Go.SX

/- Masses in another order weigh as much, but for rounding. No statement of the seat is proved here. -/
namespace Go.SX
open Ieee
set_option maxRecDepth 20000
theorem gsum_near {f g h : GMass → Rat} {l : List GMass} (hh : ∀ m ∈ l, f m - g m ≤ h m ∧ -(h m) ≤ f m - g m) : gsum f l - gsum g l ≤ gsum h l ∧ -(gsum h l) ≤ gsum f l - gsum g l := by
  induction l with
  | nil => show (0 : Rat) - 0 ≤ 0 ∧ -(0 : Rat) ≤ 0 - 0; grind
  | cons m r ih =>
    obtain ⟨h1, h2⟩ := hh m List.mem_cons_self
    obtain ⟨h3, h4⟩ := ih fun x hx => hh x (List.mem_cons_of_mem _ hx)
    show f m + gsum f r - (g m + gsum g r) ≤ h m + gsum h r ∧ -(h m + gsum h r) ≤ f m + gsum f r - (g m + gsum g r)
    grind
theorem gsum_nn {f : GMass → Rat} {l : List GMass} (hh : ∀ m ∈ l, 0 ≤ f m) : 0 ≤ gsum f l := by
  induction l with
  | nil => exact Rat.le_refl
  | cons m r ih =>
    have h1 := hh m List.mem_cons_self
    have h3 := ih fun x hx => hh x (List.mem_cons_of_mem _ hx)
    show 0 ≤ f m + gsum f r
    grind
theorem mul_bnd {a b A B : Rat} (h1 : -A ≤ a) (h2 : a ≤ A) (h3 : -B ≤ b) (h4 : b ≤ B) : -(A * B) ≤ a * b ∧ a * b ≤ A * B := by
  have hA : 0 ≤ A := by grind
  have hB : 0 ≤ B := by grind
  have p1 := Rat.mul_nonneg (show 0 ≤ A - a by grind) (show 0 ≤ B - b by grind)
  have p2 := Rat.mul_nonneg (show 0 ≤ A + a by grind) (show 0 ≤ B + b by grind)
  have p3 := Rat.mul_nonneg (show 0 ≤ A - a by grind) (show 0 ≤ B + b by grind)
  have p4 := Rat.mul_nonneg (show 0 ≤ A + a by grind) (show 0 ≤ B - b by grind)
  grind
theorem len_mul {n : Nat} (h : n ≤ 64) {c : Rat} (hc : 0 ≤ c) : (n : Rat) * c ≤ 64 * c := by
  have : (n : Rat) ≤ ((64 : Nat) : Rat) := by exact_mod_cast h
  exact Rat.mul_le_mul_of_nonneg_right this hc
/-- The sum of masses. -/
theorem all_err {l : List GMass} (hl : l.length ≤ 64) (hm : ∀ m ∈ l, 0 ≤ rv m.Mass) (hf : Fin64 (jall l)) :
    rv (jall l) - gsum (fun m => rv m.Mass) l ≤ gsum (fun m => rv m.Mass) l * (128 * ep) ∧ -(gsum (fun m => rv m.Mass) l * (128 * ep)) ≤ rv (jall l) - gsum (fun m => rv m.Mass) l := by
  have h0 := gsum_nn hm
  have ha : asum (l.map fun m => m.Mass) ≤ gsum (fun m => rv m.Mass) l := by
    rw [asum_map]
    refine gsum_le fun m h => ?_
    have := hm m h
    exact rabs_le (by grind) Rat.le_refl
  have hr := rsum_map (fun m => m.Mass) l
  have hln : ((l.map fun m => m.Mass).length) = l.length := by simp
  generalize gsum (fun m => rv m.Mass) l = S at *
  have hep : 0 ≤ 2 * S * ep := Rat.mul_nonneg (by grind) (Rat.le_of_lt ep_pos)
  have hb := len_mul hl hep
  have hs : 64 * (2 * S * ep) ≤ S := by unfold ep; grind
  obtain ⟨e1, e2⟩ := fsum_err hf ha (by rw [hln]; exact Rat.le_trans hb hs)
  rw [hln, hr] at e1 e2
  unfold jall
  grind
def jsum (c : GMass → Nat) (l : List GMass) : Nat := fsum (l.map fun m => fmul m.Mass (c m))
/-- The sum of what masses weigh on a side. -/
theorem side_err {c : GMass → Nat} {l : List GMass} {X : Rat} (hX : 0 ≤ X) (hl : l.length ≤ 64) (hm : ∀ m ∈ l, Fin64 m.Mass ∧ 0 ≤ rv m.Mass ∧ Fin64 (c m) ∧ -X ≤ rv (c m) ∧ rv (c m) ≤ X) (hf : Fin64 (jsum c l)) :
    rv (jsum c l) - gsum (fun m => rv m.Mass * rv (c m)) l ≤ gsum (fun m => rv m.Mass) l * X * (257 * ep) + 65 * ta ∧ -(gsum (fun m => rv m.Mass) l * X * (257 * ep) + 65 * ta) ≤ rv (jsum c l) - gsum (fun m => rv m.Mass * rv (c m)) l := by
  have hep := ep_pos
  have hta := ta_pos
  have hfl : ∀ x ∈ l.map fun m => fmul m.Mass (c m), Fin64 x := by
    unfold jsum at hf
    cases h : l.map fun m => fmul m.Mass (c m) with
    | nil => intro x hx; cases hx
    | cons y r =>
      rw [h] at hf
      obtain ⟨g1, g2⟩ := fold_fin r y hf
      intro x hx
      rcases List.mem_cons.1 hx with e | e
      · rw [e]; exact g1
      · exact g2 x e
  have one : ∀ m ∈ l, rv (fmul m.Mass (c m)) - rv m.Mass * rv (c m) ≤ rv m.Mass * (X * ep) + ta ∧ -(rv m.Mass * (X * ep) + ta) ≤ rv (fmul m.Mass (c m)) - rv m.Mass * rv (c m) ∧ rabs (rv (fmul m.Mass (c m))) ≤ rv m.Mass * (X * (1 + ep)) + ta := fun m h => by
    obtain ⟨f1, p1, f2, b1, b2⟩ := hm m h
    obtain ⟨q1, q2⟩ := mul_bnd (a := rv m.Mass) (A := rv m.Mass) (by grind) Rat.le_refl b1 b2
    obtain ⟨e1, e2⟩ := mul_err f1 f2 (hfl _ (List.mem_map_of_mem h)) q1 q2
    refine ⟨by grind, by grind, rabs_le (by grind) (by grind)⟩
  have hS0 := gsum_nn (f := fun m => rv m.Mass) fun m h => (hm m h).2.1
  have hn1 := gsum_near (f := fun m => rv (fmul m.Mass (c m))) (g := fun m => rv m.Mass * rv (c m)) (h := fun m => rv m.Mass * (X * ep) + ta) fun m h => ⟨(one m h).1, (one m h).2.1⟩
  have ha : asum (l.map fun m => fmul m.Mass (c m)) ≤ gsum (fun m => rv m.Mass * (X * (1 + ep)) + ta) l := by
    rw [asum_map]
    exact gsum_le fun m h => (one m h).2.2
  rw [gsum_mul (fun m => rv m.Mass)] at hn1 ha
  have hr := rsum_map (fun m => fmul m.Mass (c m)) l
  have hln : ((l.map fun m => fmul m.Mass (c m)).length) = l.length := by simp
  have ht := len_mul hl (Rat.le_of_lt hta)
  have hP : 0 ≤ gsum (fun m => rv m.Mass) l * X := Rat.mul_nonneg hS0 hX
  have hPe : gsum (fun m => rv m.Mass) l * (X * (1 + ep)) = gsum (fun m => rv m.Mass) l * X * (1 + ep) := by grind
  have hPf : gsum (fun m => rv m.Mass) l * (X * ep) = gsum (fun m => rv m.Mass) l * X * ep := by grind
  rw [hPe] at ha
  rw [hPf] at hn1
  rw [← hr] at hn1
  clear hPe hPf hr one hm
  generalize gsum (fun m => rv m.Mass) l * X = P at *
  have hB : asum (l.map fun m => fmul m.Mass (c m)) ≤ 2 * P + 64 * ta := by
    have : P * (1 + ep) ≤ P * 2 := Rat.mul_le_mul_of_nonneg_left (by unfold ep; grind) hP
    grind
  have hB0 : 0 ≤ 2 * P + 64 * ta := by grind
  have hd : 0 ≤ 2 * (2 * P + 64 * ta) * ep := Rat.mul_nonneg (by grind) (Rat.le_of_lt ep_pos)
  have hs : 64 * (2 * (2 * P + 64 * ta) * ep) ≤ 2 * P + 64 * ta := by unfold ep; grind
  obtain ⟨e1, e2⟩ := fsum_err hf hB (by rw [hln]; exact Rat.le_trans (len_mul hl hd) hs)
  rw [hln] at e1 e2
  have hq := len_mul hl hd
  unfold jsum
  obtain ⟨n1, n2⟩ := hn1
  clear hs hB ha
  generalize rsum (l.map fun m => fmul m.Mass (c m)) = R at *
  generalize gsum (fun m => rv m.Mass * rv (c m)) l = G at *
  have z : 64 * (2 * (2 * P + 64 * ta) * ep) ≤ P * (256 * ep) + ta := by
    unfold ep
    grind
  generalize rv (fsum (l.map fun m => fmul m.Mass (c m))) = F at *
  generalize (l.length : Rat) * (2 * (2 * P + 64 * ta) * ep) = Y at *
  generalize (l.length : Rat) * ta = W at *
  generalize 64 * (2 * (2 * P + 64 * ta) * ep) = Z at *
  clear hfl hf hd hB0 hep
  constructor <;> grind
theorem centre_core {M S P X J E Q q t : Rat} (hX : 0 ≤ X) (hS : 0 < S) (hP : P = S * X) (hM1 : M - S ≤ S * (128 * ep)) (hM2 : -(S * (128 * ep)) ≤ M - S) (hJ1 : J - E ≤ P * (257 * ep) + 65 * t) (hJ2 : -(P * (257 * ep) + 65 * t) ≤ J - E)
    (hE1 : -P ≤ E) (hE2 : E ≤ P) (T1 : 65 * t ≤ P * ep) (hQ : Q * M = J) (hq : q * S = E) : Q - q ≤ X * (390 * ep) ∧ -(X * (390 * ep)) ≤ Q - q := by
  have q1 : q ≤ X := cancel_le hS (by rw [hq, Rat.mul_comm X, ← hP]; exact hE2)
  have q2 : -X ≤ q := cancel_le hS (by rw [hq, Rat.neg_mul, Rat.mul_comm X, ← hP]; exact hE1)
  obtain ⟨d1, d2⟩ := mul_bnd q2 q1 hM2 hM1
  have e1 : X * (S * (128 * ep)) = P * (128 * ep) := by rw [hP]; grind
  rw [e1] at d1 d2
  have e2 : (Q - q) * M = (J - E) - q * (M - S) := by rw [← hQ, ← hq]; grind
  have hS2 : S * (128 * ep) ≤ S * (1 / 200) := Rat.mul_le_mul_of_nonneg_left (by unfold ep; grind) (Rat.le_of_lt hS)
  have hM : 0 < M := by clear e2 d1 d2 hQ hq hJ1 hJ2; grind
  have hPM : P ≤ X * M * (101 / 100) := by
    have : X * S ≤ X * (M * (101 / 100)) := Rat.mul_le_mul_of_nonneg_left (by clear e2 d1 d2 hQ hq hJ1 hJ2 e1 hP; grind) hX
    rw [hP]
    grind
  have u1 : (Q - q) * M ≤ P * (386 * ep) := by rw [e2]; clear e2 hQ hq hP e1; grind
  have u2 : -(P * (386 * ep)) ≤ (Q - q) * M := by rw [e2]; clear e2 hQ hq hP e1; grind
  have u3 : P * (386 * ep) ≤ X * (390 * ep) * M := by
    have := Rat.mul_le_mul_of_nonneg_right hPM (show 0 ≤ 386 * ep by unfold ep; grind)
    have hXM : 0 ≤ X * M := Rat.mul_nonneg hX (Rat.le_of_lt hM)
    have e3 : X * (390 * ep) * M = X * M * (390 * ep) := by grind
    rw [e3]
    clear e3 e2 u1 u2 hQ hq hP e1 hPM hM hX
    generalize X * M = Z at *
    unfold ep at *
    grind
  exact ⟨cancel_le hM (Rat.le_trans u1 u3), cancel_le hM (by rw [Rat.neg_mul]; grind)⟩
/-- A centre's side. -/
theorem centre_err {c : GMass → Nat} {l : List GMass} {X q : Rat} (hX : 0 ≤ X) (hl : l.length ≤ 64) (hm : ∀ m ∈ l, Fin64 m.Mass ∧ 0 ≤ rv m.Mass ∧ Fin64 (c m) ∧ -X ≤ rv (c m) ∧ rv (c m) ≤ X) (hj : Fin64 (jsum c l)) (ha : Fin64 (jall l)) (hz : Fin64 (fdiv (jsum c l) (jall l)))
    (hS : 0 < gsum (fun m => rv m.Mass) l) (T1 : 65 * ta ≤ gsum (fun m => rv m.Mass) l * X * ep) (T2 : ta ≤ X * ep) (hq : q * gsum (fun m => rv m.Mass) l = gsum (fun m => rv m.Mass * rv (c m)) l) :
    rv (fdiv (jsum c l) (jall l)) - q ≤ X * (400 * ep) ∧ -(X * (400 * ep)) ≤ rv (fdiv (jsum c l) (jall l)) - q := by
  obtain ⟨a1, a2⟩ := all_err hl (fun m h => (hm m h).2.1) ha
  obtain ⟨s1, s2⟩ := side_err hX hl hm hj
  have hE : gsum (fun m => rv m.Mass * rv (c m)) l ≤ gsum (fun m => rv m.Mass * X + 0) l := gsum_le fun m h => by
    obtain ⟨_, p1, _, b1, b2⟩ := hm m h
    have := (mul_bnd (a := rv m.Mass) (A := rv m.Mass) (by grind) Rat.le_refl b1 b2).2
    grind
  have hE' : gsum (fun m => rv m.Mass * -X + 0) l ≤ gsum (fun m => rv m.Mass * rv (c m)) l := gsum_le fun m h => by
    obtain ⟨_, p1, _, b1, b2⟩ := hm m h
    have := (mul_bnd (a := rv m.Mass) (A := rv m.Mass) (by grind) Rat.le_refl b1 b2).1
    grind
  rw [gsum_mul (fun m => rv m.Mass)] at hE hE'
  have hM : 0 < rv (jall l) := by
    have : gsum (fun m => rv m.Mass) l * (128 * ep) ≤ gsum (fun m => rv m.Mass) l * (1 / 200) := Rat.mul_le_mul_of_nonneg_left (by unfold ep; grind) (Rat.le_of_lt hS)
    grind
  have hMne : val (jall l) ≠ 0 := fun e => by
    have := val_rv (jall l)
    rw [e] at this
    have h2 := Rat.mul_pos hM TT_pos
    rw [← this] at h2
    exact absurd h2 Rat.lt_irrefl
  generalize hSS : gsum (fun m => rv m.Mass) l = S at *
  generalize gsum (fun m => rv m.Mass * rv (c m)) l = G at *
  have hQ : (rv (jsum c l) / rv (jall l)) * rv (jall l) = rv (jsum c l) := Rat.div_mul_cancel (fun e => by rw [e] at hM; exact absurd hM Rat.lt_irrefl)
  generalize hQQ : rv (jsum c l) / rv (jall l) = Q at *
  obtain ⟨c1, c2⟩ := centre_core hX hS rfl a1 a2 s1 s2 (by grind) (by grind) T1 hQ hq
  have q1 : q ≤ X := cancel_le hS (by rw [hq, Rat.mul_comm X]; grind)
  have q2 : -X ≤ q := cancel_le hS (by rw [hq, Rat.neg_mul, Rat.mul_comm X]; grind)
  have hx : X * (390 * ep) ≤ X := by
    have := Rat.mul_le_mul_of_nonneg_left (show 390 * ep ≤ 1 by unfold ep; grind) hX
    grind
  obtain ⟨d1, d2⟩ := div_err hj ha hMne hz hQ (M := 2 * X) (by grind) (by grind)
  clear hE hE' a1 a2 s1 s2 hQ hq hx hS T1 hQQ
  constructor <;> grind
/-! ### nearly -/
theorem rv_le {x y : Nat} : rv x ≤ rv y ↔ val x ≤ val y := by
  have h1 := val_rv x
  have h2 := val_rv y
  constructor
  · intro h
    have := Rat.mul_le_mul_of_nonneg_right h (Rat.le_of_lt TT_pos)
    rw [← h1, ← h2] at this
    exact_mod_cast this
  · intro h
    have : (val x : Rat) ≤ (val y : Rat) := by exact_mod_cast h
    rw [h1, h2] at this
    exact cancel_le TT_pos this
theorem val_fabs_abs (x : Nat) : val (fabs x) = ((val x).natAbs : Int) := by rw [val_fabs, val_abs]
theorem rv_neg {x y : Nat} (h : val y = -val x) : rv y = -rv x := by
  unfold rv
  rw [h, Rat.intCast_neg]
  have := TT_ne
  grind
theorem rv_same {x y : Nat} (h : val y = val x) : rv y = rv x := by unfold rv; rw [h]
theorem rv_nonneg {x : Nat} : 0 ≤ rv x ↔ 0 ≤ val x := by
  have := rv_le (x := 0) (y := x)
  rw [rv_zero, show val 0 = 0 by decide] at this
  exact this
theorem rv_fabs (x : Nat) : rv (fabs x) = rabs (rv x) := by
  unfold rabs
  rcases Int.lt_or_le (val x) 0 with g | g
  · have h1 : rv x < 0 := by
      have := rv_nonneg (x := x)
      rcases (Rat.le_total : 0 ≤ rv x ∨ rv x ≤ 0) with e | e
      · have := this.1 e; omega
      · by_cases u : rv x = 0
        · have := this.1 (by rw [u]; exact Rat.le_refl); omega
        · clear this; grind
    rw [if_pos h1, rv_neg (x := x)]
    rw [val_fabs_abs]; omega
  · have h1 := rv_nonneg.2 g
    rw [if_neg (by grind), rv_same (x := x)]
    rw [val_fabs_abs]; omega
theorem fabs_fin {x : Nat} (h : Fin64 x) : Fin64 (fabs x) := by
  unfold Fin64 at *
  have : rung (fabs x) = rung x := (neg_fabs x).2
  rw [this]; exact h
theorem val_part : val 4427038433705197568 = ((2 ^ 1034 : Nat) : Int) := by kernel_rfl
theorem rv_part : rv 4427038433705197568 = 4096 * ep := by
  have h := val_rv 4427038433705197568
  rw [val_part, Rat.intCast_natCast] at h
  have e : TT = ((2 ^ 1034 : Nat) : Rat) * ((2 ^ 40 : Nat) : Rat) := by
    unfold TT
    rw [← Rat.natCast_mul, ← Nat.pow_add]
  rw [e] at h
  have hp : ((2 ^ 1034 : Nat) : Rat) ≠ 0 := by
    have : (0 : Rat) < ((2 ^ 1034 : Nat) : Rat) := by have : 0 < 2 ^ 1034 := Nat.two_pow_pos _; exact_mod_cast this
    intro e; rw [e] at this; exact absurd this Rat.lt_irrefl
  have e40 : ((2 ^ 40 : Nat) : Rat) = 1099511627776 := rfl
  rw [e40] at h
  generalize ((2 ^ 1034 : Nat) : Rat) = W at *
  have : rv 4427038433705197568 * 1099511627776 = 1 := cancel_eq hp (by grind)
  clear h e e40
  unfold ep
  grind
theorem part_fin {c : Nat} (hc : Fin64 c) : Fin64 (fmul 4427038433705197568 (fabs c)) := by
  have hk : Fin64 4427038433705197568 := by unfold Fin64; decide
  have h := (fmul_rounds hk (fabs_fin hc)).le (t := rung c) (by
    rw [val_part, val_fabs, Int.natAbs_mul, Int.natAbs_natCast, Int.natAbs_natCast, Nat.mul_comm]
    exact Nat.mul_le_mul_left _ (Nat.pow_le_pow_right (by decide) (by decide)))
  unfold Fin64 at *
  omega
theorem near_rv {a b c : Nat} (ha : Fin64 a) (hb : Fin64 b) (hc : Fin64 c) (hs : Fin64 (fsub a b)) (h1 : -(rabs (rv c) * (800 * ep)) ≤ rv a - rv b) (h2 : rv a - rv b ≤ rabs (rv c) * (800 * ep)) (T : ta ≤ rabs (rv c) * ep) : nearly a b c 4427038433705197568 = true := by
  have hk : Fin64 4427038433705197568 := by unfold Fin64; decide
  have hf := part_fin hc
  unfold nearly
  rw [fle_val (fin_nan (fabs_fin hs)) (fin_nan hf), decide_eq_true_eq, ← rv_le, rv_fabs]
  obtain ⟨s1, s2⟩ := sub_err ha hb hs h1 h2
  have hX := (rabs_bnd (rv c)).2.2
  generalize hXX : rabs (rv c) = X at *
  obtain ⟨m1, m2⟩ := mul_err (M := X * (4096 * ep)) hk (fabs_fin hc) hf (by rw [rv_part, rv_fabs, hXX]; unfold ep; grind) (by rw [rv_part, rv_fabs, hXX]; grind)
  rw [rv_part, rv_fabs, hXX] at m2
  have hL : rabs (rv (fsub a b)) ≤ X * (801 * ep) := by
    have : X * (800 * ep) * ep ≤ X * ep := by
      have := Rat.mul_le_mul_of_nonneg_left (show 800 * ep * ep ≤ ep by unfold ep; grind) hX
      grind
    exact rabs_le (by grind) (by grind)
  have hR : X * (4000 * ep) ≤ rv (fmul 4427038433705197568 (fabs c)) := by
    have : X * (4096 * ep) * ep ≤ X * ep := by
      have := Rat.mul_le_mul_of_nonneg_left (show 4096 * ep * ep ≤ ep by unfold ep; grind) hX
      grind
    have h3 : 0 ≤ X * ep := Rat.mul_nonneg hX (Rat.le_of_lt ep_pos)
    grind
  have h3 : 0 ≤ X * ep := Rat.mul_nonneg hX (Rat.le_of_lt ep_pos)
  clear s1 s2 m1 m2 h1 h2
  grind
/-! ### the greatest -/
theorem fmax_ok {x y : Nat} (hx : Fin64 x) (hy : Fin64 y) : Fin64 (fmax x y) ∧ rv x ≤ rv (fmax x y) ∧ rv y ≤ rv (fmax x y) := by
  rw [rv_le, rv_le]
  unfold fmax
  rw [order_val (fin_nan hx) (fin_nan hy)]
  rcases Int.lt_trichotomy (val x) (val y) with h | h | h
  · rw [Int.compare_eq_lt.2 h]; exact ⟨hy, Int.le_of_lt h, Int.le_refl _⟩
  · rw [Int.compare_eq_eq.2 h]
    show Fin64 (cond (FloatKind.f64.format.read x).neg y x) ∧ _
    cases (FloatKind.f64.format.read x).neg
    · exact ⟨hx, Int.le_refl _, by rw [← h]; exact Int.le_refl _⟩
    · exact ⟨hy, by rw [h]; exact Int.le_refl _, Int.le_refl _⟩
  · rw [Int.compare_eq_gt.2 h]; exact ⟨hx, Int.le_refl _, Int.le_of_lt h⟩
theorem most_fold : ∀ (l : List GMass) (a : Nat), Fin64 a → (∀ m ∈ l, Fin64 m.Centre.X ∧ Fin64 m.Centre.Y) → Fin64 (l.foldl most1 a) ∧ rv a ≤ rv (l.foldl most1 a) ∧ ∀ m ∈ l, rabs (rv m.Centre.X) ≤ rv (l.foldl most1 a) ∧ rabs (rv m.Centre.Y) ≤ rv (l.foldl most1 a) := by
  intro l
  induction l with
  | nil => intro a ha _; exact ⟨ha, Rat.le_refl, fun m h => by cases h⟩
  | cons x r ih =>
    intro a ha hm
    obtain ⟨fx, fy⟩ := hm x List.mem_cons_self
    obtain ⟨g1, g2, g3⟩ := fmax_ok ha (fabs_fin fx)
    obtain ⟨k1, k2, k3⟩ := fmax_ok g1 (fabs_fin fy)
    obtain ⟨i1, i2, i3⟩ := ih (most1 a x) k1 fun m h => hm m (List.mem_cons_of_mem _ h)
    rw [rv_fabs] at g3 k3
    rw [List.foldl_cons]
    have i2' : rv (fmax (fmax a (fabs x.Centre.X)) (fabs x.Centre.Y)) ≤ rv (r.foldl most1 (most1 a x)) := i2
    refine ⟨i1, Rat.le_trans g2 (Rat.le_trans k2 i2'), fun m h => ?_⟩
    rcases List.mem_cons.1 h with e | e
    · subst e
      exact ⟨Rat.le_trans g3 (Rat.le_trans k2 i2'), Rat.le_trans k3 i2'⟩
    · exact i3 m e
theorem most_ok {l : List GMass} (hm : ∀ m ∈ l, Fin64 m.Centre.X ∧ Fin64 m.Centre.Y) : Fin64 (mostOf l) ∧ 0 ≤ rv (mostOf l) ∧ ∀ m ∈ l, rabs (rv m.Centre.X) ≤ rv (mostOf l) ∧ rabs (rv m.Centre.Y) ≤ rv (mostOf l) := by
  have h0 : Fin64 0 := by unfold Fin64; decide
  obtain ⟨h1, h2, h3⟩ := most_fold l.reverse 0 h0 fun m h => hm m (List.mem_reverse.1 h)
  rw [rv_zero] at h2
  exact ⟨h1, h2, fun m h => h3 m (List.mem_reverse.2 h)⟩
/-! ### masses that may be -/
theorem fpos_ok {x : Nat} (h : fpos x = true) : Fin64 x ∧ 0 ≤ rv x := by
  unfold fpos at h
  rw [Bool.and_eq_true, ffin_rung, decide_eq_true_eq] at h
  have hf : Fin64 x := h.1
  refine ⟨hf, ?_⟩
  have h2 := h.2
  rw [fle_val (by decide) (fin_nan hf), decide_eq_true_eq] at h2
  exact rv_nonneg.2 (by rw [show val 0 = 0 by decide] at h2; exact h2)
theorem mok_ok {m : GMass} (h : mok m = true) : Fin64 m.Mass ∧ 0 ≤ rv m.Mass ∧ Fin64 m.Inertia ∧ 0 ≤ rv m.Inertia ∧ VBd 1062 m.Centre := by
  unfold mok at h
  rw [Bool.and_eq_true, Bool.and_eq_true] at h
  obtain ⟨a1, a2⟩ := fpos_ok h.1.1
  obtain ⟨b1, b2⟩ := fpos_ok h.1.2
  exact ⟨a1, a2, b1, b2, vwithin_bd h.2⟩
theorem join_parts {l : List GMass} (h1 : l.length ≤ 64) (h2 : 2 ≤ l.length) (hE : joinE l = 0) : (∀ m ∈ l, mok m = true) ∧ ((feq (jall l) 0 = true ∧ joinM l = mass0) ∨ (mok (jmass l) = true ∧ joinM l = jmass l)) := by
  unfold joinE at hE
  unfold joinM
  rw [decide_eq_false (by omega), cond_false] at hE ⊢
  cases ha : l.any (fun m => !mok m) with
  | true => rw [ha, cond_true] at hE; exact absurd hE (by decide)
  | false =>
    rw [ha, cond_false, show ((l.length : Int) == 0) = false from beq_eq_false_iff_ne.2 (by omega), cond_false, show ((l.length : Int) == 1) = false from beq_eq_false_iff_ne.2 (by omega), cond_false] at hE
    rw [cond_false, show ((l.length : Int) == 0) = false from beq_eq_false_iff_ne.2 (by omega), cond_false, show ((l.length : Int) == 1) = false from beq_eq_false_iff_ne.2 (by omega), cond_false]
    refine ⟨fun m hm => ?_, ?_⟩
    · rw [List.any_eq_false] at ha
      have := ha m hm
      cases h : mok m with
      | true => rfl
      | false => rw [h] at this; exact absurd rfl this
    · cases hq : feq (jall l) 0 with
      | true => exact .inl ⟨rfl, rfl⟩
      | false =>
        rw [hq, cond_false] at hE
        unfold merr at hE
        unfold mchk
        cases hk : mok (jmass l) with
        | true => exact .inr ⟨rfl, rfl⟩
        | false => rw [hk, cond_false] at hE; exact absurd hE (by decide)
/-! ### the two orders -/
theorem big {x k : Nat} (h : ((2 ^ k : Nat) : Int) ≤ val x) : ((2 ^ k : Nat) : Rat) * ta ≤ rv x := by
  have h1 : (((2 ^ k : Nat) : Int) : Rat) ≤ (val x : Rat) := by exact_mod_cast h
  rw [val_rv, Rat.intCast_natCast] at h1
  have h2 := Rat.mul_le_mul_of_nonneg_right h1 (Rat.le_of_lt ta_pos)
  have h3 := ta_T
  have e : rv x * TT * ta = rv x * (ta * TT) := by grind
  rw [e, h3, Rat.mul_one] at h2
  exact h2
theorem pow_r {j k : Nat} (h : j ≤ k) : ((2 ^ j : Nat) : Rat) ≤ ((2 ^ k : Nat) : Rat) := by
  have : 2 ^ j ≤ 2 ^ k := Nat.pow_le_pow_right (by decide) h
  exact_mod_cast this
theorem big2 {x : Nat} {k : Nat} (hk : 60 ≤ k) (h : ((2 ^ k : Nat) : Int) ≤ val x) : ta ≤ rv x * ep := by
  have h1 := big h
  have h2 := Rat.mul_le_mul_of_nonneg_right (pow_r hk) (Rat.le_of_lt ta_pos)
  have h3 : ((2 ^ 60 : Nat) : Rat) = 1152921504606846976 := rfl
  rw [h3] at h2
  have := ta_pos
  generalize ((2 ^ k : Nat) : Rat) * ta = w at *
  unfold ep
  grind
theorem pow_two (a b c d : Nat) (h : a + b = c + d) : ((2 ^ a : Nat) : Rat) * ((2 ^ b : Nat) : Rat) = ((2 ^ c : Nat) : Rat) * ((2 ^ d : Nat) : Rat) := by
  rw [← Rat.natCast_mul, ← Rat.natCast_mul, ← Nat.pow_add, ← Nat.pow_add, h]
theorem big3 {x y : Nat} (hx : ((2 ^ 974 : Nat) : Int) ≤ val x) (hy : ((2 ^ 174 : Nat) : Int) ≤ val y) : 18889465931478580854784 * ta ≤ rv x * rv y := by
  have h1 := big hx
  have h2 := big hy
  have p : ∀ k : Nat, (0 : Rat) ≤ ((2 ^ k : Nat) : Rat) := fun k => by exact_mod_cast Nat.zero_le _
  have t0 := Rat.le_of_lt ta_pos
  have g1 := Rat.mul_le_mul_of_nonneg_left h2 (Rat.mul_nonneg (p 974) t0)
  have g2 := Rat.mul_le_mul_of_nonneg_right h1 (Rat.le_trans (Rat.mul_nonneg (p 174) t0) h2)
  have e : ((2 ^ 974 : Nat) : Rat) * ((2 ^ 174 : Nat) : Rat) = ((2 ^ 74 : Nat) : Rat) * TT := by
    unfold TT
    exact pow_two 974 174 74 1074 rfl
  have e2 : ((2 ^ 974 : Nat) : Rat) * ta * (((2 ^ 174 : Nat) : Rat) * ta) = ((2 ^ 974 : Nat) : Rat) * ((2 ^ 174 : Nat) : Rat) * ta * ta := by
    generalize ((2 ^ 974 : Nat) : Rat) = a; generalize ((2 ^ 174 : Nat) : Rat) = b; grind
  rw [e] at e2
  have e3 : ((2 ^ 74 : Nat) : Rat) * TT * ta * ta = ((2 ^ 74 : Nat) : Rat) * ta * (ta * TT) := by grind
  rw [e3, ta_T, Rat.mul_one] at e2
  have e4 : ((2 ^ 74 : Nat) : Rat) = 18889465931478580854784 := rfl
  rw [e4] at e2
  rw [← e2]
  exact Rat.le_trans g1 g2
theorem diff_fin {x y : Nat} (hx : Fin64 x) (hy : Fin64 y) (h0 : 0 ≤ val x) (h1 : 0 ≤ val y) : Fin64 (fsub x y) := by
  have h := (fsub_rounds hx hy).le (t := max (rung x) (rung y)) (by
    have e1 := val_abs x
    have e2 := val_abs y
    have m1 := mg_le (Nat.le_max_left (rung x) (rung y))
    have m2 := mg_le (Nat.le_max_right (rung x) (rung y))
    omega)
  unfold Fin64 at *
  omega
theorem val_c1 : val 4156822456062967808 = ((2 ^ 974 : Nat) : Int) := by kernel_rfl
theorem val_c2 : val 553942754166571008 = ((2 ^ 174 : Nat) : Int) := by kernel_rfl
theorem feq_zero {x : Nat} (h : feq x 0 = true) : Fin64 x ∧ rv x = 0 := by
  have hn : isNan x = false := by
    cases hn : isNan x with
    | false => rfl
    | true =>
      have : FloatKind.f64.format.order x 0 = none := by unfold Ieee.Format.order; exact order_nan_l _ hn
      unfold feq at h
      rw [this] at h
      cases h
  rw [feq_val hn (by decide), decide_eq_true_eq, show val 0 = 0 by decide] at h
  have h2 := val_abs x
  rw [h] at h2
  have h3 : rung x = 0 := by
    rcases Nat.eq_zero_or_pos (rung x) with e | e
    · exact e
    · have := mg_lt e
      rw [show mg 0 = 0 from rfl] at this
      omega
  refine ⟨by unfold Fin64; omega, ?_⟩
  unfold rv
  rw [h]
  have := TT_ne
  grind
theorem two_orders {A B q X : Rat} (h1 : A - q ≤ X * (400 * ep)) (h2 : -(X * (400 * ep)) ≤ A - q) (h3 : B - q ≤ X * (400 * ep)) (h4 : -(X * (400 * ep)) ≤ B - q) : -(X * (800 * ep)) ≤ A - B ∧ A - B ≤ X * (800 * ep) := by grind
theorem T1_of {S X M t : Rat} (hX : 0 ≤ X) (h : 18889465931478580854784 * t ≤ M * X) (hM : M ≤ S * (101 / 100)) (ht : 0 ≤ t) : 65 * t ≤ S * X * ep := by
  have := Rat.mul_le_mul_of_nonneg_right hM hX
  have e : S * (101 / 100) * X = S * X * (101 / 100) := by grind
  rw [e] at this
  clear e
  generalize S * X = Z at *
  generalize M * X = Y at *
  clear hX hM
  unfold ep
  grind
theorem side_near {c : GMass → Nat} {l : List GMass} {C : Nat} (h1 : l.length ≤ 64) (hC : Fin64 C) (hC0 : 0 ≤ rv C) (hm : ∀ m ∈ l, Fin64 m.Mass ∧ 0 ≤ rv m.Mass ∧ Fin64 (c m) ∧ -(rv C) ≤ rv (c m) ∧ rv (c m) ≤ rv C)
    (ha : Fin64 (jall l)) (ha' : Fin64 (jall l.reverse)) (hz : Bd 1062 (fdiv (jsum c l) (jall l))) (hz' : Bd 1062 (fdiv (jsum c l.reverse) (jall l.reverse))) (hS : 0 < gsum (fun m => rv m.Mass) l) (T1 : 65 * ta ≤ gsum (fun m => rv m.Mass) l * rv C * ep) (T2 : ta ≤ rv C * ep) :
    nearly (fdiv (jsum c l) (jall l)) (fdiv (jsum c l.reverse) (jall l.reverse)) C 4427038433705197568 = true := by
  have hSne : gsum (fun m => rv m.Mass) l ≠ 0 := fun e => by rw [e] at hS; exact absurd hS Rat.lt_irrefl
  have hq : (gsum (fun m => rv m.Mass * rv (c m)) l / gsum (fun m => rv m.Mass) l) * gsum (fun m => rv m.Mass) l = gsum (fun m => rv m.Mass * rv (c m)) l := Rat.div_mul_cancel hSne
  obtain ⟨a1, a2⟩ := centre_err hC0 h1 hm (fdiv_fin ha hz.fin) ha hz.fin hS T1 T2 hq
  rw [← gsum_rev (fun m => rv m.Mass)] at hS T1
  have hq' := hq
  rw [← gsum_rev (fun m => rv m.Mass * rv (c m)), ← gsum_rev (fun m => rv m.Mass)] at hq'
  obtain ⟨b1, b2⟩ := centre_err hC0 (by rw [List.length_reverse]; exact h1) (fun m h => hm m (List.mem_reverse.1 h)) (fdiv_fin ha' hz'.fin) ha' hz'.fin hS T1 T2 hq'
  rw [gsum_rev (fun m => rv m.Mass * rv (c m)), gsum_rev (fun m => rv m.Mass)] at b1 b2
  obtain ⟨d1, d2⟩ := two_orders a1 a2 b1 b2
  have hX : rabs (rv C) = rv C := by unfold rabs; rw [if_neg (by grind)]
  exact near_rv hz.fin hz'.fin hC (hz.sub hz' (by decide)).fin (by rw [hX]; exact d1) (by rw [hX]; exact d2) (by rw [hX]; exact T2)
theorem near_main {l : List GMass} (h1 : l.length ≤ 64) (h2 : 2 ≤ l.length) (hE : joinE l = 0) (hE' : joinE l.reverse = 0) : near12 (joinM l) (joinM l.reverse) (mostOf l) = true := by
  unfold near12
  cases ht1 : flt (joinM l).Mass 4156822456062967808 with
  | true => rfl
  | false =>
    cases ht2 : flt (mostOf l) 553942754166571008 with
    | true => rfl
    | false =>
      obtain ⟨hm, hd⟩ := join_parts h1 h2 hE
      have hlr : l.reverse.length = l.length := List.length_reverse
      obtain ⟨_, hd'⟩ := join_parts (l := l.reverse) (by omega) (by omega) hE'
      rcases hd with ⟨_, e⟩ | ⟨hk, e⟩
      · rw [e] at ht1; exact absurd ht1 (by decide)
      · rw [e] at ht1 ⊢
        obtain ⟨fM, pM, _, _, vC⟩ := mok_ok hk
        have fM : Fin64 (jall l) := fM
        have pM : 0 ≤ rv (jall l) := pM
        have hc := fun m h => mok_ok (hm m h)
        obtain ⟨fC, pC, bC⟩ := most_ok (l := l) fun m h => ⟨(hc m h).2.2.2.2.x.fin, (hc m h).2.2.2.2.y.fin⟩
        have ht1 : flt (jall l) 4156822456062967808 = false := ht1
        rw [flt_val (fin_nan fM) (by decide), val_c1, decide_eq_false_iff_not, Int.not_lt] at ht1
        rw [flt_val (fin_nan fC) (by decide), val_c2, decide_eq_false_iff_not, Int.not_lt] at ht2
        have TM := big2 (by decide) ht1
        have TX := big2 (by decide) ht2
        have T3 := big3 ht1 ht2
        have hta := ta_pos
        have hMpos : 0 < rv (jall l) := by clear T3 TX; unfold ep at TM; grind
        obtain ⟨a1, a2⟩ := all_err h1 (fun m h => (hc m h).2.1) fM
        have hS0 := gsum_nn (f := fun m => rv m.Mass) (l := l) fun m h => (hc m h).2.1
        have hS1 : gsum (fun m => rv m.Mass) l * (128 * ep) ≤ gsum (fun m => rv m.Mass) l * (1 / 200) := Rat.mul_le_mul_of_nonneg_left (by unfold ep; grind) hS0
        have hS : 0 < gsum (fun m => rv m.Mass) l := by clear T3 TX TM a2; grind
        have hMS : rv (jall l) ≤ gsum (fun m => rv m.Mass) l * (101 / 100) := by clear T3 TX TM a2; grind
        have hSM : gsum (fun m => rv m.Mass) l ≤ rv (jall l) * (101 / 100) := by clear T3 TX TM a1; grind
        have T1 := T1_of pC T3 hMS (Rat.le_of_lt hta)
        have mem' : ∀ m ∈ l.reverse, 0 ≤ rv m.Mass := fun m h => (hc m (List.mem_reverse.1 h)).2.1
        have fM' : Fin64 (jall l.reverse) ∧ mok (jmass l.reverse) = true ∧ joinM l.reverse = jmass l.reverse := by
          rcases hd' with ⟨z, _⟩ | ⟨k, e2⟩
          · obtain ⟨z1, z2⟩ := feq_zero z
            obtain ⟨_, b2⟩ := all_err (by omega) mem' z1
            rw [z2, gsum_rev (fun m => rv m.Mass)] at b2
            clear T3 TX TM a1 a2 T1 hMS hSM
            grind
          · exact ⟨(mok_ok k).1, k, e2⟩
        obtain ⟨fM', hk', e'⟩ := fM'
        obtain ⟨_, pM', _, _, vC'⟩ := mok_ok hk'
        have pM' : 0 ≤ rv (jall l.reverse) := pM'
        rw [e']
        obtain ⟨b1, b2⟩ := all_err (l := l.reverse) (by omega) mem' fM'
        rw [gsum_rev (fun m => rv m.Mass)] at b1 b2
        have hXM : rabs (rv (jall l)) = rv (jall l) := by unfold rabs; rw [if_neg (by clear T3 TX TM a1 a2 T1 hMS hSM b1 b2; grind)]
        have hSe : gsum (fun m => rv m.Mass) l * (256 * ep) ≤ rv (jall l) * (800 * ep) := by
          have := Rat.mul_le_mul_of_nonneg_right hSM (show 0 ≤ 256 * ep by unfold ep; grind)
          have h0 : 0 ≤ rv (jall l) * ep := Rat.mul_nonneg pM (Rat.le_of_lt ep_pos)
          clear T3 TX TM a1 a2 T1 hMS hSM b1 b2 hS1 hS
          grind
        have n1 : nearly (jall l) (jall l.reverse) (jall l) 4427038433705197568 = true :=
          near_rv fM fM' fM (diff_fin fM fM' (rv_nonneg.1 pM) (rv_nonneg.1 pM')) (by rw [hXM]; clear T3 TX TM T1 hMS hSM hS1 hS; grind) (by rw [hXM]; clear T3 TX TM T1 hMS hSM hS1 hS; grind) (by rw [hXM]; exact TM)
        have n2 : nearly (jmass l).Centre.X (jmass l.reverse).Centre.X (mostOf l) 4427038433705197568 = true :=
          side_near (c := fun m => m.Centre.X) h1 fC pC (fun m h => by
            obtain ⟨r1, r2, _⟩ := rabs_bnd (rv m.Centre.X)
            have := (bC m h).1
            exact ⟨(hc m h).1, (hc m h).2.1, (hc m h).2.2.2.2.x.fin, by clear T3 TX TM T1 hMS hSM hS1 hS a1 a2 b1 b2; grind, by clear T3 TX TM T1 hMS hSM hS1 hS a1 a2 b1 b2; grind⟩) fM fM' vC.x vC'.x hS T1 TX
        have n3 : nearly (jmass l).Centre.Y (jmass l.reverse).Centre.Y (mostOf l) 4427038433705197568 = true :=
          side_near (c := fun m => m.Centre.Y) h1 fC pC (fun m h => by
            obtain ⟨r1, r2, _⟩ := rabs_bnd (rv m.Centre.Y)
            have := (bC m h).2
            exact ⟨(hc m h).1, (hc m h).2.1, (hc m h).2.2.2.2.y.fin, by clear T3 TX TM T1 hMS hSM hS1 hS a1 a2 b1 b2; grind, by clear T3 TX TM T1 hMS hSM hS1 hS a1 a2 b1 b2; grind⟩) fM fM' vC.y vC'.y hS T1 TX
        show (false || false || (nearly (jall l) (jall l.reverse) (jall l) 4427038433705197568 && _ && _)) = true
        rw [n1, n2, n3]
        rfl
end Go.SX

/- The law MassAbout answers true. No statement of the seat is proved here. -/
namespace Go.SX
open Go.Proofs Ieee
set_option maxRecDepth 20000
theorem Rounds.nonneg {z : Nat} {a : Int} {d : Nat} (h : Rounds z a d) (ha : 0 ≤ a) : 0 ≤ val z := by
  rcases Int.lt_or_eq_of_le ha with g | g
  · exact val_nonneg (h.sign.1 g)
  · have h0 : rung z ≤ 0 := h.le (by rw [← g]; simp)
    have h1 : rung z = 0 := by omega
    have := val_abs z
    rw [h1, show mg 0 = 0 from rfl] at this
    omega
theorem add_nought {x z : Nat} (hx : Fin64 x) (hz : Fin64 z) (h : val z = 0) : Fin64 (fadd x z) ∧ val (fadd x z) = val x := by
  have hr := fadd_rounds hx hz
  rw [h, Int.add_zero] at hr
  have h1 : rung (fadd x z) ≤ rung x := hr.le (by rw [val_abs]; omega)
  have hf : Fin64 (fadd x z) := by unfold Fin64 at *; omega
  have h2 : rung x ≤ rung (fadd x z) := hr.ge (by unfold Fin64 at hx; omega) (by rw [val_abs]; omega)
  have e : rung (fadd x z) = rung x := by omega
  obtain ⟨p1, p2, _, _⟩ := hr.fin_parts hf Nat.one_pos
  refine ⟨hf, ?_⟩
  have ha := val_abs x
  rcases Int.le_total 0 (val x) with g | g
  · rw [p1 g, e]; omega
  · rw [p2 g, e]; omega
theorem mul_nought {x : Nat} (hx : Fin64 x) : Fin64 (fmul x 0) ∧ val (fmul x 0) = 0 := by
  have h0 : Fin64 0 := by unfold Fin64; decide
  have hr := fmul_rounds hx h0
  rw [show val 0 = 0 by decide, Int.mul_zero] at hr
  have h1 : rung (fmul x 0) ≤ 0 := hr.le (Nat.zero_le _)
  have hf : Fin64 (fmul x 0) := by unfold Fin64; omega
  refine ⟨hf, ?_⟩
  have := val_abs (fmul x 0)
  rw [show rung (fmul x 0) = 0 by omega, show mg 0 = 0 from rfl] at this
  omega
theorem about_own {m : GMass} (h : mok m = true) : Fin64 (mabout m m.Centre) ∧ val (mabout m m.Centre) = val m.Inertia := by
  obtain ⟨fM, _, fI, _, vC⟩ := mok_ok h
  have e : vsub m.Centre m.Centre = ⟨0, 0⟩ := by
    show GVec.mk (fsub m.Centre.X m.Centre.X) (fsub m.Centre.Y m.Centre.Y) = _
    rw [fsub_self vC.x.fin, fsub_self vC.y.fin]
  unfold mabout
  rw [e, show vsq ⟨0, 0⟩ = 0 by decide]
  obtain ⟨g1, g2⟩ := mul_nought fM
  exact add_nought fI g1 g2
theorem inf_word : FloatKind.f64.format.write (.infinity false) = 9218868437227405312 := by decide
theorem add_inf {x z : Nat} (hx : Fin64 x) (hz : FloatKind.f64.format.read z = .infinity false) : fadd x z = 9218868437227405312 := by
  obtain ⟨n, k, e, _⟩ := val_read hx
  unfold fadd Format.add
  rw [e, hz, show (Datum.number (neg? x) n (-1074 + (k : Int))).sum (.infinity false) = some (.infinity false) from rfl, Option.map_some, Option.getD_some]
  exact inf_word
theorem inf_not_nan : isNan 9218868437227405312 = false := by decide
theorem inf_above {x : Nat} (hx : Fin64 x) : val x ≤ val 9218868437227405312 := by
  have h1 := (val_inf hx).1
  have h2 : val 9218868437227405312 = (mg 9218868437227405312 : Int) := (val_pos (by decide)).1
  rw [h2]
  exact Int.le_of_lt h1
theorem add_more {x z : Nat} {a : Int} {d : Nat} (hx : Fin64 x) (h0 : 0 ≤ val x) (hz : Rounds z a d) (ha : 0 ≤ a) : isNan (fadd x z) = false ∧ val x ≤ val (fadd x z) := by
  have hz0 := hz.nonneg ha
  by_cases hf : Fin64 z
  · have hr := fadd_rounds hx hf
    refine ⟨hr.nan, ?_⟩
    have h2 : rung x ≤ rung (fadd x z) := hr.ge (by unfold Fin64 at hx; omega) (by have := val_abs x; omega)
    have h3 := hr.nonneg (by omega)
    have h4 := val_abs (fadd x z)
    have h5 := val_abs x
    have := mg_le h2
    omega
  · have hi : rung z = 9218868437227405312 := by
      have hn := hz.nan
      rw [isNan_rung, decide_eq_false_iff_not] at hn
      unfold Fin64 at hf
      omega
    have hs : neg? z = false := by
      rcases Int.lt_or_eq_of_le ha with g | g
      · exact hz.sign.1 g
      · have : rung z ≤ 0 := hz.le (by rw [← g]; simp)
        omega
    have hrd : FloatKind.f64.format.read z = .infinity false := by
      rw [read_eq, if_neg (by omega), if_neg (by omega), if_pos hi, hs]
    rw [add_inf hx hrd]
    exact ⟨inf_not_nan, inf_above hx⟩
theorem about_more {m : GMass} {p : GVec} (h : mok m = true) (hp : vwithin p 4787326403894837248 = true) : flt (mabout m p) (mabout m m.Centre) = false := by
  obtain ⟨fM, pM, fI, pI, vC⟩ := mok_ok h
  obtain ⟨fA, vA⟩ := about_own h
  have vP := vwithin_bd hp
  have vD := vP.sub vC (by decide)
  have b1 := vD.x.mul vD.x (n := 1104) (by decide) (by decide)
  have b2 := vD.y.mul vD.y (n := 1104) (by decide) (by decide)
  have hD : 0 ≤ val (vsq (vsub p m.Centre)) := (fadd_rounds b1.fin b2.fin).nonneg (by
    have := sq_nonneg vD.x.fin
    have := sq_nonneg vD.y.fin
    omega)
  have fD : Fin64 (vsq (vsub p m.Centre)) := (b1.add b2 (by decide)).fin
  obtain ⟨n1, n2⟩ := add_more fI (rv_nonneg.1 pI) (fmul_rounds fM fD) (Int.mul_nonneg (rv_nonneg.1 pM) hD)
  have n1 : isNan (mabout m p) = false := n1
  have n2 : val m.Inertia ≤ val (mabout m p) := n2
  rw [flt_val n1 (fin_nan fA), vA, decide_eq_false_iff_not]
  omega
theorem bad_no {m : GMass} (p : GVec) (h : mok m = true) : bad12 m p = false := by
  have hc : vwithin m.Centre 4787326403894837248 = true := by
    unfold mok at h
    rw [Bool.and_eq_true] at h
    exact h.2
  obtain ⟨fA, vA⟩ := about_own h
  have fI := (mok_ok h).2.2.1
  unfold bad12 abE abM
  rw [h, hc]
  simp only [Bool.true_and, Bool.not_true, Bool.false_or, cond_true, cond_false]
  rw [feq_val (fin_nan fA) (fin_nan fI), vA]
  cases hp : vwithin p 4787326403894837248 with
  | true => rw [cond_true, about_more h hp]; simp
  | false => simp
theorem joinM_ok {l : List GMass} (h1 : l.length ≤ 64) (hE : joinE l = 0) : mok (joinM l) = true := by
  rcases Nat.lt_or_ge l.length 2 with h | h
  · cases l with
    | nil => decide
    | cons x r =>
      cases r with
      | nil =>
        unfold joinE at hE
        unfold joinM
        cases hx : mok x with
        | true => simp [hx]
        | false => simp [hx] at hE
      | cons y r => have : (x :: y :: r).length = r.length + 2 := rfl; omega
  · obtain ⟨_, hd⟩ := join_parts h1 h hE
    rcases hd with ⟨_, e⟩ | ⟨k, e⟩
    · rw [e]; decide
    · rw [e]; exact k
theorem tail_ok (l : List GMass) (p : GVec) (h1 : l.length ≤ 64) (K) : tail12 l l.reverse p (mostOf l) K = K (.bool true) [] [] := by
  unfold tail12
  cases hb : (joinE l != 0) || (joinE l.reverse != 0) with
  | true => rfl
  | false =>
    rw [Bool.or_eq_false_iff] at hb
    have hE : joinE l = 0 := by simpa using hb.1
    have hE' : joinE l.reverse = 0 := by simpa using hb.2
    rw [cond_false, bad_no p (joinM_ok h1 hE), cond_false]
    cases l with
    | nil =>
      show K (.bool (near12 (joinM []) (joinM []) (mostOf []))) [] [] = _
      have : near12 (joinM []) (joinM []) (mostOf []) = true := by decide
      rw [this]
    | cons x r =>
      cases r with
      | nil =>
        have e : joinM [x] = x := by
          unfold joinM
          unfold joinE at hE
          cases hx : mok x with
          | true => simp [hx]
          | false => simp [hx] at hE
        rw [e]
        show K (.bool (msame x x)) [] [] = _
        rw [msame_self]
      | cons y r =>
        rw [show (((x :: y :: r).length : Int) == 1) = false from beq_eq_false_iff_ne.2 (by simp; omega), cond_false, near_main h1 (by simp) hE hE']
theorem joinE_bad {l : List GMass} {m : GMass} (h1 : l.length ≤ 64) (hm : m ∈ l) (h : mok m = false) : joinE l = 80 := by
  unfold joinE
  rw [decide_eq_false (by omega), cond_false, show l.any (fun m => !mok m) = true from List.any_eq_true.2 ⟨m, hm, by rw [h]; rfl⟩, cond_true]
def c12 : FC G := FC.sp [.l .mass, .s .vec] fun _ => .bool true
theorem ok12 : FcOk Try.prog 12 c12 := sp_lp L12ok Try.func12 (by kernel_rfl) (by kernel_rfl) fun (l, p, _) _ => by
  by_cases h : (l : List GMass).length ≤ 64
  · refine ⟨E12 l p (mostOf l) (l : List GMass).reverse, lps1 (i := 10) (by kernel_rfl) rfl (lp12 l p h), fun K => (x12 l p _ _ K).trans ?_⟩
    rw [decide_eq_false (by omega), cond_false, gate_pos ⟨rfl, rfl⟩, tail_ok l p h]
    cases hb : (joinE l == 80) && decide (((l : List GMass).length : Int) > 0) with
    | false => rfl
    | true =>
      rw [Bool.and_eq_true, decide_eq_true_eq] at hb
      have hlen : 0 < (l : List GMass).length := by omega
      rw [cond_true, show getI (l : List GMass) 0 = some (getM l 0) from getI_M (k := 0) hlen, Option.bind_some]
      cases hm : merr (getM l 0) != 0 with
      | false => rfl
      | true =>
        have hk : mok (getM l 0) = false := by
          unfold merr at hm
          cases hk : mok (getM l 0) with
          | false => rfl
          | true => rw [hk] at hm; exact absurd hm (by decide)
        have mem : getM l 0 ∈ (l : List GMass).reverse := by
          rw [List.mem_reverse]
          unfold getM
          rw [List.getD_eq_getElem?_getD, List.getElem?_eq_getElem hlen]
          exact List.getElem_mem hlen
        have e1 : joinE (l : List GMass) = 80 := by simpa using hb.1
        rw [joinE_bad (by rw [List.length_reverse]; exact h) mem hk, e1]
        rfl
  · refine ⟨[], LpsOk.of _ fun _ _ _ _ h => (by cases h), fun K => (x12n l p K).trans ?_⟩
    rw [decide_eq_true (by omega)]
    rfl
end Go.SX

/- PRINTED BY A PROGRAM OF THIS SEAT: what comes in, opened: values of the seat's types out of their readings. No statement of the seat is proved here. -/
namespace Go.SX
open Go.Proofs
set_option maxRecDepth 20000
abbrev stb (W : World) : Stb := fun k => W.heap[k]?
/-- Cells that stand for RVs. -/
def CR (W : World) (cs : List Value) (rs : List (RV G)) : Prop := cs.length = rs.length ∧ ∀ (j : Nat) (u : Value) (r : RV G), cs[j]? = some u → rs[j]? = some r → RVal (fun _ => none) (stb W) u r
theorem CR.nil (W : World) : CR W [] [] := ⟨rfl, fun j u r h => by simp at h⟩
theorem CR.one {W : World} {u : Value} {r : RV G} (h : RVal (fun _ => none) (stb W) u r) : CR W [u] [r] := ⟨rfl, fun j v q hv hq => by
  cases j with
  | zero => cases hv; cases hq; exact h
  | succ j => simp at hv⟩
theorem CR.app {W : World} {a b : List Value} {r s : List (RV G)} (h : CR W a r) (g : CR W b s) : CR W (a ++ b) (r ++ s) := by
  refine ⟨by rw [List.length_append, List.length_append, h.1, g.1], fun j u q hu hq => ?_⟩
  by_cases hj : j < a.length
  · rw [List.getElem?_append_left hj] at hu
    rw [List.getElem?_append_left (by rw [← h.1]; exact hj)] at hq
    exact h.2 j u q hu hq
  · rw [List.getElem?_append_right (by omega)] at hu
    rw [List.getElem?_append_right (by rw [← h.1]; omega), ← h.1] at hq
    exact g.2 _ u q hu hq
theorem CR.step {W : World} {cs : List Value} {off sz : Nat} {r s : List (RV G)} (h : CR W ((cs.drop off).take sz) r) (g : CR W (cs.drop (off + sz)) s) : CR W (cs.drop off) (r ++ s) := by
  have := h.app g
  rwa [take_drop_step] at this
theorem CR.done {W : World} {cs : List Value} {off : Nat} (h : cs.length = off) : CR W (cs.drop off) [] := by
  rw [List.drop_eq_nil_of_le (by omega)]
  exact .nil W
/-- What is read of a type stands for one of these. -/
def Op (W : World) (t : Nat) {α : Type} (en : α → List (RV G)) : Prop := ∀ (H : Type) (e : TypeId × Value → H) (fuel : Nat) (cs : List Value) (y : DataW H × List MemPlace), DataW.trod e Try.prog W 0 (fun _ => true) true fuel t cs = some y → ∃ x : α, CR W cs (en x)
theorem some_at {α : Type} {xs : List α} {n i : Nat} (h : xs.length = n) (hi : i < n) : ∃ y, xs[i]? = some y := ⟨_, List.getElem?_eq_getElem (by omega)⟩
theorem op_int {W : World} {t : Nat} {k : IntKind} (ht : Try.prog.underlying t = some (.int k)) : Op W t (fun x : Int => [.int k x]) := fun H e fuel cs y h => by
  obtain ⟨n, rfl, _, _⟩ := DataW.trod_int ht h
  exact ⟨n, .one (.int _ _)⟩
theorem op_bool {W : World} {t : Nat} (ht : Try.prog.underlying t = some .bool) : Op W t (fun x : Bool => [.bool x]) := fun H e fuel cs y h => by
  obtain ⟨n, rfl, _⟩ := DataW.trod_bool ht h
  exact ⟨n, .one (.bool _)⟩
theorem op_flt {W : World} {t : Nat} (ht : Try.prog.underlying t = some (.float .f64)) : Op W t (fun x : Nat => [.flt x]) := fun H e fuel cs y h => by
  cases fuel with
  | zero => simp [DataW.trod] at h
  | succ m =>
    unfold DataW.trod at h
    rw [ht] at h
    split at h <;> simp_all
    rename_i k b hk
    obtain ⟨⟨rfl, hw⟩, _⟩ := h
    subst hk
    exact ⟨b, .one (.flt (FEq.refl _) (by simpa [Lit.wf] using hw))⟩
theorem cells_at {W : World} {a : Addr} {n : Nat} {cs : List Value} (h : W.cells? 0 a n = some cs) : cs.length = n ∧ ∀ j, j < n → W.cell? (a.add j) = cs[j]? := by
  unfold World.cells? at h
  rw [if_pos (Nat.zero_le _)] at h
  refine ⟨by simpa using mapM_some_length h, fun j hj => ?_⟩
  exact mapM_some_get h j j (by simp [hj])
/-- A slice's elements. -/
theorem op_slice {W : World} {t e : Nat} {c : TC} {sz : Nat} (ht : Try.prog.underlying t = some (.slice e)) (hc : Try.prog.cellsOf e = sz) (hz : sz = sizeG c) (hp : 0 < sz) (he : Op W e (encG c)) : Op W t (fun xs : List (TD c) => [.rslice c xs]) := fun H en fuel cs y h => by
  rcases DataW.trod_slice ht h with ⟨rfl, _⟩ | ⟨a, len, cap, elems, rest, n, _, rfl, _, _, hl, hm, hlen, hel, _⟩
  · exact ⟨[], .one (.rslice0 fun _ => rfl)⟩
  · by_cases h0 : len = 0
    · subst h0
      exact ⟨[], .one (.rslice0 fun h => by cases h)⟩
    · rw [hc] at hel
      have each : ∀ i, i < len → ∃ x : TD c, ∃ es : List Value, CR W es (encG c x) ∧ es.length = sz ∧ ∀ j, j < sz → W.cell? (a.add (i * sz + j)) = es[j]? := fun i hi => by
        obtain ⟨y, hy⟩ := some_at hlen hi
        have := hel i hi
        rw [hy, Option.bind_eq_some_iff] at this
        obtain ⟨es, h1, h2⟩ := this
        obtain ⟨g1, g2⟩ := cells_at h1
        obtain ⟨x, hx⟩ := he H en n es y h2
        refine ⟨x, es, hx, g1, fun j hj => ?_⟩
        rw [← g2 j hj, Go.Addr.add_add]
      obtain ⟨xs, hxs, hall⟩ : ∃ xs : List (TD c), xs.length = len ∧ ∀ i x, xs[i]? = some x → ∃ es : List Value, CR W es (encG c x) ∧ es.length = sz ∧ ∀ j, j < sz → W.cell? (a.add (i * sz + j)) = es[j]? := by
        refine ⟨List.ofFn fun i : Fin len => Classical.choose (each i.1 i.2), by simp, fun i x hx => ?_⟩
        rw [List.getElem?_ofFn] at hx
        split at hx
        · rename_i hi
          cases hx
          exact Classical.choose_spec (each i hi)
        · cases hx
      obtain ⟨b, off, spot⟩ := a
      obtain ⟨x0, hx0⟩ : ∃ x, xs[0]? = some x := ⟨_, List.getElem?_eq_getElem (by omega)⟩
      obtain ⟨es0, _, q1, q2⟩ := hall 0 x0 hx0
      have hc0 := q2 0 hp
      rw [List.getElem?_eq_getElem (by omega)] at hc0
      have hspot : spot = none := by simpa [Addr.add] using World.cell?_spot hc0
      subst hspot
      have hadd : ∀ j, Addr.add ⟨b, off, none⟩ j = ⟨b, off + j, none⟩ := fun j => by unfold Addr.add; split <;> simp_all
      obtain ⟨arr, ty, fr, hk⟩ : ∃ arr ty fr, W.heap[b]? = some (.cells arr ty fr) := by
        unfold World.cell? at hc0
        rw [hadd] at hc0
        split at hc0
        · exact ⟨_, _, _, by assumption⟩
        · cases hc0
      have hcell : ∀ j, W.cell? ⟨b, j, none⟩ = arr[j]? := fun j => by simp [World.cell?, hk]
      have hm' : maxLen = 9223372036854775807 := by decide
      refine ⟨xs, .one (.rslice hxs.symm (off := off) hk ⟨hl, by omega⟩ (fun i j x r hx hr => ?_) (fun i j x r u hx hr hu => ?_))⟩
      · obtain ⟨es, p1, p2, p3⟩ := hall i x hx
        have hj : j < sz := by rw [hz]; have := (List.getElem?_eq_some_iff.1 hr).1; rw [show (Enc.enc c x : List (RV G)) = encG c x from rfl, encG_size] at this; exact this
        have := p3 j hj
        rw [hadd, hcell, List.getElem?_eq_getElem (by omega)] at this
        have := (Array.getElem?_eq_some_iff.1 this).1
        show off + i * sizeG c + j < arr.size
        rw [← hz]
        omega
      · obtain ⟨es, p1, p2, p3⟩ := hall i x hx
        have hj : j < sz := by rw [hz]; have := (List.getElem?_eq_some_iff.1 hr).1; rw [show (Enc.enc c x : List (RV G)) = encG c x from rfl, encG_size] at this; exact this
        have := p3 j hj
        rw [hadd, hcell] at this
        have hu' : arr[off + i * sizeG c + j]? = some u := hu
        rw [← hz, Nat.add_assoc] at hu'
        rw [hu'] at this
        exact p1.2 j u r this.symm hr
theorem cells26 : Try.prog.cellsOf 26 = 2 := by kernel_rfl
theorem cells24 : Try.prog.cellsOf 24 = 1 := by kernel_rfl
theorem op26 (W : World) : Op W 26 (encG .vec) := fun H e fuel cs y h => by
  obtain ⟨xs, n, rfl, _, hl, hx, hf⟩ := DataW.trod_struct Try.underlying26 h
  rw [cells26] at hl
  have hx : xs.length = 2 := hx
  obtain ⟨y0, hy0⟩ := some_at hx (show 0 < 2 by decide)
  have h0 := hf 0 _ rfl
  simp only [hy0] at h0
  obtain ⟨x0, c0⟩ := (op_flt Try.underlying24 : Op W 24 _) H e n _ _ h0
  obtain ⟨y1, hy1⟩ := some_at hx (show 1 < 2 by decide)
  have h1 := hf 1 _ rfl
  simp only [hy1] at h1
  obtain ⟨x1, c1⟩ := (op_flt Try.underlying24 : Op W 24 _) H e n _ _ h1
  exact ⟨⟨x0, x1⟩, CR.step c0 (CR.step c1 (.done hl))⟩
theorem cells39 : Try.prog.cellsOf 39 = 6 := by kernel_rfl
theorem cells37 : Try.prog.cellsOf 37 = 1 := by kernel_rfl
theorem op39 (W : World) : Op W 39 (encG .point) := fun H e fuel cs y h => by
  obtain ⟨xs, n, rfl, _, hl, hx, hf⟩ := DataW.trod_struct Try.underlying39 h
  rw [cells39] at hl
  have hx : xs.length = 5 := hx
  obtain ⟨y0, hy0⟩ := some_at hx (show 0 < 5 by decide)
  have h0 := hf 0 _ rfl
  simp only [hy0] at h0
  obtain ⟨x0, c0⟩ := (op26 W : Op W 26 _) H e n _ _ h0
  obtain ⟨y1, hy1⟩ := some_at hx (show 1 < 5 by decide)
  have h1 := hf 1 _ rfl
  simp only [hy1] at h1
  obtain ⟨x1, c1⟩ := (op_flt Try.underlying24 : Op W 24 _) H e n _ _ h1
  obtain ⟨y2, hy2⟩ := some_at hx (show 2 < 5 by decide)
  have h2 := hf 2 _ rfl
  simp only [hy2] at h2
  obtain ⟨x2, c2⟩ := (op_int Try.underlying37 : Op W 37 _) H e n _ _ h2
  obtain ⟨y3, hy3⟩ := some_at hx (show 3 < 5 by decide)
  have h3 := hf 3 _ rfl
  simp only [hy3] at h3
  obtain ⟨x3, c3⟩ := (op_flt Try.underlying24 : Op W 24 _) H e n _ _ h3
  obtain ⟨y4, hy4⟩ := some_at hx (show 4 < 5 by decide)
  have h4 := hf 4 _ rfl
  simp only [hy4] at h4
  obtain ⟨x4, c4⟩ := (op_flt Try.underlying24 : Op W 24 _) H e n _ _ h4
  exact ⟨⟨x0, x1, x2, x3, x4⟩, CR.step c0 (CR.step c1 (CR.step c2 (CR.step c3 (CR.step c4 (.done hl)))))⟩
theorem cells27 : Try.prog.cellsOf 27 = 1 := by kernel_rfl
theorem op27 (W : World) : Op W 27 (fun xs : List (TD .point) => [.rslice .point xs]) := op_slice Try.underlying27 cells39 rfl (by decide) (op39 W)
theorem cells23 : Try.prog.cellsOf 23 = 4 := by kernel_rfl
theorem cells3 : Try.prog.cellsOf 3 = 1 := by kernel_rfl
theorem op23 (W : World) : Op W 23 (encG .pair) := fun H e fuel cs y h => by
  obtain ⟨xs, n, rfl, _, hl, hx, hf⟩ := DataW.trod_struct Try.underlying23 h
  rw [cells23] at hl
  have hx : xs.length = 4 := hx
  obtain ⟨y0, hy0⟩ := some_at hx (show 0 < 4 by decide)
  have h0 := hf 0 _ rfl
  simp only [hy0] at h0
  obtain ⟨x0, c0⟩ := (op_int Try.underlying3 : Op W 3 _) H e n _ _ h0
  obtain ⟨y1, hy1⟩ := some_at hx (show 1 < 4 by decide)
  have h1 := hf 1 _ rfl
  simp only [hy1] at h1
  obtain ⟨x1, c1⟩ := (op_int Try.underlying3 : Op W 3 _) H e n _ _ h1
  obtain ⟨y2, hy2⟩ := some_at hx (show 2 < 4 by decide)
  have h2 := hf 2 _ rfl
  simp only [hy2] at h2
  obtain ⟨x2, c2⟩ := (op_int Try.underlying3 : Op W 3 _) H e n _ _ h2
  obtain ⟨y3, hy3⟩ := some_at hx (show 3 < 4 by decide)
  have h3 := hf 3 _ rfl
  simp only [hy3] at h3
  obtain ⟨x3, c3⟩ := (op_int Try.underlying3 : Op W 3 _) H e n _ _ h3
  exact ⟨⟨x0, x1, x2, x3⟩, CR.step c0 (CR.step c1 (CR.step c2 (CR.step c3 (.done hl))))⟩
theorem cells29 : Try.prog.cellsOf 29 = 8 := by kernel_rfl
theorem cells4 : Try.prog.cellsOf 4 = 1 := by kernel_rfl
theorem op29 (W : World) : Op W 29 (encG .touch) := fun H e fuel cs y h => by
  obtain ⟨xs, n, rfl, _, hl, hx, hf⟩ := DataW.trod_struct Try.underlying29 h
  rw [cells29] at hl
  have hx : xs.length = 4 := hx
  obtain ⟨y0, hy0⟩ := some_at hx (show 0 < 4 by decide)
  have h0 := hf 0 _ rfl
  simp only [hy0] at h0
  obtain ⟨x0, c0⟩ := (op23 W : Op W 23 _) H e n _ _ h0
  obtain ⟨y1, hy1⟩ := some_at hx (show 1 < 4 by decide)
  have h1 := hf 1 _ rfl
  simp only [hy1] at h1
  obtain ⟨x1, c1⟩ := (op_bool Try.underlying4 : Op W 4 _) H e n _ _ h1
  obtain ⟨y2, hy2⟩ := some_at hx (show 2 < 4 by decide)
  have h2 := hf 2 _ rfl
  simp only [hy2] at h2
  obtain ⟨x2, c2⟩ := (op26 W : Op W 26 _) H e n _ _ h2
  obtain ⟨y3, hy3⟩ := some_at hx (show 3 < 4 by decide)
  have h3 := hf 3 _ rfl
  simp only [hy3] at h3
  obtain ⟨x3, c3⟩ := (op27 W : Op W 27 _) H e n _ _ h3
  exact ⟨⟨x0, x1, x2, x3⟩, CR.step c0 (CR.step c1 (CR.step c2 (CR.step c3 (.done hl))))⟩
theorem cells69 : Try.prog.cellsOf 69 = 14 := by kernel_rfl
theorem op69 (W : World) : Op W 69 (encG .row) := fun H e fuel cs y h => by
  obtain ⟨xs, n, rfl, _, hl, hx, hf⟩ := DataW.trod_struct Try.underlying69 h
  rw [cells69] at hl
  have hx : xs.length = 12 := hx
  obtain ⟨y0, hy0⟩ := some_at hx (show 0 < 12 by decide)
  have h0 := hf 0 _ rfl
  simp only [hy0] at h0
  obtain ⟨x0, c0⟩ := (op_int Try.underlying3 : Op W 3 _) H e n _ _ h0
  obtain ⟨y1, hy1⟩ := some_at hx (show 1 < 12 by decide)
  have h1 := hf 1 _ rfl
  simp only [hy1] at h1
  obtain ⟨x1, c1⟩ := (op_int Try.underlying3 : Op W 3 _) H e n _ _ h1
  obtain ⟨y2, hy2⟩ := some_at hx (show 2 < 12 by decide)
  have h2 := hf 2 _ rfl
  simp only [hy2] at h2
  obtain ⟨x2, c2⟩ := (op26 W : Op W 26 _) H e n _ _ h2
  obtain ⟨y3, hy3⟩ := some_at hx (show 3 < 12 by decide)
  have h3 := hf 3 _ rfl
  simp only [hy3] at h3
  obtain ⟨x3, c3⟩ := (op26 W : Op W 26 _) H e n _ _ h3
  obtain ⟨y4, hy4⟩ := some_at hx (show 4 < 12 by decide)
  have h4 := hf 4 _ rfl
  simp only [hy4] at h4
  obtain ⟨x4, c4⟩ := (op_flt Try.underlying24 : Op W 24 _) H e n _ _ h4
  obtain ⟨y5, hy5⟩ := some_at hx (show 5 < 12 by decide)
  have h5 := hf 5 _ rfl
  simp only [hy5] at h5
  obtain ⟨x5, c5⟩ := (op_flt Try.underlying24 : Op W 24 _) H e n _ _ h5
  obtain ⟨y6, hy6⟩ := some_at hx (show 6 < 12 by decide)
  have h6 := hf 6 _ rfl
  simp only [hy6] at h6
  obtain ⟨x6, c6⟩ := (op_flt Try.underlying24 : Op W 24 _) H e n _ _ h6
  obtain ⟨y7, hy7⟩ := some_at hx (show 7 < 12 by decide)
  have h7 := hf 7 _ rfl
  simp only [hy7] at h7
  obtain ⟨x7, c7⟩ := (op_flt Try.underlying24 : Op W 24 _) H e n _ _ h7
  obtain ⟨y8, hy8⟩ := some_at hx (show 8 < 12 by decide)
  have h8 := hf 8 _ rfl
  simp only [hy8] at h8
  obtain ⟨x8, c8⟩ := (op_flt Try.underlying24 : Op W 24 _) H e n _ _ h8
  obtain ⟨y9, hy9⟩ := some_at hx (show 9 < 12 by decide)
  have h9 := hf 9 _ rfl
  simp only [hy9] at h9
  obtain ⟨x9, c9⟩ := (op_flt Try.underlying24 : Op W 24 _) H e n _ _ h9
  obtain ⟨y10, hy10⟩ := some_at hx (show 10 < 12 by decide)
  have h10 := hf 10 _ rfl
  simp only [hy10] at h10
  obtain ⟨x10, c10⟩ := (op_int Try.underlying3 : Op W 3 _) H e n _ _ h10
  obtain ⟨y11, hy11⟩ := some_at hx (show 11 < 12 by decide)
  have h11 := hf 11 _ rfl
  simp only [hy11] at h11
  obtain ⟨x11, c11⟩ := (op_flt Try.underlying24 : Op W 24 _) H e n _ _ h11
  exact ⟨⟨x0, x1, x2, x3, x4, x5, x6, x7, x8, x9, x10, x11⟩, CR.step c0 (CR.step c1 (CR.step c2 (CR.step c3 (CR.step c4 (CR.step c5 (CR.step c6 (CR.step c7 (CR.step c8 (CR.step c9 (CR.step c10 (CR.step c11 (.done hl))))))))))))⟩
theorem cells30 : Try.prog.cellsOf 30 = 1 := by kernel_rfl
theorem op30 (W : World) : Op W 30 (fun xs : List (TD .row) => [.rslice .row xs]) := op_slice Try.underlying30 cells69 rfl (by decide) (op69 W)
theorem cells63 : Try.prog.cellsOf 63 = 5 := by kernel_rfl
theorem op63 (W : World) : Op W 63 (encG .still) := fun H e fuel cs y h => by
  obtain ⟨xs, n, rfl, _, hl, hx, hf⟩ := DataW.trod_struct Try.underlying63 h
  rw [cells63] at hl
  have hx : xs.length = 4 := hx
  obtain ⟨y0, hy0⟩ := some_at hx (show 0 < 4 by decide)
  have h0 := hf 0 _ rfl
  simp only [hy0] at h0
  obtain ⟨x0, c0⟩ := (op_flt Try.underlying24 : Op W 24 _) H e n _ _ h0
  obtain ⟨y1, hy1⟩ := some_at hx (show 1 < 4 by decide)
  have h1 := hf 1 _ rfl
  simp only [hy1] at h1
  obtain ⟨x1, c1⟩ := (op_flt Try.underlying24 : Op W 24 _) H e n _ _ h1
  obtain ⟨y2, hy2⟩ := some_at hx (show 2 < 4 by decide)
  have h2 := hf 2 _ rfl
  simp only [hy2] at h2
  obtain ⟨x2, c2⟩ := (op26 W : Op W 26 _) H e n _ _ h2
  obtain ⟨y3, hy3⟩ := some_at hx (show 3 < 4 by decide)
  have h3 := hf 3 _ rfl
  simp only [hy3] at h3
  obtain ⟨x3, c3⟩ := (op_flt Try.underlying24 : Op W 24 _) H e n _ _ h3
  exact ⟨⟨x0, x1, x2, x3⟩, CR.step c0 (CR.step c1 (CR.step c2 (CR.step c3 (.done hl))))⟩
theorem cells42 : Try.prog.cellsOf 42 = 1 := by kernel_rfl
theorem op42 (W : World) : Op W 42 (fun xs : List (TD .still) => [.rslice .still xs]) := op_slice Try.underlying42 cells63 rfl (by decide) (op63 W)
theorem cells55 : Try.prog.cellsOf 55 = 1 := by kernel_rfl
theorem op55 (W : World) : Op W 55 (fun xs : List (TD .i64) => [.rslice .i64 xs]) := op_slice Try.underlying55 cells3 rfl (by decide) (op_int Try.underlying3)
theorem cells79 : Try.prog.cellsOf 79 = 4 := by kernel_rfl
theorem op79 (W : World) : Op W 79 (encG .mass) := fun H e fuel cs y h => by
  obtain ⟨xs, n, rfl, _, hl, hx, hf⟩ := DataW.trod_struct Try.underlying79 h
  rw [cells79] at hl
  have hx : xs.length = 3 := hx
  obtain ⟨y0, hy0⟩ := some_at hx (show 0 < 3 by decide)
  have h0 := hf 0 _ rfl
  simp only [hy0] at h0
  obtain ⟨x0, c0⟩ := (op_flt Try.underlying24 : Op W 24 _) H e n _ _ h0
  obtain ⟨y1, hy1⟩ := some_at hx (show 1 < 3 by decide)
  have h1 := hf 1 _ rfl
  simp only [hy1] at h1
  obtain ⟨x1, c1⟩ := (op_flt Try.underlying24 : Op W 24 _) H e n _ _ h1
  obtain ⟨y2, hy2⟩ := some_at hx (show 2 < 3 by decide)
  have h2 := hf 2 _ rfl
  simp only [hy2] at h2
  obtain ⟨x2, c2⟩ := (op26 W : Op W 26 _) H e n _ _ h2
  exact ⟨⟨x0, x1, x2⟩, CR.step c0 (CR.step c1 (CR.step c2 (.done hl)))⟩
theorem cells77 : Try.prog.cellsOf 77 = 1 := by kernel_rfl
theorem op77 (W : World) : Op W 77 (fun xs : List (TD .mass) => [.rslice .mass xs]) := op_slice Try.underlying77 cells79 rfl (by decide) (op79 W)
theorem cells89 : Try.prog.cellsOf 89 = 1 := by kernel_rfl
theorem op89 (W : World) : Op W 89 (fun xs : List (TD .vec) => [.rslice .vec xs]) := op_slice Try.underlying89 cells26 rfl (by decide) (op26 W)
theorem cells95 : Try.prog.cellsOf 95 = 3 := by kernel_rfl
theorem cells5 : Try.prog.cellsOf 5 = 1 := by kernel_rfl
theorem op95 (W : World) : Op W 95 (encG .shape) := fun H e fuel cs y h => by
  obtain ⟨xs, n, rfl, _, hl, hx, hf⟩ := DataW.trod_struct Try.underlying95 h
  rw [cells95] at hl
  have hx : xs.length = 3 := hx
  obtain ⟨y0, hy0⟩ := some_at hx (show 0 < 3 by decide)
  have h0 := hf 0 _ rfl
  simp only [hy0] at h0
  obtain ⟨x0, c0⟩ := (op_int Try.underlying5 : Op W 5 _) H e n _ _ h0
  obtain ⟨y1, hy1⟩ := some_at hx (show 1 < 3 by decide)
  have h1 := hf 1 _ rfl
  simp only [hy1] at h1
  obtain ⟨x1, c1⟩ := (op_flt Try.underlying24 : Op W 24 _) H e n _ _ h1
  obtain ⟨y2, hy2⟩ := some_at hx (show 2 < 3 by decide)
  have h2 := hf 2 _ rfl
  simp only [hy2] at h2
  obtain ⟨x2, c2⟩ := (op89 W : Op W 89 _) H e n _ _ h2
  exact ⟨⟨x0, x1, x2⟩, CR.step c0 (CR.step c1 (CR.step c2 (.done hl)))⟩
end Go.SX

/- From a law's contract to what its row asks of a call. No statement of the seat is proved here. -/
namespace Go.SX
open Go.Proofs Go.RowKit
set_option maxRecDepth 20000

theorem start_inv (W : World) : Inv W.heap.size (Mof ⟨fun _ => none, stb W⟩ []) ⟨fun _ => none, stb W⟩ (startM (S := G) [] []) W where
  base := Nat.le_refl _
  stable _ _ h := h
  free _ _ := rfl
  has b x h := by cases h
  blk b x l h := by cases h
  lt b l k h := by cases h
  sep b b' x x' l l' k h := by cases h
  mine b x l k h := by cases h

/-- What a law's contract says of a call. -/
theorem law_calls {f : Nat} {fn : Func} {ks : List AK} (hf : Try.prog.funcs[f]? = some fn) (ho : fnOK fn = true) (h : FcOk Try.prog f (FC.sp ks fun _ => .bool true)) {x : dens ks} (hx : decs' ks (encs ks x) = some x)
    {args : Array Value} {W : World} (ha : ArgsRel (fun _ => none) (stb W) args (encs ks x)) : Calls Try.prog f args W fun e W' => e = .returned (.bool true) ∧ Below W.heap.size W W' := by
  obtain ⟨r, bs', fr, h1, h2⟩ := h.run (encs ks x) [] (fun r bs fr => some (r, bs, fr)) (.bool true, [], []) (by simp only [FC.sp, FC.ofPure, hx])
  cases h1
  have hc := h2 ⟨fun _ => none, stb W⟩ W args [] (by simp [muIds, FC.sp, FC.ofPure, mutsOf_nil]) rfl ha (fun x hx => by simp at hx) (start_inv W)
  obtain ⟨o1, o2, o3⟩ := fnOK_spec ho
  have hcall : (callFunc f args).run Try.prog W = .ok (.enter f args) W := by
    have hn : ¬ (fn.name = "runtime.NumGoroutine") := by simpa using o1
    simp [callFunc, program, Sem.run, hf, hn, o2]
  unfold CallsTo at hc
  rw [hcall] at hc
  refine hc.mono fun e W' he => ?_
  cases e with
  | returned v =>
    obtain ⟨φr, St', hr, _, _, _, hfr⟩ := he
    cases hr
    exact ⟨rfl, ⟨hfr.os, hfr.tape, hfr.output, hfr.size, fun k hk => hfr.same k hk fun ⟨id, hid, _⟩ => by simp at hid⟩⟩
  | _ => exact he.elim

theorem args_nil (W : World) : ArgsRel (fun _ => none) (stb W) #[] ([] : List (RV G)) := ⟨rfl, fun j u r h => by simp at h⟩
theorem args_cons {W : World} {v : Value} {vs : List Value} {r : RV G} {rs : List (RV G)} (h : RVal (fun _ => none) (stb W) v r) (g : ArgsRel (fun _ => none) (stb W) vs.toArray rs) : ArgsRel (fun _ => none) (stb W) (v :: vs).toArray (r :: rs) := by
  refine ⟨?_, fun j u q hu hq => ?_⟩
  · have := g.1
    simp at this ⊢
    exact this
  · cases j with
    | zero => simp at hu hq; subst hu; subst hq; exact h
    | succ j => exact g.2 j u q (by simpa using hu) (by simpa using hq)

theorem agg_of {W : World} {arr : Array Value} {l : List (RV G)} (h : CR W arr.toList l) : RVal (fun _ => none) (stb W) (.agg arr) (.agg l) :=
  .agg (by simpa using h.1) fun j u r hu hr => h.2 j u r (by simpa using hu) hr
theorem one_of {W : World} {v : Value} {r : RV G} (h : CR W [v] [r]) : RVal (fun _ => none) (stb W) v r := h.2 0 v r rfl rfl
end Go.SX
