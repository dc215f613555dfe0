/- Texts of this seat, laid together by a program: what they say stands at each. No statement of the seat is proved in this file. -/
import Derived.Test.YtkcjaejpkjojnaaMw3
import Derived.ProofKit
import Derived.OpenShut
import Derived.ShutString
import Derived.ChangeOld
import Derived.Below
import Derived.SizedLaws
set_option linter.unusedSectionVars false
set_option linter.unnecessarySimpa false
set_option linter.unusedVariables false
set_option linter.unusedSimpArgs false
set_option exponentiation.threshold 4096
/- Sums; what several masses weigh together, by the program. No statement of the seat is proved here. -/
namespace Go.SX
open Go.Proofs
set_option maxRecDepth 20000
def fsum (l : List Nat) : Nat := match l with | [] => 0 | x :: r => r.foldl fadd x
def h172 : LH G := ⟨[3, 13, 14, 15], [], []⟩
def V172 (r : List Nat) (s : Nat) (i : Int) : List (RV G) := [.flt s, .rslice .f64 r, .int .i64 r.length, .int .i64 i]
noncomputable def E172 (l : List Nat) : List (Nat × LC G) := [(5, lcOf h172 (V172 (l.drop 1) (l.getD 0 0) 0) [] fun K => K (.exit 0) (V172 (l.drop 1) (fsum l) (l.drop 1).length) [])]
theorem step172 (lp : List (Nat × LC G)) (r : List Nat) (s : Nat) (n : Nat) (i : Int) (K) : iter (EV L113 lp) h172 (lpBody Try.f172 0) (n + 1) (V172 r s i) [] K = bif decide (i < (r.length : Int)) then
    (getI r i).bind fun y => iter (EV L113 lp) h172 (lpBody Try.f172 0) n (V172 r (fadd s y) (IntKind.i64.wrap (i + 1))) [] K
  else K (.exit 0) (V172 r s i) [] := by kernel_rfl
theorem x172 (l : List Nat) (K) : xfn (EV L113 (E172 l)) Try.f172 [] (encs [.l .f64] (l, ())) [] K = bif (l.length : Int) == 0 then K (.flt 0) [] [] else (getI l 0).bind fun x =>
    bif decide ((0 : Int) ≤ 1 ∧ (1 : Int) ≤ (l.length : Int)) then gate (V172 (l.drop (1 : Int).toNat) x 0 = V172 (l.drop 1) (l.getD 0 0) 0 ∧ ([] : List (Blk G)) = []) (K (.flt (fsum l)) [] []) else none := by kernel_rfl
theorem x172n (l : List Nat) (K) : xfn (EV L113 []) Try.f172 [] (encs [.l .f64] (l, ())) [] K = bif (l.length : Int) == 0 then K (.flt 0) [] [] else (getI l 0).bind fun x =>
    bif decide ((0 : Int) ≤ 1 ∧ (1 : Int) ≤ (l.length : Int)) then none else none := by kernel_rfl
theorem foldl_range {σ α : Type} (f : σ → α → σ) (d : α) : ∀ (l : List α) (s : σ), (List.range l.length).foldl (fun s i => f s (l.getD i d)) s = l.foldl f s := by
  intro l
  induction l with
  | nil => intro s; rfl
  | cons x r ih =>
    intro s
    rw [List.length_cons, List.range_succ_eq_map, List.foldl_cons, List.foldl_map]
    exact ih _
theorem lp172 (l : List Nat) (hx : l.length < 9223372036854775808) (hl : l ≠ []) : LpOk (EV L113 (E172 l)) [] (lpBody Try.f172 0) (lcOf h172 (V172 (l.drop 1) (l.getD 0 0) 0) [] fun K => K (.exit 0) (V172 (l.drop 1) (fsum l) (l.drop 1).length) []) :=
  lcOf_ok (by kernel_rfl) fun K => ⟨_, (fold_loop (N := (l.drop 1).length) (g := fun s i => fadd s ((l.drop 1).getD i 0)) (F := fun n i s => iter (EV L113 (E172 l)) h172 (lpBody Try.f172 0) n (V172 (l.drop 1) s i) [] K) (X := fun s => K (.exit 0) (V172 (l.drop 1) s (l.drop 1).length) []) (s0 := l.getD 0 0) (fun _ _ => True) trivial
    (fun n i s hi _ => by
      have hd : (l.drop 1).length ≤ l.length := by rw [List.length_drop]; omega
      rw [step172, decide_eq_true (by omega), cond_true, getI_at hi, Option.bind_some, wrap_succ (by omega), List.getD_eq_getElem?_getD, List.getElem?_eq_getElem hi]
      rfl)
    (fun _ _ _ _ => trivial) (fun n s _ => by rw [step172, decide_eq_false (by omega)]; rfl)).trans (by
      rw [foldl_range fadd 0 (l.drop 1)]
      cases l with
      | nil => exact absurd rfl hl
      | cons x r => rfl)⟩
def c172 : FC G := FC.sp [.l .f64] fun (l, _) => .flt (fsum l)
theorem ok172 : FcOk Try.prog 172 c172 := sp_lp L113ok Try.func172 (by kernel_rfl) (by kernel_rfl) fun (l, _) ⟨hx, _⟩ => by
  have hx : (l : List Nat).length < 9223372036854775808 := hx
  cases l with
  | nil => exact ⟨[], LpsOk.of _ fun _ _ _ _ h => (by cases h), fun K => (x172n [] K).trans rfl⟩
  | cons y r =>
    have e : (((y :: r : List Nat).length : Int) == 0) = false := by simp; omega
    refine ⟨E172 (y :: r), lps1 (i := 5) (by kernel_rfl) rfl (lp172 (y :: r) hx (by simp)), fun K => (x172 (y :: r) K).trans ?_⟩
    rw [e, cond_false]
    have g : getI (y :: r : List Nat) 0 = some y := rfl
    rw [g, Option.bind_some, decide_eq_true (by simp; omega), cond_true]
    exact gate_pos ⟨rfl, rfl⟩ _
noncomputable def L172 : Ctr := (172, c172) :: L113
theorem L172ok : AllOk L172 := .cons ok172 L113ok
/-! ### sums over masses -/
def h109 : LH G := ⟨[1, 5, 11, 12, 13], [], [10]⟩
def V109 (f : RV G) (l : List GMass) (s : List Nat) (i : Int) : List (RV G) := [f, .own 10 .f64 s.length, .rslice .mass l, .int .i64 l.length, .int .i64 i]
def B109 (s : List Nat) : List (Blk G) := [.rows .f64 s]
noncomputable def E109 (f : RV G) (g : GMass → Nat) (l : List GMass) : List (Nat × LC G) := [(3, lcOf h109 (V109 f l (List.replicate l.length 0) 0) (B109 (List.replicate l.length 0)) fun K => K (.exit 0) (V109 f l (l.map g) l.length) (B109 (l.map g)))]
def put109 (g : GMass → Nat) (l : List GMass) (s : List Nat) (i : Int) (next : List Nat → Ans G) : Ans G := (getI l i).bind fun m => atN s.length s i fun _ => next (s.set i.toNat (g m))
theorem step109a (lp : List (Nat × LC G)) (l : List GMass) (s : List Nat) (n : Nat) (i : Int) (K) : iter (EV L172 lp) h109 (lpBody Try.f109 0) (n + 1) (V109 (.func 110 []) l s i) (B109 s) K = bif decide (i < (l.length : Int)) then
    put109 (fun m => m.Mass) l s i fun s' => iter (EV L172 lp) h109 (lpBody Try.f109 0) n (V109 (.func 110 []) l s' (IntKind.i64.wrap (i + 1))) (B109 s') K else K (.exit 0) (V109 (.func 110 []) l s i) (B109 s) := by kernel_rfl
theorem step109b (lp : List (Nat × LC G)) (l : List GMass) (s : List Nat) (n : Nat) (i : Int) (K) : iter (EV L172 lp) h109 (lpBody Try.f109 0) (n + 1) (V109 (.func 111 []) l s i) (B109 s) K = bif decide (i < (l.length : Int)) then
    put109 (fun m => fmul m.Mass m.Centre.X) l s i fun s' => iter (EV L172 lp) h109 (lpBody Try.f109 0) n (V109 (.func 111 []) l s' (IntKind.i64.wrap (i + 1))) (B109 s') K else K (.exit 0) (V109 (.func 111 []) l s i) (B109 s) := by kernel_rfl
theorem step109c (lp : List (Nat × LC G)) (l : List GMass) (s : List Nat) (n : Nat) (i : Int) (K) : iter (EV L172 lp) h109 (lpBody Try.f109 0) (n + 1) (V109 (.func 112 []) l s i) (B109 s) K = bif decide (i < (l.length : Int)) then
    put109 (fun m => fmul m.Mass m.Centre.Y) l s i fun s' => iter (EV L172 lp) h109 (lpBody Try.f109 0) n (V109 (.func 112 []) l s' (IntKind.i64.wrap (i + 1))) (B109 s') K else K (.exit 0) (V109 (.func 112 []) l s i) (B109 s) := by kernel_rfl
theorem step109d (lp : List (Nat × LC G)) (c : GVec) (l : List GMass) (s : List Nat) (n : Nat) (i : Int) (K) : iter (EV L172 lp) h109 (lpBody Try.f109 0) (n + 1) (V109 (.func 113 [.rptr (encG .vec c) 0]) l s i) (B109 s) K = bif decide (i < (l.length : Int)) then
    put109 (fun m => mabout m c) l s i fun s' => iter (EV L172 lp) h109 (lpBody Try.f109 0) n (V109 (.func 113 [.rptr (encG .vec c) 0]) l s' (IntKind.i64.wrap (i + 1))) (B109 s') K else K (.exit 0) (V109 (.func 113 [.rptr (encG .vec c) 0]) l s i) (B109 s) := by kernel_rfl
theorem lp109 (f : RV G) (g : GMass → Nat) (l : List GMass) (hl : l.length ≤ 1048576)
    (hs : ∀ (s : List Nat) (n : Nat) (i : Int) K, iter (EV L172 (E109 f g l)) h109 (lpBody Try.f109 0) (n + 1) (V109 f l s i) (B109 s) K = bif decide (i < (l.length : Int)) then
      put109 g l s i fun s' => iter (EV L172 (E109 f g l)) h109 (lpBody Try.f109 0) n (V109 f l s' (IntKind.i64.wrap (i + 1))) (B109 s') K else K (.exit 0) (V109 f l s i) (B109 s)) :
    LpOk (EV L172 (E109 f g l)) [] (lpBody Try.f109 0) (lcOf h109 (V109 f l (List.replicate l.length 0) 0) (B109 (List.replicate l.length 0)) fun K => K (.exit 0) (V109 f l (l.map g) l.length) (B109 (l.map g))) :=
  lcOf_ok (by kernel_rfl) fun K => ⟨_, (fold_loop (N := l.length) (g := fun s i => s.set i (g (l.getD i mass0))) (F := fun n i s => iter (EV L172 (E109 f g l)) h109 (lpBody Try.f109 0) n (V109 f l s i) (B109 s) K) (X := fun s => K (.exit 0) (V109 f l s l.length) (B109 s)) (s0 := List.replicate l.length 0) (fun _ s => s.length = l.length) (by simp)
    (fun n i s hi h => by
      have hm : getI l (i : Int) = some (l.getD i mass0) := by rw [getI_at hi, List.getD_eq_getElem?_getD, List.getElem?_eq_getElem hi]; rfl
      rw [hs, decide_eq_true (by omega), cond_true]
      unfold put109
      rw [hm, Option.bind_some, atN_any (by omega) (by omega) (Nat.le_refl _), wrap_succ (by omega), Int.toNat_natCast])
    (fun i s _ h => by simp [h]) (fun n s _ => by rw [hs, decide_eq_false (by omega)]; rfl)).trans (by
      have main : ∀ n, n ≤ l.length → ∀ k, k < l.length → ((List.range n).foldl (fun s i => s.set i (g (l.getD i mass0))) (List.replicate l.length 0))[k]? = some (if k < n then g (l.getD k mass0) else 0) ∧ ((List.range n).foldl (fun s i => s.set i (g (l.getD i mass0))) (List.replicate l.length 0)).length = l.length := by
        intro n
        induction n with
        | zero => intro _ k hk; simp [hk]
        | succ n ih =>
          intro hn k hk
          obtain ⟨g1, g2⟩ := ih (by omega) k hk
          rw [List.range_succ, List.foldl_append]
          simp only [List.foldl_cons, List.foldl_nil, List.length_set, g2, and_true]
          rw [List.getElem?_set, g1, g2]
          by_cases e : n = k
          · subst e; simp [hk]
          · rw [if_neg e]
            congr 1
            by_cases h : k < n
            · rw [if_pos h, if_pos (by omega)]
            · rw [if_neg h, if_neg (by omega)]
      have e : (List.range l.length).foldl (fun s i => s.set i (g (l.getD i mass0))) (List.replicate l.length 0) = l.map g := by
        apply List.ext_getElem?
        intro k
        by_cases hk : k < l.length
        · rw [(main l.length (Nat.le_refl _) k hk).1, if_pos hk, List.getElem?_map, List.getD_eq_getElem?_getD, List.getElem?_eq_getElem hk]
          rfl
        · rcases Nat.eq_zero_or_pos l.length with h0 | h0
          · have : l = [] := List.eq_nil_of_length_eq_zero h0
            subst this; rfl
          · rw [List.getElem?_eq_none (by rw [(main l.length (Nat.le_refl _) 0 h0).2]; omega), List.getElem?_eq_none (by simp; omega)]
      rw [e])⟩
theorem x109a (l : List GMass) (K) : xfn (EV L172 (E109 (.func 110 []) (fun m => m.Mass) l)) Try.f109 [] (encs [.l .mass, .f 110] (l, (), ())) [] K = bif decide (0 ≤ (l.length : Int) ∧ (l.length : Int) * ((8 : Nat) : Int) ≤ 2 ^ 47 ∧ 0 < 8) then
    gate (V109 (.func 110 []) l (List.replicate (l.length : Int).toNat 0) 0 = V109 (.func 110 []) l (List.replicate l.length 0) 0 ∧ B109 (List.replicate (l.length : Int).toNat 0) = B109 (List.replicate l.length 0)) (K (.flt (fsum (l.map fun m => m.Mass))) [] []) else none := by kernel_rfl
theorem x109b (l : List GMass) (K) : xfn (EV L172 (E109 (.func 111 []) (fun m => fmul m.Mass m.Centre.X) l)) Try.f109 [] (encs [.l .mass, .f 111] (l, (), ())) [] K = bif decide (0 ≤ (l.length : Int) ∧ (l.length : Int) * ((8 : Nat) : Int) ≤ 2 ^ 47 ∧ 0 < 8) then
    gate (V109 (.func 111 []) l (List.replicate (l.length : Int).toNat 0) 0 = V109 (.func 111 []) l (List.replicate l.length 0) 0 ∧ B109 (List.replicate (l.length : Int).toNat 0) = B109 (List.replicate l.length 0)) (K (.flt (fsum (l.map fun m => fmul m.Mass m.Centre.X))) [] []) else none := by kernel_rfl
theorem x109c (l : List GMass) (K) : xfn (EV L172 (E109 (.func 112 []) (fun m => fmul m.Mass m.Centre.Y) l)) Try.f109 [] (encs [.l .mass, .f 112] (l, (), ())) [] K = bif decide (0 ≤ (l.length : Int) ∧ (l.length : Int) * ((8 : Nat) : Int) ≤ 2 ^ 47 ∧ 0 < 8) then
    gate (V109 (.func 112 []) l (List.replicate (l.length : Int).toNat 0) 0 = V109 (.func 112 []) l (List.replicate l.length 0) 0 ∧ B109 (List.replicate (l.length : Int).toNat 0) = B109 (List.replicate l.length 0)) (K (.flt (fsum (l.map fun m => fmul m.Mass m.Centre.Y))) [] []) else none := by kernel_rfl
theorem x109d (l : List GMass) (c : GVec) (K) : xfn (EV L172 (E109 (.func 113 [.rptr (encG .vec c) 0]) (fun m => mabout m c) l)) Try.f109 [] (encs [.l .mass, .fp 113 .vec] (l, c, ())) [] K = bif decide (0 ≤ (l.length : Int) ∧ (l.length : Int) * ((8 : Nat) : Int) ≤ 2 ^ 47 ∧ 0 < 8) then
    gate (V109 (.func 113 [.rptr (encG .vec c) 0]) l (List.replicate (l.length : Int).toNat 0) 0 = V109 (.func 113 [.rptr (encG .vec c) 0]) l (List.replicate l.length 0) 0 ∧ B109 (List.replicate (l.length : Int).toNat 0) = B109 (List.replicate l.length 0)) (K (.flt (fsum (l.map fun m => mabout m c))) [] []) else none := by kernel_rfl
theorem none109 : LpsOk (EV L172 []) [] (bodyD Try.f109) := LpsOk.of _ fun _ _ _ _ h => (by cases h)
theorem ok109a : FcOk Try.prog 109 (FC.rn [.l .mass, .f 110] fun (l, _, _) K => gate ((l : List GMass).length ≤ 1048576) (K (.flt (fsum ((l : List GMass).map fun m => m.Mass))) [] [])) := rn_lp L172ok Try.func109 (by kernel_rfl) (by kernel_rfl) (fun _ K o h => ⟨_, _, _, (gate_some h).2⟩) fun (l, _, _) _ => by
  by_cases hl : (l : List GMass).length ≤ 1048576
  · refine ⟨_, lps1 (i := 3) (by kernel_rfl) rfl (lp109 _ _ l hl (step109a _ l)), fun K o h => (x109a l K).trans ?_⟩
    rw [decide_eq_true (by omega), cond_true, gate_pos ⟨rfl, rfl⟩]
    exact (gate_some h).2
  · exact ⟨[], none109, fun K o h => absurd (gate_some h).1 hl⟩
theorem ok109b : FcOk Try.prog 109 (FC.rn [.l .mass, .f 111] fun (l, _, _) K => gate ((l : List GMass).length ≤ 1048576) (K (.flt (fsum ((l : List GMass).map fun m => fmul m.Mass m.Centre.X))) [] [])) := rn_lp L172ok Try.func109 (by kernel_rfl) (by kernel_rfl) (fun _ K o h => ⟨_, _, _, (gate_some h).2⟩) fun (l, _, _) _ => by
  by_cases hl : (l : List GMass).length ≤ 1048576
  · refine ⟨_, lps1 (i := 3) (by kernel_rfl) rfl (lp109 _ _ l hl (step109b _ l)), fun K o h => (x109b l K).trans ?_⟩
    rw [decide_eq_true (by omega), cond_true, gate_pos ⟨rfl, rfl⟩]
    exact (gate_some h).2
  · exact ⟨[], none109, fun K o h => absurd (gate_some h).1 hl⟩
theorem ok109c : FcOk Try.prog 109 (FC.rn [.l .mass, .f 112] fun (l, _, _) K => gate ((l : List GMass).length ≤ 1048576) (K (.flt (fsum ((l : List GMass).map fun m => fmul m.Mass m.Centre.Y))) [] [])) := rn_lp L172ok Try.func109 (by kernel_rfl) (by kernel_rfl) (fun _ K o h => ⟨_, _, _, (gate_some h).2⟩) fun (l, _, _) _ => by
  by_cases hl : (l : List GMass).length ≤ 1048576
  · refine ⟨_, lps1 (i := 3) (by kernel_rfl) rfl (lp109 _ _ l hl (step109c _ l)), fun K o h => (x109c l K).trans ?_⟩
    rw [decide_eq_true (by omega), cond_true, gate_pos ⟨rfl, rfl⟩]
    exact (gate_some h).2
  · exact ⟨[], none109, fun K o h => absurd (gate_some h).1 hl⟩
theorem ok109d : FcOk Try.prog 109 (FC.rn [.l .mass, .fp 113 .vec] fun (l, c, _) K => gate ((l : List GMass).length ≤ 1048576) (K (.flt (fsum ((l : List GMass).map fun m => mabout m c))) [] [])) := rn_lp L172ok Try.func109 (by kernel_rfl) (by kernel_rfl) (fun _ K o h => ⟨_, _, _, (gate_some h).2⟩) fun (l, c, _) _ => by
  by_cases hl : (l : List GMass).length ≤ 1048576
  · refine ⟨_, lps1 (i := 3) (by kernel_rfl) rfl (lp109 _ _ l hl (step109d _ c l)), fun K o h => (x109d l c K).trans ?_⟩
    rw [decide_eq_true (by omega), cond_true, gate_pos ⟨rfl, rfl⟩]
    exact (gate_some h).2
  · exact ⟨[], none109, fun K o h => absurd (gate_some h).1 hl⟩
noncomputable def c109 : FC G := FC.alt (ks := [.l .mass, .f 110]) (fun (l, _, _) K => gate ((l : List GMass).length ≤ 1048576) (K (.flt (fsum ((l : List GMass).map fun m => m.Mass))) [] []))
  (FC.alt (ks := [.l .mass, .f 111]) (fun (l, _, _) K => gate ((l : List GMass).length ≤ 1048576) (K (.flt (fsum ((l : List GMass).map fun m => fmul m.Mass m.Centre.X))) [] []))
  (FC.alt (ks := [.l .mass, .f 112]) (fun (l, _, _) K => gate ((l : List GMass).length ≤ 1048576) (K (.flt (fsum ((l : List GMass).map fun m => fmul m.Mass m.Centre.Y))) [] []))
  (FC.rn [.l .mass, .fp 113 .vec] fun (l, c, _) K => gate ((l : List GMass).length ≤ 1048576) (K (.flt (fsum ((l : List GMass).map fun m => mabout m c))) [] []))))
theorem ok109 : FcOk Try.prog 109 c109 := .alt ok109a (.alt ok109b (.alt ok109c ok109d rfl) rfl) rfl
noncomputable def L109 : Ctr := (109, c109) :: L172
theorem L109ok : AllOk L109 := .cons ok109 L172ok
/-! ### Join -/
def jall (l : List GMass) : Nat := fsum (l.map fun m => m.Mass)
def jx (l : List GMass) : Nat := fsum (l.map fun m => fmul m.Mass m.Centre.X)
def jy (l : List GMass) : Nat := fsum (l.map fun m => fmul m.Mass m.Centre.Y)
def jc (l : List GMass) : GVec := ⟨fdiv (jx l) (jall l), fdiv (jy l) (jall l)⟩
def jturn (l : List GMass) : Nat := fsum (l.map fun m => mabout m (jc l))
def jmass (l : List GMass) : GMass := ⟨jall l, jturn l, jc l⟩
def joinM (l : List GMass) : GMass := bif decide ((l.length : Int) > 16384) then mass0 else bif l.any (fun m => !mok m) then mass0 else bif (l.length : Int) == 0 then mass0 else bif (l.length : Int) == 1 then l.getD 0 mass0 else bif feq (jall l) 0 then mass0 else mchk (jmass l)
def joinE (l : List GMass) : Int := bif decide ((l.length : Int) > 16384) then 4 else bif l.any (fun m => !mok m) then 80 else bif (l.length : Int) == 0 then 0 else bif (l.length : Int) == 1 then 0 else bif feq (jall l) 0 then 0 else merr (jmass l)
def h50 : LH G := ⟨[0, 2, 3, 16, 17, 18], [], [2]⟩
def V50 (l : List GMass) (e i : Int) : List (RV G) := [.rslice .mass l, .ptr 2 0 0 0, .int .i64 e, .rslice .mass l, .int .i64 l.length, .int .i64 i]
def B50 : List (Blk G) := [.cells (encG .mass mass0)]
def OUT50 (l : List GMass) (K : XE → List (RV G) → List (Blk G) → Ans G) : Ans G := bif l.any (fun m => !mok m) then K .ret (V50 l 80 (l.findIdx (fun m => !mok m) : Nat)) B50 else K (.exit 0) (V50 l 0 (l.length : Nat)) B50
noncomputable def E50 (l : List GMass) : List (Nat × LC G) := [(4, lcOf h50 (V50 l 0 0) B50 (OUT50 l))]
theorem step50 (l : List GMass) (n : Nat) (i : Int) (K) : iter (EV L109 (E50 l)) h50 (lpBody Try.f50 0) (n + 1) (V50 l 0 i) B50 K = bif decide (i < (l.length : Int)) then (getI l i).bind fun m =>
    bif merr m != 0 then K .ret (V50 l (merr m) i) B50 else iter (EV L109 (E50 l)) h50 (lpBody Try.f50 0) n (V50 l 0 (IntKind.i64.wrap (i + 1))) B50 K
  else K (.exit 0) (V50 l 0 i) B50 := by kernel_rfl
theorem merr_K {β : Type} (m : GMass) (X : Int → β) (Y : β) : (bif merr m != 0 then X (merr m) else Y) = bif !mok m then X 80 else Y := by
  unfold merr
  cases mok m <;> rfl
theorem lp50 (l : List GMass) (hx : l.length < 9223372036854775808) : LpOk (EV L109 (E50 l)) [] (lpBody Try.f50 0) (lcOf h50 (V50 l 0 0) B50 (OUT50 l)) := lcOf_ok (by kernel_rfl) fun K => ⟨_, find_loop (xs := l) (p := fun m => !mok m) (F := fun n i => iter (EV L109 (E50 l)) h50 (lpBody Try.f50 0) n (V50 l 0 i) B50 K)
  (R := fun i => K .ret (V50 l 80 i) B50) (X := fun i => K (.exit 0) (V50 l 0 i) B50) (fun n i => by
    rw [step50]
    congr 1
    congr 1
    funext m
    exact merr_K m (fun e => K .ret (V50 l e i) B50) _) hx⟩
def jres (m : GMass) (e : Int) : RV G := .tuple [encR .mass m, .int .i64 e]
theorem x50 (l : List GMass) (K) : xfn (EV L109 (E50 l)) Try.f50 [] (encs [.l .mass] (l, ())) [] K = bif decide ((l.length : Int) > 16384) then K (jres mass0 4) [] [] else gate (V50 l 0 0 = V50 l 0 0 ∧ B50 = B50)
    (bif l.any (fun m => !mok m) then K (jres mass0 80) [] [] else bif (l.length : Int) == 0 then K (jres mass0 0) [] [] else bif (l.length : Int) == 1 then (getI l 0).bind fun m => K (jres m 0) [] [] else
      gate (l.length ≤ 1048576) (bif feq (jall l) 0 then K (jres mass0 0) [] [] else gate (l.length ≤ 1048576) (gate (l.length ≤ 1048576) (gate (l.length ≤ 1048576) (K (jres (mchk (jmass l)) (merr (jmass l))) [] []))))) := by kernel_rfl
def c50 : FC G := FC.sp [.l .mass] fun (l, _) => jres (joinM l) (joinE l)
theorem ok50 : FcOk Try.prog 50 c50 := sp_lp L109ok Try.func50 (by kernel_rfl) (by kernel_rfl) fun (l, _) ⟨hx, _⟩ => ⟨E50 l, lps1 (i := 4) (by kernel_rfl) rfl (lp50 l hx), fun K => (x50 l K).trans (by
  show _ = K (jres (joinM l) (joinE l)) [] []
  unfold joinM joinE
  cases h1 : decide (((l : List GMass).length : Int) > 16384) with
  | true => rfl
  | false =>
    have hl : (l : List GMass).length ≤ 1048576 := by simp at h1; omega
    rw [gate_pos ⟨rfl, rfl⟩]
    cases (l : List GMass).any (fun m => !mok m) with
    | true => rfl
    | false =>
      cases h3 : ((l : List GMass).length : Int) == 0 with
      | true => rfl
      | false => cases h4 : ((l : List GMass).length : Int) == 1 with
        | true =>
          cases l with
          | nil => simp at h4
          | cons y r => rfl
        | false =>
          rw [gate_pos hl]
          cases feq (jall l) 0 with
          | true => rfl
          | false => rw [gate_pos hl, gate_pos hl, gate_pos hl]; rfl)⟩
noncomputable def L50 : Ctr := (50, c50) :: L109
theorem L50ok : AllOk L50 := .cons ok50 L109ok
end Go.SX

/- What several masses weigh together, by the reference. No statement of the seat is proved here. -/
namespace Go.SX
open Go.Proofs Ieee
set_option maxRecDepth 20000
/-! ### a difference and its opposite -/
theorem neg_word (b : Bool) (r : Nat) (h : r < 9223372036854775808) : rung (double.word b r) = r ∧ neg? (double.word b r) = b := by
  unfold Format.word Format.signWeight double rung neg?
  cases b
  · simp; omega
  · simp; omega
theorem nearest_word (m : Nat) (p : Int) : ∃ r, r < 9223372036854775808 ∧ ∀ b, double.nearest b m p = double.word b r := by
  by_cases h : m = 0
  · exact ⟨0, by omega, fun b => by unfold Format.nearest; rw [if_pos h]⟩
  · refine ⟨min ((max (p + m.log2 - double.fractionBits) double.leastPlace - double.leastPlace).toNat * double.binade + Toward.even.cut false (m <<< (p - max (p + m.log2 - double.fractionBits) double.leastPlace).toNat) (max (p + m.log2 - double.fractionBits) double.leastPlace - p).toNat) double.infRung, ?_, fun b => ?_⟩
    · have : double.infRung < 9223372036854775808 := by decide
      omega
    · unfold Format.nearest
      rw [if_neg h]
      rfl
/-- The square of a float does not ask its sign. -/
theorem fmul_self_rung {x y : Nat} (h : rung x = rung y) : fmul x x = fmul y y := by
  unfold fmul Format.mul
  have hf : FloatKind.f64.format = double := rfl
  rw [read_eq, read_eq, h]
  by_cases h1 : rung y < 4503599627370496
  · simp only [if_pos h1, Datum.product, Bool.xor_self]
  · by_cases h2 : rung y < 9218868437227405312
    · simp only [if_neg h1, if_pos h2, Datum.product, Bool.xor_self]
    · by_cases h3 : rung y = 9218868437227405312
      · simp only [if_neg h1, if_neg h2, if_pos h3, Datum.product, Bool.xor_self]
      · simp only [if_neg h1, if_neg h2, if_neg h3, Datum.product]
theorem rung_nearest (b c : Bool) (m : Nat) (p : Int) : rung (double.nearest b m p) = rung (double.nearest c m p) := by
  obtain ⟨r, hr, h⟩ := nearest_word m p
  rw [h, h, (neg_word b r hr).1, (neg_word c r hr).1]
theorem signed_not (b : Bool) (m k : Nat) : signed (!b) m k = -signed b m k := by
  unfold signed
  cases b <;> simp
def subD (a b : Datum) : Nat := ((a.sum b.opposite).map double.write).getD qnan
theorem subD_rung (a b : Datum) : rung (subD a b) = rung (subD b a) := by
  unfold subD
  cases a with
  | nan s f => cases b <;> rfl
  | infinity s => cases b with
    | nan t f => rfl
    | infinity t => cases s <;> cases t <;> rfl
    | number t n j =>
      simp only [Datum.opposite, Datum.sum, Option.map_some, Option.getD_some, Format.write]
      rw [(neg_word _ _ (by decide)).1, (neg_word _ _ (by decide)).1]
  | number s m i => cases b with
    | nan t f => rfl
    | infinity t =>
      simp only [Datum.opposite, Datum.sum, Option.map_some, Option.getD_some, Format.write]
      rw [(neg_word _ _ (by decide)).1, (neg_word _ _ (by decide)).1]
    | number t n j =>
      simp only [Datum.opposite, Datum.sum, Option.map_some, Option.getD_some, Format.write]
      have e : signed t n (j - min j i).toNat + signed (!s) m (i - min j i).toNat = -(signed s m (i - min i j).toNat + signed (!t) n (j - min i j).toNat) := by
        rw [signed_not, signed_not, Int.min_comm j i]; omega
      rw [e, Int.natAbs_neg, Int.min_comm j i]
      exact rung_nearest _ _ _ _
theorem fsub_rung (x y : Nat) : rung (fsub x y) = rung (fsub y x) := subD_rung _ _
theorem vsq_sub (a b : GVec) : vsq (vsub a b) = vsq (vsub b a) := by
  unfold vsq vdot vsub
  rw [fmul_self_rung (fsub_rung a.X b.X), fmul_self_rung (fsub_rung a.Y b.Y)]
/-! ### a loop from a place on -/
theorem fold_from {β σ : Type} {a N : Nat} {g : σ → Nat → σ} {F : Nat → Int → σ → Option β} {X : σ → Option β} {s0 : σ} (I : Nat → σ → Prop) (h0 : I a s0) (ha : a ≤ N)
    (hs : ∀ n i s, a ≤ i → i < N → I i s → F (n + 1) (i : Int) s = F n ((i + 1 : Nat) : Int) (g s i)) (hI : ∀ i s, a ≤ i → i < N → I i s → I (i + 1) (g s i)) (hx : ∀ n s, I N s → F (n + 1) (N : Int) s = X s) :
    F (N - a + 1) (a : Int) s0 = X ((List.range' a (N - a)).foldl g s0) := by
  have main : ∀ d i s, i + d = N → a ≤ i → I i s → F (d + 1) (i : Int) s = X ((List.range' i d).foldl g s) := by
    intro d
    induction d with
    | zero =>
      intro i s hi _ h
      have : i = N := by omega
      subst this
      exact hx 0 s h
    | succ d ih =>
      intro i s hi ha h
      rw [hs _ i s ha (by omega) h, List.range'_succ, List.foldl_cons]
      exact ih (i + 1) (g s i) (by omega) (by omega) (hI i s ha (by omega) h)
  exact main (N - a) a s0 (by omega) (Nat.le_refl _) h0
/-! ### Join, by the reference -/
def getM (l : List GMass) (i : Nat) : GMass := l.getD i mass0
theorem getI_M {l : List GMass} {k : Nat} (h : k < l.length) : getI l (k : Int) = some (getM l k) := by
  rw [getI_at h]
  unfold getM
  rw [List.getD_eq_getElem?_getD, List.getElem?_eq_getElem h]
  rfl
def h51a : LH G := ⟨[0, 2, 3, 4], [], [2]⟩
def V51a (l : List GMass) (e i : Int) : List (RV G) := [.rslice .mass l, .ptr 2 0 0 0, .int .i64 e, .int .i64 i]
def OUT51a (l : List GMass) (K : XE → List (RV G) → List (Blk G) → Ans G) : Ans G := bif l.any (fun m => !mok m) then K .ret (V51a l 80 (l.findIdx (fun m => !mok m) : Nat)) B50 else K (.exit 0) (V51a l 0 (l.length : Nat)) B50
theorem step51a (lp : List (Nat × LC G)) (l : List GMass) (n : Nat) (i : Int) (K) : iter (EV L50 lp) h51a (lpBody Try.f51 0) (n + 1) (V51a l 0 i) B50 K = bif decide (i < (l.length : Int)) then (getI l i).bind fun m =>
    bif merr m != 0 then K .ret (V51a l 80 i) B50 else iter (EV L50 lp) h51a (lpBody Try.f51 0) n (V51a l 0 (IntKind.i64.wrap (i + 1))) B50 K
  else K (.exit 0) (V51a l 0 i) B50 := by kernel_rfl
def h51b : LH G := ⟨[0, 2, 3, 5, 6, 7, 8], [], [2, 5]⟩
def V51b (l : List GMass) (x y : Nat) (i : Int) : List (RV G) := [.rslice .mass l, .ptr 2 0 0 0, .int .i64 0, .ptr 5 0 0 0, .flt x, .flt y, .int .i64 i]
def B51 (m : GMass) : List (Blk G) := [.cells (encG .mass mass0), .cells (encG .mass m)]
theorem step51b (lp : List (Nat × LC G)) (l : List GMass) (m : GMass) (x y : Nat) (n : Nat) (i : Int) (K) : iter (EV L50 lp) h51b (lpBody Try.f51 1) (n + 1) (V51b l x y i) (B51 m) K = bif decide (i < (l.length : Int)) then
    (getI l i).bind fun a => (getI l i).bind fun b => (getI l i).bind fun c => (getI l i).bind fun d => (getI l i).bind fun e =>
      iter (EV L50 lp) h51b (lpBody Try.f51 1) n (V51b l (fadd x (fmul b.Mass c.Centre.X)) (fadd y (fmul d.Mass e.Centre.Y)) (IntKind.i64.wrap (i + 1))) (B51 { m with Mass := fadd m.Mass a.Mass }) K
  else K (.exit 2) (V51b l x y i) (B51 m) := by kernel_rfl
def h51c : LH G := ⟨[0, 2, 3, 5, 9], [], [2, 5]⟩
def V51c (l : List GMass) (i : Int) : List (RV G) := [.rslice .mass l, .ptr 2 0 0 0, .int .i64 0, .ptr 5 0 0 0, .int .i64 i]
def one51 (m a b c : GMass) : Nat := fadd a.Inertia (fmul b.Mass (vsq (vsub c.Centre m.Centre)))
theorem step51c (lp : List (Nat × LC G)) (l : List GMass) (m : GMass) (n : Nat) (i : Int) (K) : iter (EV L50 lp) h51c (lpBody Try.f51 2) (n + 1) (V51c l i) (B51 m) K = bif decide (i < (l.length : Int)) then
    (getI l i).bind fun a => (getI l i).bind fun b => (getI l i).bind fun c => bif i == 0 then iter (EV L50 lp) h51c (lpBody Try.f51 2) n (V51c l (IntKind.i64.wrap (i + 1))) (B51 { m with Inertia := one51 m a b c }) K
      else iter (EV L50 lp) h51c (lpBody Try.f51 2) n (V51c l (IntKind.i64.wrap (i + 1))) (B51 { m with Inertia := fadd m.Inertia (one51 m a b c) }) K
  else K (.exit 4) (V51c l i) (B51 m) := by kernel_rfl
def first51 (l : List GMass) : GMass := getM l 0
/-- The reference's mass behind its second loop, and as it stands at the third one's end. -/
def sum51 (l : List GMass) : GMass := { getM l 0 with Mass := jall l }
def end51 (l : List GMass) : GMass := jmass l
noncomputable def E51 (l : List GMass) : List (Nat × LC G) := [(4, lcOf h51a (V51a l 0 0) B50 (OUT51a l)),
  (16, lcOf h51b (V51b l (fmul (getM l 0).Mass (getM l 0).Centre.X) (fmul (getM l 0).Mass (getM l 0).Centre.Y) 1) (B51 (getM l 0)) fun K => K (.exit 2) (V51b l (jx l) (jy l) l.length) (B51 (sum51 l))),
  (25, lcOf h51c (V51c l 0) (B51 { sum51 l with Centre := jc l }) fun K => K (.exit 4) (V51c l l.length) (B51 (jmass l)))]
noncomputable def E51n (l : List GMass) : List (Nat × LC G) := [(4, lcOf h51a (V51a l 0 0) B50 (OUT51a l))]
theorem x51 (l : List GMass) (K) : xfn (EV L50 (E51 l)) Try.f51 [] (encs [.l .mass] (l, ())) [] K = bif decide ((l.length : Int) > 16384) then K (jres mass0 4) [] [] else gate (V51a l 0 0 = V51a l 0 0 ∧ B50 = B50)
    (bif l.any (fun m => !mok m) then K (jres mass0 80) [] [] else bif (l.length : Int) == 0 then K (jres mass0 0) [] [] else (getI l 0).bind fun m => bif (l.length : Int) == 1 then K (jres m 0) [] [] else
      gate (V51b l (fmul m.Mass m.Centre.X) (fmul m.Mass m.Centre.Y) 1 = V51b l (fmul (getM l 0).Mass (getM l 0).Centre.X) (fmul (getM l 0).Mass (getM l 0).Centre.Y) 1 ∧ B51 m = B51 (getM l 0))
        (bif feq (jall l) 0 then K (jres mass0 0) [] [] else gate (V51c l 0 = V51c l 0 ∧ B51 { sum51 l with Centre := jc l } = B51 { sum51 l with Centre := jc l }) (K (jres (mchk (jmass l)) (merr (jmass l))) [] []))) := by kernel_rfl
theorem x51n (l : List GMass) (K) : xfn (EV L50 (E51n l)) Try.f51 [] (encs [.l .mass] (l, ())) [] K = bif decide ((l.length : Int) > 16384) then K (jres mass0 4) [] [] else gate (V51a l 0 0 = V51a l 0 0 ∧ B50 = B50)
    (bif l.any (fun m => !mok m) then K (jres mass0 80) [] [] else bif (l.length : Int) == 0 then K (jres mass0 0) [] [] else (getI l 0).bind fun m => bif (l.length : Int) == 1 then K (jres m 0) [] [] else none) := by kernel_rfl
theorem foldl_alike {β : Type} {f g : β → Nat → β} : ∀ (r : List Nat) (a : β), (∀ a k, k ∈ r → f a k = g a k) → r.foldl f a = r.foldl g a
  | [], _, _ => rfl
  | k :: r, a, h => by
    rw [List.foldl_cons, List.foldl_cons, h a k List.mem_cons_self]
    exact foldl_alike r _ fun a k hk => h a k (List.mem_cons_of_mem _ hk)
theorem fsum_range (l : List GMass) (f : GMass → Nat) (h : l ≠ []) : (List.range' 1 (l.length - 1)).foldl (fun s i => fadd s (f (getM l i))) (f (getM l 0)) = fsum (l.map f) := by
  cases l with
  | nil => exact absurd rfl h
  | cons y r =>
    show _ = (r.map f).foldl fadd (f y)
    rw [List.foldl_map, List.length_cons, Nat.add_sub_cancel, List.range'_eq_map_range, List.foldl_map]
    have := foldl_range (fun s m => fadd s (f m)) mass0 r (f y)
    rw [← this]
    refine foldl_alike _ _ fun a k _ => ?_
    congr 2
    show (y :: r).getD (1 + k) mass0 = r.getD k mass0
    rw [Nat.add_comm 1 k]
    rfl
theorem lp51a (lp : List (Nat × LC G)) (l : List GMass) (hx : l.length < 9223372036854775808) : LpOk (EV L50 lp) [] (lpBody Try.f51 0) (lcOf h51a (V51a l 0 0) B50 (OUT51a l)) := lcOf_ok (by kernel_rfl) fun K => ⟨_, find_loop (xs := l) (p := fun m => !mok m) (F := fun n i => iter (EV L50 lp) h51a (lpBody Try.f51 0) n (V51a l 0 i) B50 K)
  (R := fun i => K .ret (V51a l 80 i) B50) (X := fun i => K (.exit 0) (V51a l 0 i) B50) (fun n i => by
    rw [step51a]
    congr 1
    congr 1
    funext m
    exact merr_K m (fun _ => K .ret (V51a l 80 i) B50) _) hx⟩
theorem lp51b (lp : List (Nat × LC G)) (l : List GMass) (h1 : l ≠ []) (hl : l.length ≤ 16384) : LpOk (EV L50 lp) [] (lpBody Try.f51 1) (lcOf h51b (V51b l (fmul (getM l 0).Mass (getM l 0).Centre.X) (fmul (getM l 0).Mass (getM l 0).Centre.Y) 1) (B51 (getM l 0)) fun K => K (.exit 2) (V51b l (jx l) (jy l) l.length) (B51 (sum51 l))) :=
  lcOf_ok (by kernel_rfl) fun K => ⟨_, (fold_from (a := 1) (N := l.length) (g := fun (t : Nat × Nat × Nat) i => (fadd t.1 (getM l i).Mass, fadd t.2.1 (fmul (getM l i).Mass (getM l i).Centre.X), fadd t.2.2 (fmul (getM l i).Mass (getM l i).Centre.Y)))
    (F := fun n i (t : Nat × Nat × Nat) => iter (EV L50 lp) h51b (lpBody Try.f51 1) n (V51b l t.2.1 t.2.2 i) (B51 { getM l 0 with Mass := t.1 }) K) (X := fun (t : Nat × Nat × Nat) => K (.exit 2) (V51b l t.2.1 t.2.2 l.length) (B51 { getM l 0 with Mass := t.1 })) (s0 := ((getM l 0).Mass, fmul (getM l 0).Mass (getM l 0).Centre.X, fmul (getM l 0).Mass (getM l 0).Centre.Y)) (fun _ _ => True) trivial (List.length_pos_iff.2 h1)
    (fun n i t _ hi _ => by rw [step51b, decide_eq_true (by omega), cond_true, getI_M hi, Option.bind_some, Option.bind_some, Option.bind_some, Option.bind_some, Option.bind_some, wrap_succ (by omega)])
    (fun _ _ _ _ _ => trivial) (fun n t _ => by rw [step51b, decide_eq_false (by omega)]; rfl)).trans (by
      have e : ∀ (r : List Nat) (t : Nat × Nat × Nat), r.foldl (fun (t : Nat × Nat × Nat) i => (fadd t.1 (getM l i).Mass, fadd t.2.1 (fmul (getM l i).Mass (getM l i).Centre.X), fadd t.2.2 (fmul (getM l i).Mass (getM l i).Centre.Y))) t =
          (r.foldl (fun s i => fadd s (getM l i).Mass) t.1, r.foldl (fun s i => fadd s (fmul (getM l i).Mass (getM l i).Centre.X)) t.2.1, r.foldl (fun s i => fadd s (fmul (getM l i).Mass (getM l i).Centre.Y)) t.2.2) := fun r => by
        induction r with
        | nil => intro t; rfl
        | cons i r ih => intro t; rw [List.foldl_cons, ih]; rfl
      rw [e]
      rw [fsum_range l (fun m => m.Mass) h1, fsum_range l (fun m => fmul m.Mass m.Centre.X) h1, fsum_range l (fun m => fmul m.Mass m.Centre.Y) h1]
      rfl)⟩
theorem lp51c (lp : List (Nat × LC G)) (l : List GMass) (h1 : l ≠ []) (hl : l.length ≤ 16384) : LpOk (EV L50 lp) [] (lpBody Try.f51 2) (lcOf h51c (V51c l 0) (B51 { sum51 l with Centre := jc l }) fun K => K (.exit 4) (V51c l l.length) (B51 (jmass l))) :=
  lcOf_ok (by kernel_rfl) fun K => ⟨_, (fold_loop (N := l.length) (g := fun (s : Nat) (i : Nat) => bif ((i : Nat) : Int) == 0 then mabout (getM l i) (jc l) else fadd s (mabout (getM l i) (jc l)))
    (F := fun n i (t : Nat) => iter (EV L50 lp) h51c (lpBody Try.f51 2) n (V51c l i) (B51 ⟨jall l, t, jc l⟩) K) (X := fun (t : Nat) => K (.exit 4) (V51c l l.length) (B51 ⟨jall l, t, jc l⟩)) (s0 := (getM l 0).Inertia) (fun _ _ => True) trivial
    (fun n i t hi _ => by
      have ho : ∀ a t, one51 ⟨jall l, t, jc l⟩ a a a = mabout a (jc l) := fun a t => by
        unfold one51 mabout
        rw [vsq_sub]
      rw [step51c, decide_eq_true (by omega), cond_true, getI_M hi, Option.bind_some, Option.bind_some, Option.bind_some, wrap_succ (by omega), ho]
      cases (i : Int) == 0 <;> rfl)
    (fun _ _ _ _ => trivial) (fun n t _ => by rw [step51c, decide_eq_false (by omega)]; rfl)).trans (by
      have hp : 0 < l.length := List.length_pos_iff.2 h1
      have e : (List.range l.length).foldl (fun (s : Nat) (i : Nat) => bif ((i : Nat) : Int) == 0 then mabout (getM l i) (jc l) else fadd s (mabout (getM l i) (jc l))) (getM l 0).Inertia = jturn l := by
        rw [List.range_eq_range', show l.length = (l.length - 1) + 1 by omega, List.range'_succ, List.foldl_cons]
        unfold jturn
        rw [← fsum_range l (fun m => mabout m (jc l)) h1]
        refine foldl_alike _ _ fun a k hk => ?_
        rw [List.mem_range'_1] at hk
        have : ((k : Int) == 0) = false := by simp; omega
        rw [this]
        rfl
      rw [e]
      rfl)⟩
theorem lps51 {E : Env G} (h0 : ∀ lc, E.lp 4 = some lc → LpOk E [] (lpBody Try.f51 0) lc) (h1 : ∀ lc, E.lp 16 = some lc → LpOk E [] (lpBody Try.f51 1) lc) (h2 : ∀ lc, E.lp 25 = some lc → LpOk E [] (lpBody Try.f51 2) lc) : LpsOk E [] (bodyD Try.f51) := LpsOk.of _ fun i b lc hb hi => by
  have hl : loops (bodyD Try.f51) = [(some 4, lpBody Try.f51 0), (some 16, lpBody Try.f51 1), (some 25, lpBody Try.f51 2)] := by kernel_rfl
  rw [hl] at hb
  simp only [List.mem_cons, Prod.mk.injEq, Option.some.injEq, List.not_mem_nil, or_false] at hb
  rcases hb with ⟨rfl, rfl⟩ | ⟨rfl, rfl⟩ | ⟨rfl, rfl⟩
  · exact h0 _ hi
  · exact h1 _ hi
  · exact h2 _ hi
def c51 : FC G := FC.sp [.l .mass] fun (l, _) => jres (joinM l) (joinE l)
theorem ok51 : FcOk Try.prog 51 c51 := sp_lp L50ok Try.func51 (by kernel_rfl) (by kernel_rfl) fun (l, _) ⟨hx, _⟩ => by
  have hx : (l : List GMass).length < 9223372036854775808 := hx
  show ∃ lp, LpsOk (EV L50 lp) [] (bodyD Try.f51) ∧ ∀ K, xfn (EV L50 lp) Try.f51 [] (encs [.l .mass] (l, ())) [] K = K (jres (joinM l) (joinE l)) [] []
  unfold joinM joinE
  cases h2 : decide (((l : List GMass).length : Int) > 16384) || (((l : List GMass).length : Int) == 0) with
  | true =>
    refine ⟨E51n l, lps51 (fun lc h => by cases h; exact lp51a _ l hx) (fun lc h => (by cases h)) (fun lc h => (by cases h)), fun K => (x51n l K).trans ?_⟩
    cases h1 : decide (((l : List GMass).length : Int) > 16384) with
    | true => rfl
    | false =>
      rw [h1, Bool.false_or] at h2
      rw [gate_pos ⟨rfl, rfl⟩, h2]
      cases (l : List GMass).any (fun m => !mok m) <;> rfl
  | false =>
    simp only [Bool.or_eq_false_iff, decide_eq_false_iff_not] at h2
    obtain ⟨h2, h3⟩ := h2
    have hne : (l : List GMass) ≠ [] := fun e => by rw [e] at h3; cases h3
    have hg : getI (l : List GMass) 0 = some (getM l 0) := getI_M (k := 0) (List.length_pos_iff.2 hne)
    have hd : (l : List GMass).getD 0 mass0 = getM l 0 := rfl
    refine ⟨E51 l, lps51 (fun lc h => by cases h; exact lp51a _ l hx) (fun lc h => by cases h; exact lp51b _ l hne (by omega)) (fun lc h => by cases h; exact lp51c _ l hne (by omega)), fun K => (x51 l K).trans ?_⟩
    rw [decide_eq_false h2, cond_false, gate_pos ⟨rfl, rfl⟩, h3, cond_false, hg, Option.bind_some, hd]
    cases (l : List GMass).any (fun m => !mok m) with
    | true => rfl
    | false =>
      cases ((l : List GMass).length : Int) == 1 with
      | true => rfl
      | false =>
        rw [gate_pos ⟨rfl, rfl⟩]
        cases feq (jall l) 0 with
        | true => rfl
        | false => rw [gate_pos ⟨rfl, rfl⟩]; rfl
noncomputable def L51 : Ctr := (51, c51) :: L50
theorem L51ok : AllOk L51 := .cons ok51 L50ok
end Go.SX

/- Polygons, by the program: their points, sides, whether they may be. No statement of the seat is proved here. -/
namespace Go.SX
open Go.Proofs
set_option maxRecDepth 20000
def vec0 : GVec := ⟨0, 0⟩
def getV (l : List GVec) (i : Nat) : GVec := l.getD i vec0
theorem getI_V {l : List GVec} {k : Nat} (h : k < l.length) : getI l (k : Int) = some (getV l k) := by
  rw [getI_at h]
  unfold getV
  rw [List.getD_eq_getElem?_getD, List.getElem?_eq_getElem h]
  rfl
theorem tmod_at {i n : Nat} : ((i : Nat) : Int).tmod (n : Int) = ((i % n : Nat) : Int) := by rw [Int.ofNat_tmod]
/-! ### places -/
def preal (l : List GVec) : Int := bif decide ((l.length : Int) > 64) then 4 else bif l.any (fun p => !vwithin p 4787326403894837248) then 5 else 0
def h125 : LH G := ⟨[2, 8, 9, 10], [], []⟩
def V125 (l : List GVec) (e i : Int) : List (RV G) := [.int .i64 e, .rslice .vec l, .int .i64 l.length, .int .i64 i]
def OUT125 (l : List GVec) (K : XE → List (RV G) → List (Blk G) → Ans G) : Ans G := bif l.any (fun p => !vwithin p 4787326403894837248) then K .ret (V125 l 5 (l.findIdx (fun p => !vwithin p 4787326403894837248) : Nat)) [] else K (.exit 0) (V125 l 0 (l.length : Nat)) []
noncomputable def E125 (l : List GVec) : List (Nat × LC G) := [(4, lcOf h125 (V125 l 0 0) [] (OUT125 l))]
theorem step125 (lp : List (Nat × LC G)) (l : List GVec) (n : Nat) (i : Int) (K) : iter (EV L51 lp) h125 (lpBody Try.f125 0) (n + 1) (V125 l 0 i) [] K = bif decide (i < (l.length : Int)) then (getI l i).bind fun p =>
    bif !vwithin p 4787326403894837248 then K .ret (V125 l 5 i) [] else iter (EV L51 lp) h125 (lpBody Try.f125 0) n (V125 l 0 (IntKind.i64.wrap (i + 1))) [] K
  else K (.exit 0) (V125 l 0 i) [] := by kernel_rfl
theorem x125 (l : List GVec) (K) : xfn (EV L51 (E125 l)) Try.f125 [] (encs [.l .vec] (l, ())) [] K = bif decide ((l.length : Int) > 64) then K (.int .i64 4) [] [] else gate (V125 l 0 0 = V125 l 0 0 ∧ ([] : List (Blk G)) = [])
    (bif l.any (fun p => !vwithin p 4787326403894837248) then K (.int .i64 5) [] [] else K (.int .i64 0) [] []) := by kernel_rfl
def c125 : FC G := FC.sp [.l .vec] fun (l, _) => .int .i64 (preal l)
theorem ok125 : FcOk Try.prog 125 c125 := sp_lp L51ok Try.func125 (by kernel_rfl) (by kernel_rfl) fun (l, _) ⟨hx, _⟩ => ⟨E125 l, lps1 (i := 4) (by kernel_rfl) rfl (lcOf_ok (by kernel_rfl) fun K => ⟨_, find_loop (xs := l) (p := fun p => !vwithin p 4787326403894837248) (F := fun n i => iter (EV L51 (E125 l)) h125 (lpBody Try.f125 0) n (V125 l 0 i) [] K)
    (R := fun i => K .ret (V125 l 5 i) []) (X := fun i => K (.exit 0) (V125 l 0 i) []) (fun n i => step125 _ l n i K) hx⟩), fun K => (x125 l K).trans (by
  show _ = K (.int .i64 (preal l)) [] []
  unfold preal
  rw [gate_pos ⟨rfl, rfl⟩]
  cases decide (((l : List GVec).length : Int) > 64) with
  | true => rfl
  | false => cases (l : List GVec).any (fun p => !vwithin p 4787326403894837248) <;> rfl)⟩
noncomputable def L125 : Ctr := (125, c125) :: L51
theorem L125ok : AllOk L125 := .cons ok125 L51ok
/-! ### sides -/
def vside (l : List GVec) (i : Nat) : GVec := vsub (getV l ((i + 1) % l.length)) (getV l i)
structure In126 (l : List GVec) (i : Int) : Prop where
  i0 : 0 ≤ i
  i1 : i < (l.length : Int)
  few : l.length ≤ 64
theorem x126 (l : List GVec) (i : Int) (K) : xfn (EV L125 []) Try.f126 [] (encs [.l .vec, .s .i64] (l, i, ())) [] K = bif (l.length : Int) == 0 then none else (getI l ((IntKind.i64.wrap (i + 1)).tmod l.length)).bind fun p => (getI l i).bind fun q =>
    K (encR .vec (vsub p q)) [] [] := by kernel_rfl
noncomputable def c126 : FC G := FC.rn [.l .vec, .s .i64] fun (l, i, _) K => gate (In126 l i) (K (encR .vec (vside l (i : Int).toNat)) [] [])
theorem side_at {l : List GVec} {i : Nat} (h : i < l.length) (hl : l.length ≤ 64) : getI l ((IntKind.i64.wrap ((i : Int) + 1)).tmod l.length) = some (getV l ((i + 1) % l.length)) := by
  rw [wrap_succ (by omega), tmod_at, getI_V (Nat.mod_lt _ (by omega))]
theorem ok126 : FcOk Try.prog 126 c126 := rn_ok L125ok Try.func126 (by kernel_rfl) [] (.none (by kernel_rfl)) (by kernel_rfl) fun (l, i, _) K o h => by
  obtain ⟨⟨h0, h1, h2⟩, h3⟩ := gate_some h
  obtain ⟨k, rfl⟩ := Int.eq_ofNat_of_zero_le h0
  have h1 : k < (l : List GVec).length := by omega
  have e : (((l : List GVec).length : Int) == 0) = false := beq_eq_false_iff_ne.2 (by omega)
  refine (x126 l (k : Int) K).trans ?_
  rw [e, cond_false, side_at h1 h2, Option.bind_some, getI_V h1, Option.bind_some]
  exact h3
noncomputable def L126 : Ctr := (126, c126) :: L125
theorem L126ok : AllOk L126 := .cons ok126 L125ok
/-! ### may a polygon be? -/
def pbad2 (l : List GVec) (i k : Nat) : Bool := fle (vcross (vside l i) (vsub (getV l ((i + k) % l.length)) (getV l i))) 0
def pbadk (l : List GVec) (i : Nat) : Bool := (List.range' 2 (l.length - 2)).any (pbad2 l i)
def pbad (l : List GVec) (i : Nat) : Bool := flt (vlen (vside l i)) 4472074429978902528 || pbadk l i
def perr (l : List GVec) : Int := bif preal l != 0 then preal l else bif decide ((l.length : Int) < 3) then 60 else bif (List.range l.length).any (pbad l) then 60 else 0
def h59o : LH G := ⟨[0, 2, 16, 17, 18], [], []⟩
def h59i : LH G := ⟨[0, 2, 4, 5, 6, 7, 16, 17, 18], [], [5, 6]⟩
def V59 (l : List GVec) (e i : Int) : List (RV G) := [.rslice .vec l, .int .i64 e, .rslice .vec l, .int .i64 l.length, .int .i64 i]
def W59 (l : List GVec) (e i k : Int) : List (RV G) := [.rslice .vec l, .int .i64 e, .int .i64 i, .ptr 5 0 0 0, .ptr 6 0 0 0, .int .i64 k, .rslice .vec l, .int .i64 l.length, .int .i64 i]
def C59 (l : List GVec) (i : Nat) : List (Blk G) := [.cells (encG .vec (getV l i)), .cells (encG .vec (vside l i))]
noncomputable def in59 (l : List GVec) : LC G := ⟨h59i, fun vs bs K => match vs with
  | [_, _, .int .i64 i, _, _, _, _, _, _] => gate (0 ≤ i ∧ i < (l.length : Int) ∧ vs = W59 l 0 i 2 ∧ bs = C59 l i.toNat)
      (bif pbadk l i.toNat then K .ret (W59 l 60 i ((2 + (List.range' 2 (l.length - 2)).findIdx (pbad2 l i.toNat) : Nat))) (C59 l i.toNat) else K (.exit 2) (W59 l 0 i l.length) (C59 l i.toNat))
  | _ => none⟩
noncomputable def E59 (l : List GVec) : List (Nat × LC G) := [(7, lcOf h59o (V59 l 0 0) [] fun K => bif (List.range l.length).any (pbad l) then K .ret (V59 l 60 ((List.range l.length).findIdx (pbad l) : Nat)) [] else K (.exit 0) (V59 l 0 l.length) []), (13, in59 l)]
theorem step59i (lp : List (Nat × LC G)) (l : List GVec) (p w : GVec) (e i : Int) (n : Nat) (k : Int) (K) : iter (EV L126 lp) h59i (lpBody Try.f59 1) (n + 1) (W59 l 0 i k) [.cells (encG .vec p), .cells (encG .vec w)] K = bif decide (k < (l.length : Int)) then
    bif (l.length : Int) == 0 then none else (getI l ((IntKind.i64.wrap (i + k)).tmod l.length)).bind fun q => bif fle (vcross w (vsub q p)) 0 then K .ret (W59 l 60 i k) [.cells (encG .vec p), .cells (encG .vec w)]
      else iter (EV L126 lp) h59i (lpBody Try.f59 1) n (W59 l 0 i (IntKind.i64.wrap (k + 1))) [.cells (encG .vec p), .cells (encG .vec w)] K
  else K (.exit 2) (W59 l 0 i k) [.cells (encG .vec p), .cells (encG .vec w)] := by kernel_rfl
theorem step59o (l : List GVec) (n : Nat) (i : Int) (K) : iter (EV L126 (E59 l)) h59o (lpBody Try.f59 0) (n + 1) (V59 l 0 i) [] K = bif decide (i < (l.length : Int)) then (getI l i).bind fun p => gate (In126 l i)
    (bif flt (vlen (vside l i.toNat)) 4472074429978902528 then K .ret (V59 l 60 i) [] else gate (0 ≤ i ∧ i < (l.length : Int) ∧ W59 l 0 i 2 = W59 l 0 i 2 ∧ [.cells (encG .vec p), .cells (encG .vec (vside l i.toNat))] = C59 l i.toNat)
      (bif pbadk l i.toNat then K .ret (V59 l 60 i) [] else iter (EV L126 (E59 l)) h59o (lpBody Try.f59 0) n (V59 l 0 (IntKind.i64.wrap (i + 1))) [] K))
  else K (.exit 0) (V59 l 0 i) [] := by kernel_rfl
theorem x59 (l : List GVec) (K) : xfn (EV L126 (E59 l)) Try.f59 [] (encs [.l .vec] (l, ())) [] K = bif preal l != 0 then K (.int .i64 (preal l)) [] [] else bif decide ((l.length : Int) < 3) then K (.int .i64 60) [] [] else gate (V59 l 0 0 = V59 l 0 0 ∧ ([] : List (Blk G)) = [])
    (bif (List.range l.length).any (pbad l) then K (.int .i64 60) [] [] else K (.int .i64 0) [] []) := by kernel_rfl
theorem x59n (l : List GVec) (K) : xfn (EV L126 []) Try.f59 [] (encs [.l .vec] (l, ())) [] K = bif preal l != 0 then K (.int .i64 (preal l)) [] [] else bif decide ((l.length : Int) < 3) then K (.int .i64 60) [] [] else none := by kernel_rfl
/-- A search from a place on. -/
theorem idx_from {β : Type} {a N : Nat} {p : Nat → Bool} {F : Nat → Int → Option β} {R X : Int → Option β} (ha : a ≤ N)
    (hs : ∀ n (i : Nat), a ≤ i → i < N → F (n + 1) (i : Int) = bif p i then R i else F n ((i + 1 : Nat) : Int)) (hx : ∀ n, F (n + 1) (N : Int) = X (N : Nat)) :
    F (N - a + 1) (a : Int) = bif (List.range' a (N - a)).any p then R ((a + (List.range' a (N - a)).findIdx p : Nat) : Int) else X (N : Nat) := by
  have main : ∀ d i : Nat, i + d = N → a ≤ i → F (d + 1) (i : Int) = bif (List.range' i d).any p then R ((i + (List.range' i d).findIdx p : Nat) : Int) else X (N : Nat) := by
    intro d
    induction d with
    | zero =>
      intro i hi _
      have : i = N := by omega
      subst this
      exact hx 0
    | succ d ih =>
      intro i hi ha
      rw [hs _ i ha (by omega), List.range'_succ, List.any_cons, List.findIdx_cons]
      cases h : p i with
      | true => rfl
      | false =>
        rw [cond_false, ih (i + 1) (by omega) (by omega), Bool.false_or]
        congr 2
        simp only [cond_false]
        omega
  exact main (N - a) a (by omega) (Nat.le_refl _)
theorem lp59i (l : List GVec) (lp : List (Nat × LC G)) (h3 : 3 ≤ l.length) (hl : l.length ≤ 64) : LpOk (EV L126 lp) [] (lpBody Try.f59 1) (in59 l) := lpOk_of (by kernel_rfl) fun vs bs K o h => by
  simp only [in59] at h
  split at h
  · rename_i i x1 x2 x3 x4 x5 x6 x7 x8
    obtain ⟨⟨h0, h1, hv, rfl⟩, g⟩ := gate_some h
    obtain ⟨i, rfl⟩ := Int.eq_ofNat_of_zero_le h0
    rw [hv]
    have hi : i < l.length := by omega
    rw [Int.toNat_natCast] at g ⊢
    exact ⟨_, (idx_from (a := 2) (N := l.length) (p := pbad2 l i) (F := fun n k => iter (EV L126 lp) h59i (lpBody Try.f59 1) n (W59 l 0 i k) (C59 l i) K) (R := fun k => K .ret (W59 l 60 i k) (C59 l i)) (X := fun k => K (.exit 2) (W59 l 0 i k) (C59 l i)) (by omega)
      (fun n k _ hk => by
        have e : ((l.length : Int) == 0) = false := beq_eq_false_iff_ne.2 (by omega)
        have hw : IntKind.i64.wrap ((i : Int) + (k : Int)) = ((i + k : Nat) : Int) := by rw [IntKind.wrap_i64]; omega
        show iter (EV L126 lp) h59i (lpBody Try.f59 1) (n + 1) (W59 l 0 i k) [.cells (encG .vec (getV l i)), .cells (encG .vec (vside l i))] K = _
        rw [step59i lp l _ _ 0, decide_eq_true (by omega), cond_true, e, cond_false, hw, tmod_at, getI_V (Nat.mod_lt _ (by omega)), Option.bind_some, wrap_succ (by omega)]
        rfl)
      (fun n => by
        show iter (EV L126 lp) h59i (lpBody Try.f59 1) (n + 1) (W59 l 0 i l.length) [.cells (encG .vec (getV l i)), .cells (encG .vec (vside l i))] K = _
        rw [step59i lp l _ _ 0, decide_eq_false (by omega)]; rfl)).trans g⟩
  · cases h
theorem lp59o (l : List GVec) (hl : l.length ≤ 64) : LpOk (EV L126 (E59 l)) [] (lpBody Try.f59 0) (lcOf h59o (V59 l 0 0) [] fun K => bif (List.range l.length).any (pbad l) then K .ret (V59 l 60 ((List.range l.length).findIdx (pbad l) : Nat)) [] else K (.exit 0) (V59 l 0 l.length) []) :=
  lcOf_ok (by kernel_rfl) fun K => ⟨_, idx_loop (N := l.length) (p := pbad l) (F := fun n i => iter (EV L126 (E59 l)) h59o (lpBody Try.f59 0) n (V59 l 0 i) [] K) (R := fun i => K .ret (V59 l 60 i) []) (X := fun i => K (.exit 0) (V59 l 0 i) [])
    (fun n i hi => by
      rw [step59o, decide_eq_true (by omega), cond_true, getI_V hi, Option.bind_some, gate_pos ⟨by omega, by omega, hl⟩, Int.toNat_natCast, gate_pos ⟨by omega, by omega, rfl, rfl⟩, wrap_succ (by omega)]
      unfold pbad
      cases flt (vlen (vside l i)) 4472074429978902528 <;> rfl)
    (fun n => by rw [step59o, decide_eq_false (by omega)]; rfl)⟩
theorem preal_few {l : List GVec} (h : (preal l != 0) = false) : l.length ≤ 64 := by
  unfold preal at h
  cases h1 : decide ((l.length : Int) > 64) with
  | true => rw [h1] at h; simp at h
  | false => simp at h1; omega
def c59 : FC G := FC.sp [.l .vec] fun (l, _) => .int .i64 (perr l)
theorem ok59 : FcOk Try.prog 59 c59 := sp_lp L126ok Try.func59 (by kernel_rfl) (by kernel_rfl) fun (l, _) _ => by
  show ∃ lp, LpsOk (EV L126 lp) [] (bodyD Try.f59) ∧ ∀ K, xfn (EV L126 lp) Try.f59 [] (encs [.l .vec] (l, ())) [] K = K (.int .i64 (perr l)) [] []
  unfold perr
  cases h1 : (preal (l : List GVec) != 0) with
  | true => exact ⟨[], LpsOk.of _ fun _ _ _ _ h => (by cases h), fun K => (x59n l K).trans (by rw [h1]; rfl)⟩
  | false =>
    cases h2 : decide (((l : List GVec).length : Int) < 3) with
    | true => exact ⟨[], LpsOk.of _ fun _ _ _ _ h => (by cases h), fun K => (x59n l K).trans (by rw [h1, h2]; rfl)⟩
    | false =>
      have hl := preal_few h1
      rw [decide_eq_false_iff_not] at h2
      refine ⟨E59 l, lps2 (i := 7) (j := 13) (by kernel_rfl) rfl (lp59o l hl) rfl (lp59i l _ (by omega) hl), fun K => (x59 l K).trans ?_⟩
      rw [h1, decide_eq_false h2, cond_false, cond_false, gate_pos ⟨rfl, rfl⟩]
      cases (List.range (l : List GVec).length).any (pbad l) <;> rfl
noncomputable def L59 : Ctr := (59, c59) :: L126
theorem L59ok : AllOk L59 := .cons ok59 L126ok
theorem perr_ok {l : List GVec} (h : (perr l != 0) = false) : 3 ≤ l.length ∧ l.length ≤ 64 := by
  unfold perr at h
  cases h1 : preal l != 0 with
  | true => rw [h1, cond_true, h1] at h; cases h
  | false =>
    rw [h1, cond_false] at h
    have := preal_few h1
    cases h2 : decide ((l.length : Int) < 3) with
    | true => rw [h2] at h; simp at h
    | false => simp at h2; omega
end Go.SX

/- Polygons, by the program: what they weigh. No statement of the seat is proved here. -/
namespace Go.SX
open Go.Proofs
set_option maxRecDepth 20000
/-! ### twice the area, the sums for the middle -/
def wc (l : List GVec) (i : Nat) : Nat := vcross (vsub (getV l i) (getV l 0)) (vsub (getV l (i + 1)) (getV l 0))
def wp (l : List GVec) (i : Nat) : GVec := vscale (vadd (vsub (getV l i) (getV l 0)) (vsub (getV l (i + 1)) (getV l 0))) (wc l i)
def w1 (l : List GVec) (t : Nat × GVec) (i : Nat) : Nat × GVec := bif ((i : Nat) : Int) == 1 then (wc l i, wp l i) else (fadd t.1 (wc l i), vadd t.2 (wp l i))
def wall (l : List GVec) : Nat × GVec := (List.range' 1 (l.length - 1 - 1)).foldl (w1 l) (0, vec0)
def h130 : LH G := ⟨[0, 2, 3, 4], [], [3]⟩
def V130 (l : List GVec) (s : Nat) (i : Int) : List (RV G) := [.rslice .vec l, .flt s, .ptr 3 0 0 0, .int .i64 i]
def B130 (m : GVec) : List (Blk G) := [.cells (encG .vec m)]
noncomputable def E130 (l : List GVec) : List (Nat × LC G) := [(2, lcOf h130 (V130 l 0 1) (B130 vec0) fun K => K (.exit 0) (V130 l (wall l).1 (l.length - 1 : Nat)) (B130 (wall l).2))]
theorem step130 (lp : List (Nat × LC G)) (l : List GVec) (s : Nat) (m : GVec) (n : Nat) (i : Int) (K) : iter (EV L59 lp) h130 (lpBody Try.f130 0) (n + 1) (V130 l s i) (B130 m) K = bif decide (i < IntKind.i64.wrap ((l.length : Int) - 1)) then
    (getI l i).bind fun a => (getI l 0).bind fun o => (getI l (IntKind.i64.wrap (i + 1))).bind fun b => (getI l 0).bind fun o2 =>
      bif i == 1 then iter (EV L59 lp) h130 (lpBody Try.f130 0) n (V130 l (vcross (vsub a o) (vsub b o2)) (IntKind.i64.wrap (i + 1))) (B130 (vscale (vadd (vsub a o) (vsub b o2)) (vcross (vsub a o) (vsub b o2)))) K
      else iter (EV L59 lp) h130 (lpBody Try.f130 0) n (V130 l (fadd s (vcross (vsub a o) (vsub b o2))) (IntKind.i64.wrap (i + 1))) (B130 (vadd m (vscale (vadd (vsub a o) (vsub b o2)) (vcross (vsub a o) (vsub b o2))))) K
  else K (.exit 0) (V130 l s i) (B130 m) := by kernel_rfl
theorem x130 (l : List GVec) (K) : xfn (EV L59 (E130 l)) Try.f130 [] (encs [.l .vec] (l, ())) [] K = gate (V130 l 0 1 = V130 l 0 1 ∧ B130 vec0 = B130 vec0) (K (.tuple [.flt (wall l).1, encR .vec (wall l).2]) [] []) := by kernel_rfl
noncomputable def c130 : FC G := FC.rn [.l .vec] fun (l, _) K => gate (3 ≤ (l : List GVec).length ∧ (l : List GVec).length ≤ 64) (K (.tuple [.flt (wall l).1, encR .vec (wall l).2]) [] [])
theorem ok130 : FcOk Try.prog 130 c130 := rn_lp L59ok Try.func130 (by kernel_rfl) (by kernel_rfl) (fun _ K o h => ⟨_, _, _, (gate_some h).2⟩) fun (l, _) _ => by
  by_cases hl : 3 ≤ (l : List GVec).length ∧ (l : List GVec).length ≤ 64
  · obtain ⟨h3, hmx⟩ := hl
    have hw : IntKind.i64.wrap (((l : List GVec).length : Int) - 1) = (((l : List GVec).length - 1 : Nat) : Int) := by rw [IntKind.wrap_i64]; omega
    have h0 : getI (l : List GVec) 0 = some (getV l 0) := getI_V (k := 0) (by omega)
    refine ⟨E130 l, lps1 (i := 2) (by kernel_rfl) rfl (lcOf_ok (by kernel_rfl) fun K => ⟨_, (fold_from (a := 1) (N := (l : List GVec).length - 1) (g := w1 l) (F := fun n i (t : Nat × GVec) => iter (EV L59 (E130 l)) h130 (lpBody Try.f130 0) n (V130 l t.1 i) (B130 t.2) K)
        (X := fun (t : Nat × GVec) => K (.exit 0) (V130 l t.1 ((l : List GVec).length - 1 : Nat)) (B130 t.2)) (s0 := (0, vec0)) (fun _ _ => True) trivial (by omega)
        (fun n i t _ hi _ => by
          rw [step130, hw, decide_eq_true (by omega), cond_true, getI_V (by omega), Option.bind_some, h0, Option.bind_some, wrap_succ (by omega), getI_V (by omega), Option.bind_some, Option.bind_some]
          unfold w1
          cases ((i : Nat) : Int) == 1 <;> rfl)
        (fun _ _ _ _ _ => trivial) (fun n t _ => by rw [step130, hw, decide_eq_false (by omega)]; rfl))⟩), fun K o h => (x130 l K).trans ?_⟩
    rw [gate_pos ⟨rfl, rfl⟩]
    exact (gate_some h).2
  · exact ⟨[], LpsOk.of _ fun _ _ _ _ h => (by cases h), fun K o h => absurd (gate_some h).1 hl⟩
noncomputable def L130 : Ctr := (130, c130) :: L59
theorem L130ok : AllOk L130 := .cons ok130 L59ok
/-! ### area, middle -/
def pflat (l : List GVec) : Bool := !flt 0 (wall l).1
def areaE (l : List GVec) : Int := bif perr l != 0 then perr l else bif pflat l then 61 else 0
def areaM (l : List GVec) : Nat := bif areaE l != 0 then 0 else fmul (wall l).1 4602678819172646912
def midOf (l : List GVec) : GVec := vadd (getV l 0) ⟨fdiv (wall l).2.X (fmul 4613937818241073152 (wall l).1), fdiv (wall l).2.Y (fmul 4613937818241073152 (wall l).1)⟩
def midM (l : List GVec) : GVec := bif areaE l != 0 then vec0 else midOf l
theorem x60 (l : List GVec) (K) : xfn (EV L130 []) Try.f60 [] (encs [.l .vec] (l, ())) [] K = bif perr l != 0 then K (.tuple [.flt 0, .int .i64 (perr l)]) [] [] else gate (3 ≤ l.length ∧ l.length ≤ 64) (bif pflat l then K (.tuple [.flt 0, .int .i64 61]) [] [] else
    K (.tuple [.flt (fmul (wall l).1 4602678819172646912), .int .i64 0]) [] []) := by kernel_rfl
def c60 : FC G := FC.sp [.l .vec] fun (l, _) => .tuple [.flt (areaM l), .int .i64 (areaE l)]
theorem ok60 : FcOk Try.prog 60 c60 := sp0 L130ok Try.func60 (by kernel_rfl) (by kernel_rfl) (by kernel_rfl) fun (l, _) K => (x60 l K).trans (by
  show _ = K (.tuple [.flt (areaM l), .int .i64 (areaE l)]) [] []
  unfold areaM areaE
  cases h1 : perr (l : List GVec) != 0 with
  | true => simp only [cond_true, h1]
  | false =>
    rw [gate_pos (perr_ok h1)]
    cases pflat l <;> rfl)
noncomputable def L60 : Ctr := (60, c60) :: L130
theorem L60ok : AllOk L60 := .cons ok60 L130ok
theorem x178 (l : List GVec) (K) : xfn (EV L60 []) Try.f178 [] (encs [.l .vec] (l, ())) [] K = bif perr l != 0 then K (.tuple [encR .vec vec0, .int .i64 (perr l)]) [] [] else gate (3 ≤ l.length ∧ l.length ≤ 64) (bif pflat l then K (.tuple [encR .vec vec0, .int .i64 61]) [] [] else
    (getI l 0).bind fun p => K (.tuple [encR .vec (vadd p ⟨fdiv (wall l).2.X (fmul 4613937818241073152 (wall l).1), fdiv (wall l).2.Y (fmul 4613937818241073152 (wall l).1)⟩), .int .i64 0]) [] []) := by kernel_rfl
def c178 : FC G := FC.sp [.l .vec] fun (l, _) => .tuple [encR .vec (midM l), .int .i64 (areaE l)]
theorem ok178 : FcOk Try.prog 178 c178 := sp0 L60ok Try.func178 (by kernel_rfl) (by kernel_rfl) (by kernel_rfl) fun (l, _) K => (x178 l K).trans (by
  show _ = K (.tuple [encR .vec (midM l), .int .i64 (areaE l)]) [] []
  unfold midM areaE
  cases h1 : perr (l : List GVec) != 0 with
  | true => simp only [cond_true, h1]
  | false =>
    have h3 := perr_ok h1
    have h0 : getI (l : List GVec) 0 = some (getV l 0) := getI_V (k := 0) (by omega)
    rw [gate_pos h3, h0]
    cases pflat l <;> rfl)
noncomputable def L178 : Ctr := (178, c178) :: L60
theorem L178ok : AllOk L178 := .cons ok178 L60ok
/-! ### the kinds of shapes -/
def fdisc (r d : Nat) : Nat := fmul d (fmul 4614256656552045848 (fmul r r))
def c176 : FC G := FC.sp [.s .f64, .s .f64] fun (r, d, _) => .flt (fdisc r d)
theorem ok176 : FcOk Try.prog 176 c176 := sp0 L178ok Try.func176 (by kernel_rfl) (by kernel_rfl) (by kernel_rfl) fun (r, d, _) K => by kernel_rfl
noncomputable def L176 : Ctr := (176, c176) :: L178
theorem L176ok : AllOk L176 := .cons ok176 L178ok
def circM (s : GShape) (d : Nat) : GMass := ⟨fdisc s.Radius d, fmul (fmul (fdisc s.Radius d) (fmul s.Radius s.Radius)) 4602678819172646912, getV s.Points 0⟩
theorem x132 (s : GShape) (d : Nat) (K) : xfn (EV L176 []) Try.f132 [] (encs [.s .shape, .s .f64] (s, d, ())) [] K = (getI s.Points 0).bind fun p => K (encR .mass ⟨fdisc s.Radius d, fmul (fmul (fdisc s.Radius d) (fmul s.Radius s.Radius)) 4602678819172646912, p⟩) [] [] := by kernel_rfl
noncomputable def c132 : FC G := FC.rn [.s .shape, .s .f64] fun (s, d, _) K => gate (1 ≤ (s : GShape).Points.length) (K (encR .mass (circM s d)) [] [])
theorem ok132 : FcOk Try.prog 132 c132 := rn_ok L176ok Try.func132 (by kernel_rfl) [] (.none (by kernel_rfl)) (by kernel_rfl) fun (s, d, _) K o h => by
  obtain ⟨h1, h2⟩ := gate_some h
  have h0 : getI (s : GShape).Points 0 = some (getV (s : GShape).Points 0) := getI_V (k := 0) (by omega)
  refine (x132 s d K).trans ?_
  rw [h0]
  exact h2
noncomputable def L132 : Ctr := (132, c132) :: L176
theorem L132ok : AllOk L132 := .cons ok132 L176ok
def capN (a b : GVec) : Nat := vlen (vsub b a)
def capP (r d n : Nat) : Nat := fmul d (fmul (fmul 4611686018427387904 r) n)
def capD (r : Nat) : Nat := fdiv (fmul 4616189618054758400 r) (fmul 4613937818241073152 4614256656552045848)
def capBar (r p n : Nat) : Nat := fdiv (fmul p (fadd (fmul n n) (fmul (fmul 4616189618054758400 r) r))) 4622945017495814144
def capEnds (r q n : Nat) : Nat := fmul q (fadd (fadd (fmul (fmul r r) 4602678819172646912) (fmul (fmul n n) 4598175219545276416)) (fmul n (capD r)))
def capOf (r d : Nat) (a b : GVec) : GMass := ⟨fadd (capP r d (capN a b)) (fdisc r d), fadd (capBar r (capP r d (capN a b)) (capN a b)) (capEnds r (fdisc r d) (capN a b)), vscale (vadd a b) 4602678819172646912⟩
def capM (s : GShape) (d : Nat) : GMass := capOf s.Radius d (getV s.Points 0) (getV s.Points 1)
theorem x133 (s : GShape) (d : Nat) (K) : xfn (EV L132 []) Try.f133 [] (encs [.s .shape, .s .f64] (s, d, ())) [] K = (getI s.Points 0).bind fun a => (getI s.Points 1).bind fun b => K (encR .mass (capOf s.Radius d a b)) [] [] := by kernel_rfl
noncomputable def c133 : FC G := FC.rn [.s .shape, .s .f64] fun (s, d, _) K => gate (2 ≤ (s : GShape).Points.length) (K (encR .mass (capM s d)) [] [])
theorem ok133 : FcOk Try.prog 133 c133 := rn_ok L132ok Try.func133 (by kernel_rfl) [] (.none (by kernel_rfl)) (by kernel_rfl) fun (s, d, _) K o h => by
  obtain ⟨h1, h2⟩ := gate_some h
  have h0 : getI (s : GShape).Points 0 = some (getV (s : GShape).Points 0) := getI_V (k := 0) (by omega)
  have h3 : getI (s : GShape).Points 1 = some (getV (s : GShape).Points 1) := getI_V (k := 1) (by omega)
  refine (x133 s d K).trans ?_
  rw [h0, Option.bind_some, h3]
  exact h2
noncomputable def L133 : Ctr := (133, c133) :: L132
theorem L133ok : AllOk L133 := .cons ok133 L132ok
end Go.SX

/- What a shape weighs, by the program; whether a shape may be. No statement of the seat is proved here. -/
namespace Go.SX
open Go.Proofs
set_option maxRecDepth 20000
/-! ### a polygon -/
def ptri (a b : GVec) : Nat := fmul (vcross a b) (fadd (fadd (vdot a a) (vdot a b)) (vdot b b))
def polyAt (l : List GVec) (c : GVec) (i : Nat) : Nat := ptri (vsub (getV l i) c) (vsub (getV l ((i + 1) % l.length)) c)
def polyI (l : List GVec) (c : GVec) : List Nat := (List.range l.length).map (polyAt l c)
def polyM (s : GShape) (d : Nat) : GMass := ⟨fmul d (areaM s.Points), fmul d (fdiv (fsum (polyI s.Points (midM s.Points))) 4622945017495814144), midM s.Points⟩
def h134 : LH G := ⟨[1, 2, 4, 6, 8, 9, 38, 39], [], [2, 4, 8, 36]⟩
def V134 (d a : Nat) (L : List Nat) (n i : Int) : List (RV G) := [.flt d, .ptr 2 0 0 0, .ptr 4 0 0 0, .flt a, .ptr 8 0 0 0, .own 36 .f64 L.length, .int .i64 n, .int .i64 i]
def B134 (s : GShape) (c : GVec) (L : List Nat) : List (Blk G) := [.cells (encG .shape s), .cells (encG .mass mass0), .cells (encG .vec c), .rows .f64 L]
def nought134 (l : List GVec) : List Nat := List.replicate (l.length : Int).toNat 0
noncomputable def E134 (s : GShape) (d : Nat) : List (Nat × LC G) := [(9, lcOf h134 (V134 d (areaM s.Points) (nought134 s.Points) (nought134 s.Points).length 0) (B134 s (midM s.Points) (nought134 s.Points))
  fun K => K (.exit 0) (V134 d (areaM s.Points) (polyI s.Points (midM s.Points)) (nought134 s.Points).length (nought134 s.Points).length) (B134 s (midM s.Points) (polyI s.Points (midM s.Points))))]
theorem step134 (lp : List (Nat × LC G)) (s : GShape) (d a : Nat) (c : GVec) (L : List Nat) (N : Int) (n : Nat) (i : Int) (K) : iter (EV L133 lp) h134 (lpBody Try.f134 0) (n + 1) (V134 d a L N i) (B134 s c L) K = bif decide (i < N) then
    (getI s.Points i).bind fun p => bif (L.length : Int) == 0 then none else (getI s.Points ((IntKind.i64.wrap (i + 1)).tmod L.length)).bind fun q => atN L.length L i fun _ =>
      iter (EV L133 lp) h134 (lpBody Try.f134 0) n (V134 d a (L.set i.toNat (ptri (vsub p c) (vsub q c))) N (IntKind.i64.wrap (i + 1))) (B134 s c (L.set i.toNat (ptri (vsub p c) (vsub q c)))) K
  else K (.exit 0) (V134 d a L N i) (B134 s c L) := by kernel_rfl
theorem x134 (s : GShape) (d : Nat) (K) : xfn (EV L133 (E134 s d)) Try.f134 [] (encs [.s .shape, .s .f64] (s, d, ())) [] K = bif areaE s.Points != 0 then K (.tuple [encR .mass mass0, .int .i64 (areaE s.Points)]) [] [] else
    bif areaE s.Points != 0 then K (.tuple [encR .mass mass0, .int .i64 (areaE s.Points)]) [] [] else bif decide (0 ≤ (s.Points.length : Int) ∧ (s.Points.length : Int) * ((8 : Nat) : Int) ≤ 2 ^ 47 ∧ 0 < 8) then
      gate (V134 d (areaM s.Points) (nought134 s.Points) (nought134 s.Points).length 0 = V134 d (areaM s.Points) (nought134 s.Points) (nought134 s.Points).length 0 ∧ B134 s (midM s.Points) (nought134 s.Points) = B134 s (midM s.Points) (nought134 s.Points))
        (K (.tuple [encR .mass (polyM s d), .int .i64 0]) [] []) else none := by kernel_rfl
theorem x134n (s : GShape) (d : Nat) (K) : xfn (EV L133 []) Try.f134 [] (encs [.s .shape, .s .f64] (s, d, ())) [] K = bif areaE s.Points != 0 then K (.tuple [encR .mass mass0, .int .i64 (areaE s.Points)]) [] [] else
    bif areaE s.Points != 0 then K (.tuple [encR .mass mass0, .int .i64 (areaE s.Points)]) [] [] else bif decide (0 ≤ (s.Points.length : Int) ∧ (s.Points.length : Int) * ((8 : Nat) : Int) ≤ 2 ^ 47 ∧ 0 < 8) then none else none := by kernel_rfl
/-- A list written place by place. -/
theorem fold_set (n : Nat) (g : Nat → Nat) (z : List Nat) (hz : z.length = n) : (List.range n).foldl (fun s i => s.set i (g i)) z = (List.range n).map g := by
  have main : ∀ m, m ≤ n → ((List.range m).foldl (fun s i => s.set i (g i)) z).length = n ∧ ∀ k, k < n → ((List.range m).foldl (fun s i => s.set i (g i)) z)[k]? = if k < m then some (g k) else z[k]? := by
    intro m
    induction m with
    | zero => intro _; exact ⟨hz, fun k _ => by simp⟩
    | succ m ih =>
      intro hm
      obtain ⟨g1, g2⟩ := ih (by omega)
      rw [List.range_succ, List.foldl_append]
      refine ⟨by simp [g1], fun k hk => ?_⟩
      simp only [List.foldl_cons, List.foldl_nil]
      rw [List.getElem?_set, g1]
      by_cases e : m = k
      · subst e; simp [hk]
      · rw [if_neg e, g2 k hk]
        by_cases h : k < m
        · rw [if_pos h, if_pos (by omega)]
        · rw [if_neg h, if_neg (by omega)]
  obtain ⟨h1, h2⟩ := main n (Nat.le_refl _)
  apply List.ext_getElem?
  intro k
  by_cases hk : k < n
  · rw [h2 k hk, if_pos hk]; simp [hk]
  · rw [List.getElem?_eq_none (by omega), List.getElem?_eq_none (by simp; omega)]
theorem areaE_ok {l : List GVec} (h : (areaE l != 0) = false) : 3 ≤ l.length ∧ l.length ≤ 64 := by
  refine perr_ok ?_
  unfold areaE at h
  cases h1 : perr l != 0 with
  | false => rfl
  | true => rw [h1, cond_true, h1] at h; cases h
theorem lp134 (s : GShape) (d : Nat) (h : 3 ≤ s.Points.length ∧ s.Points.length ≤ 64) : LpOk (EV L133 (E134 s d)) [] (lpBody Try.f134 0) (lcOf h134 (V134 d (areaM s.Points) (nought134 s.Points) (nought134 s.Points).length 0) (B134 s (midM s.Points) (nought134 s.Points))
    fun K => K (.exit 0) (V134 d (areaM s.Points) (polyI s.Points (midM s.Points)) (nought134 s.Points).length (nought134 s.Points).length) (B134 s (midM s.Points) (polyI s.Points (midM s.Points)))) := by
  have hz : (nought134 s.Points).length = s.Points.length := by unfold nought134; simp
  exact lcOf_ok (by kernel_rfl) fun K => ⟨_, (fold_loop (N := (nought134 s.Points).length) (g := fun L i => L.set i (polyAt s.Points (midM s.Points) i)) (F := fun n i L => iter (EV L133 (E134 s d)) h134 (lpBody Try.f134 0) n (V134 d (areaM s.Points) L (nought134 s.Points).length i) (B134 s (midM s.Points) L) K)
    (X := fun L => K (.exit 0) (V134 d (areaM s.Points) L (nought134 s.Points).length (nought134 s.Points).length) (B134 s (midM s.Points) L)) (s0 := nought134 s.Points) (fun _ L => L.length = s.Points.length) hz
    (fun n i L hi hL => by
      have e : ((L.length : Int) == 0) = false := beq_eq_false_iff_ne.2 (by omega)
      rw [step134, decide_eq_true (by omega), cond_true, getI_V (by omega), Option.bind_some, e, cond_false, wrap_succ (by omega), tmod_at, getI_V (by rw [hL]; exact Nat.mod_lt _ (by omega)), Option.bind_some, atN_any (by omega) (by omega) (Nat.le_refl _), hL, Int.toNat_natCast]
      rfl)
    (fun i L _ hL => by simp [hL]) (fun n L _ => by rw [step134, decide_eq_false (by omega)]; rfl)).trans (by
      rw [hz, fold_set s.Points.length _ _ hz]
      rfl)⟩
def c134 : FC G := FC.sp [.s .shape, .s .f64] fun (s, d, _) => .tuple [encR .mass (bif areaE (s : GShape).Points != 0 then mass0 else polyM s d), .int .i64 (areaE (s : GShape).Points)]
theorem ok134 : FcOk Try.prog 134 c134 := sp_lp L133ok Try.func134 (by kernel_rfl) (by kernel_rfl) fun (s, d, _) _ => by
  show ∃ lp, LpsOk (EV L133 lp) [] (bodyD Try.f134) ∧ ∀ K, xfn (EV L133 lp) Try.f134 [] (encs [.s .shape, .s .f64] (s, d, ())) [] K = K (.tuple [encR .mass (bif areaE (s : GShape).Points != 0 then mass0 else polyM s d), .int .i64 (areaE (s : GShape).Points)]) [] []
  cases h1 : areaE (s : GShape).Points != 0 with
  | true => exact ⟨[], LpsOk.of _ fun _ _ _ _ h => (by cases h), fun K => (x134n s d K).trans (by rw [h1]; rfl)⟩
  | false =>
    have h3 := areaE_ok h1
    have h0 : areaE (s : GShape).Points = 0 := by simpa using h1
    refine ⟨E134 s d, lps1 (i := 9) (by kernel_rfl) rfl (lp134 s d h3), fun K => (x134 s d K).trans ?_⟩
    rw [h1, cond_false, cond_false, decide_eq_true (by omega), cond_true, gate_pos ⟨rfl, rfl⟩, h0]
    rfl
noncomputable def L134 : Ctr := (134, c134) :: L133
theorem L134ok : AllOk L134 := .cons ok134 L133ok
/-! ### may a shape be? -/
def flen (a : Nat) : Bool := fle 4472074429978902528 a && fle a 4787326403894837248
def c219 : FC G := FC.sp [.s .f64] fun (a, _) => .bool (flen a)
theorem ok219 : FcOk Try.prog 219 c219 := sp0 L134ok Try.func219 (by kernel_rfl) (by kernel_rfl) (by kernel_rfl) fun (a, _) K => by kernel_rfl
noncomputable def L219 : Ctr := (219, c219) :: L134
theorem L219ok : AllOk L219 := .cons ok219 L134ok
def cirE (c : GCircle) : Int := bif (!vwithin c.At 4787326403894837248) || !flen c.Radius then 5 else 0
def capE (c : GCapsule) : Int := bif ((!vwithin c.A 4787326403894837248) || !vwithin c.B 4787326403894837248) || !flen c.Radius then 5 else bif flt (vlen (vsub c.B c.A)) 4472074429978902528 then 6 else 0
def c216 : FC G := FC.sp [.s .circle] fun (c, _) => .int .i64 (cirE c)
theorem ok216 : FcOk Try.prog 216 c216 := sp0 L219ok Try.func216 (by kernel_rfl) (by kernel_rfl) (by kernel_rfl) fun (c, _) K => (show xfn (EV L219 []) Try.f216 [] (encs [.s .circle] (c, ())) [] K = (bif ((!vwithin c.At 4787326403894837248) || !flen c.Radius) then K (.int .i64 5) [] [] else K (.int .i64 0) [] []) from by kernel_rfl).trans (by
  show _ = K (.int .i64 (cirE c)) [] []
  unfold cirE
  cases ((!vwithin (c : GCircle).At 4787326403894837248) || !flen (c : GCircle).Radius) <;> rfl)
noncomputable def L216 : Ctr := (216, c216) :: L219
theorem L216ok : AllOk L216 := .cons ok216 L219ok
def c221 : FC G := FC.sp [.s .capsule] fun (c, _) => .int .i64 (capE c)
theorem ok221 : FcOk Try.prog 221 c221 := sp0 L216ok Try.func221 (by kernel_rfl) (by kernel_rfl) (by kernel_rfl) fun (c, _) K => (show xfn (EV L216 []) Try.f221 [] (encs [.s .capsule] (c, ())) [] K = (bif (((!vwithin c.A 4787326403894837248) || !vwithin c.B 4787326403894837248) || !flen c.Radius) then K (.int .i64 5) [] [] else
    bif flt (vlen (vsub c.B c.A)) 4472074429978902528 then K (.int .i64 6) [] [] else K (.int .i64 0) [] []) from by kernel_rfl).trans (by
  show _ = K (.int .i64 (capE c)) [] []
  unfold capE
  cases (((!vwithin (c : GCapsule).A 4787326403894837248) || !vwithin (c : GCapsule).B 4787326403894837248) || !flen (c : GCapsule).Radius) with
  | true => rfl
  | false => cases flt (vlen (vsub (c : GCapsule).B (c : GCapsule).A)) 4472074429978902528 <;> rfl)
noncomputable def L221 : Ctr := (221, c221) :: L216
theorem L221ok : AllOk L221 := .cons ok221 L216ok
def c225 : FC G := FC.sp [.l .vec] fun (l, _) => .int .i64 (perr l)
theorem ok225 : FcOk Try.prog 225 c225 := sp0 L221ok Try.func225 (by kernel_rfl) (by kernel_rfl) (by kernel_rfl) fun (l, _) K => by kernel_rfl
noncomputable def L225 : Ctr := (225, c225) :: L221
theorem L225ok : AllOk L225 := .cons ok225 L221ok
def wild (s : GShape) : Bool := decide (s.Kind < 1) || decide (s.Kind > 3)
def isCir (s : GShape) : Bool := (s.Kind == 1) && ((s.Points.length : Int) == 1)
def isCap (s : GShape) : Bool := (s.Kind == 2) && ((s.Points.length : Int) == 2)
def isPol (s : GShape) : Bool := (((s.Kind == 3) && decide ((s.Points.length : Int) ≥ 3)) && decide ((s.Points.length : Int) ≤ 8)) && feq s.Radius 0
def runOpen (s : GShape) (K : RV G → List (Blk G) → List (Blk G) → Ans G) : Ans G := bif wild s then K (.tuple [.nilif, .int .i64 70]) [] [] else bif isCir s then (getI s.Points 0).bind fun p => K (.tuple [.iface 189 (encR .circle ⟨p, s.Radius⟩), .int .i64 0]) [] [] else
  bif isCap s then (getI s.Points 0).bind fun p => (getI s.Points 1).bind fun q => K (.tuple [.iface 191 (encR .capsule ⟨p, q, s.Radius⟩), .int .i64 0]) [] [] else
  bif isPol s then K (.tuple [.iface 192 (.rslice .vec s.Points), .int .i64 0]) [] [] else K (.tuple [.nilif, .int .i64 6]) [] []
def c180 : FC G := FC.rn [.s .shape] fun (s, _) K => runOpen s K
theorem ok180 : FcOk Try.prog 180 c180 := rn0 L225ok Try.func180 (by kernel_rfl) (by kernel_rfl) (by kernel_rfl) fun (s, _) K => by kernel_rfl
noncomputable def L180 : Ctr := (180, c180) :: L225
theorem L180ok : AllOk L180 := .cons ok180 L225ok
def runMay (s : GShape) (K : RV G → List (Blk G) → List (Blk G) → Ans G) : Ans G := bif wild s then K (.tuple [.nilif, .int .i64 70]) [] [] else bif isCir s then (getI s.Points 0).bind fun p => bif cirE ⟨p, s.Radius⟩ != 0 then K (.tuple [.nilif, .int .i64 (cirE ⟨p, s.Radius⟩)]) [] [] else K (.tuple [.iface 189 (encR .circle ⟨p, s.Radius⟩), .int .i64 0]) [] [] else
  bif isCap s then (getI s.Points 0).bind fun p => (getI s.Points 1).bind fun q => bif capE ⟨p, q, s.Radius⟩ != 0 then K (.tuple [.nilif, .int .i64 (capE ⟨p, q, s.Radius⟩)]) [] [] else K (.tuple [.iface 191 (encR .capsule ⟨p, q, s.Radius⟩), .int .i64 0]) [] [] else
  bif isPol s then (bif perr s.Points != 0 then K (.tuple [.nilif, .int .i64 (perr s.Points)]) [] [] else K (.tuple [.iface 192 (.rslice .vec s.Points), .int .i64 0]) [] []) else K (.tuple [.nilif, .int .i64 6]) [] []
def c136 : FC G := FC.rn [.s .shape] fun (s, _) K => runMay s K
theorem ok136 : FcOk Try.prog 136 c136 := rn0 L180ok Try.func136 (by kernel_rfl) (by kernel_rfl) (by kernel_rfl) fun (s, _) K => by kernel_rfl
noncomputable def L136 : Ctr := (136, c136) :: L180
theorem L136ok : AllOk L136 := .cons ok136 L180ok
def shE (s : GShape) : Int := bif wild s then 70 else bif isCir s then cirE ⟨getV s.Points 0, s.Radius⟩ else bif isCap s then capE ⟨getV s.Points 0, getV s.Points 1, s.Radius⟩ else bif isPol s then perr s.Points else 6
theorem x69 (s : GShape) (K) : xfn (EV L136 []) Try.f69 [] (encs [.s .shape] (s, ())) [] K = runMay s (fun r _ _ => match r with | .tuple [_, e] => K e [] [] | _ => none) := by kernel_rfl
def c69 : FC G := FC.sp [.s .shape] fun (s, _) => .int .i64 (shE s)
theorem ok69 : FcOk Try.prog 69 c69 := sp0 L136ok Try.func69 (by kernel_rfl) (by kernel_rfl) (by kernel_rfl) fun (s, _) K => (x69 s K).trans (by
  show runMay (s : GShape) _ = K (.int .i64 (shE s)) [] []
  unfold runMay shE
  cases wild (s : GShape) with
  | true => rfl
  | false =>
    cases h1 : isCir (s : GShape) with
    | true =>
      have hl : (s : GShape).Points.length = 1 := by
        unfold isCir at h1
        simp at h1; omega
      have h0 : getI (s : GShape).Points 0 = some (getV (s : GShape).Points 0) := getI_V (k := 0) (by omega)
      rw [h0]
      simp only [cond_false, cond_true, Option.bind_some]
      cases h : cirE ⟨getV (s : GShape).Points 0, (s : GShape).Radius⟩ != 0 with
      | true => rfl
      | false => rw [show cirE ⟨getV (s : GShape).Points 0, (s : GShape).Radius⟩ = 0 by simpa using h]; rfl
    | false =>
      cases h2 : isCap (s : GShape) with
      | true =>
        have hl : (s : GShape).Points.length = 2 := by
          unfold isCap at h2
          simp at h2; omega
        have h0 : getI (s : GShape).Points 0 = some (getV (s : GShape).Points 0) := getI_V (k := 0) (by omega)
        have h3 : getI (s : GShape).Points 1 = some (getV (s : GShape).Points 1) := getI_V (k := 1) (by omega)
        rw [h0, h3]
        simp only [cond_false, cond_true, Option.bind_some]
        cases h : capE ⟨getV (s : GShape).Points 0, getV (s : GShape).Points 1, (s : GShape).Radius⟩ != 0 with
        | true => rfl
        | false => rw [show capE ⟨getV (s : GShape).Points 0, getV (s : GShape).Points 1, (s : GShape).Radius⟩ = 0 by simpa using h]; rfl
      | false =>
        cases isPol (s : GShape) with
        | true =>
          simp only [cond_false, cond_true]
          cases h : perr (s : GShape).Points != 0 with
          | true => rfl
          | false => rw [show perr (s : GShape).Points = 0 by simpa using h]; rfl
        | false => rfl)
noncomputable def L69 : Ctr := (69, c69) :: L136
theorem L69ok : AllOk L69 := .cons ok69 L136ok
end Go.SX

/- What a shape weighs, by the program, whole; what the laws of masses ask of themselves. No statement of the seat is proved here. -/
namespace Go.SX
open Go.Proofs
set_option maxRecDepth 20000
def dwild (d : Nat) : Bool := (!fwithin d 4787326403894837248) || flt d 0
def polyR (s : GShape) (d : Nat) : GMass := bif areaE s.Points != 0 then mass0 else polyM s d
def kindM (s : GShape) (d : Nat) : GMass := bif s.Kind == 1 then circM s d else bif s.Kind == 2 then capM s d else polyR s d
def kindE (s : GShape) : Int := bif s.Kind == 1 then 0 else bif s.Kind == 2 then 0 else areaE s.Points
def ofM (s : GShape) (d : Nat) : GMass := bif shE s != 0 then mass0 else bif dwild d then mass0 else bif kindE s != 0 then mass0 else mchk (kindM s d)
def ofE (s : GShape) (d : Nat) : Int := bif shE s != 0 then shE s else bif dwild d then 5 else bif kindE s != 0 then kindE s else merr (kindM s d)
theorem x62 (s : GShape) (d : Nat) (K) : xfn (EV L69 []) Try.f62 [] (encs [.s .shape, .s .f64] (s, d, ())) [] K = bif shE s != 0 then K (jres mass0 (shE s)) [] [] else bif dwild d then K (jres mass0 5) [] [] else
    bif s.Kind == 1 then gate (1 ≤ s.Points.length) (K (jres (mchk (circM s d)) (merr (circM s d))) [] []) else bif s.Kind == 2 then gate (2 ≤ s.Points.length) (K (jres (mchk (capM s d)) (merr (capM s d))) [] []) else
    bif areaE s.Points != 0 then K (jres mass0 (areaE s.Points)) [] [] else K (jres (mchk (polyR s d)) (merr (polyR s d))) [] [] := by kernel_rfl
theorem shE_len {s : GShape} (h : (shE s != 0) = false) : ((s.Kind == 1) = true → s.Points.length = 1) ∧ ((s.Kind == 2) = true → s.Points.length = 2) := by
  unfold shE at h
  cases h0 : wild s with
  | true => rw [h0] at h; simp at h
  | false =>
    rw [h0, cond_false] at h
    cases h1 : isCir s with
    | true =>
      unfold isCir at h1
      simp at h1
      refine ⟨fun _ => by omega, fun h2 => ?_⟩
      simp at h2; omega
    | false =>
      rw [h1, cond_false] at h
      cases h2 : isCap s with
      | true =>
        unfold isCap at h2
        simp at h2
        refine ⟨fun h3 => ?_, fun _ => by omega⟩
        simp at h3; omega
      | false =>
        rw [h2, cond_false] at h
        cases h3 : isPol s with
        | true =>
          unfold isPol at h3
          simp at h3
          refine ⟨fun h4 => ?_, fun h4 => ?_⟩
          · simp at h4; omega
          · simp at h4; omega
        | false => rw [h3] at h; simp at h
def c62 : FC G := FC.sp [.s .shape, .s .f64] fun (s, d, _) => jres (ofM s d) (ofE s d)
theorem ok62 : FcOk Try.prog 62 c62 := sp0 L69ok Try.func62 (by kernel_rfl) (by kernel_rfl) (by kernel_rfl) fun (s, d, _) K => (x62 s d K).trans (by
  show _ = K (jres (ofM s d) (ofE s d)) [] []
  unfold ofM ofE
  cases h0 : shE (s : GShape) != 0 with
  | true => rfl
  | false =>
    obtain ⟨h1, h2⟩ := shE_len h0
    cases dwild d with
    | true => rfl
    | false =>
      unfold kindE kindM
      cases h3 : (s : GShape).Kind == 1 with
      | true => rw [gate_pos (by rw [h1 h3]; exact Nat.le_refl _)]; rfl
      | false => cases h4 : (s : GShape).Kind == 2 with
        | true => simp only [cond_false, cond_true]; rw [gate_pos (by rw [h2 h4]; exact Nat.le_refl _)]; rfl
        | false =>
          simp only [cond_false]
          cases h5 : areaE (s : GShape).Points != 0 <;> rfl)
noncomputable def L62 : Ctr := (62, c62) :: L69
theorem L62ok : AllOk L62 := .cons ok62 L69ok
def c63 : FC G := FC.sp [.l .vec] fun (l, _) => encR .shape ⟨3, 0, l⟩
theorem ok63 : FcOk Try.prog 63 c63 := sp0 L62ok Try.func63 (by kernel_rfl) (by kernel_rfl) (by kernel_rfl) fun (l, _) K => by kernel_rfl
noncomputable def L63 : Ctr := (63, c63) :: L62
theorem L63ok : AllOk L63 := .cons ok63 L62ok
def c67 : FC G := FC.rn [.s .f64] fun (r, _) K => K (.agg [.int .u8 1, .flt r, .own 0 .vec 1]) [] [.rows .vec [vec0]]
theorem ok67 : FcOk Try.prog 67 c67 := rn0 L63ok Try.func67 (by kernel_rfl) (by kernel_rfl) (by kernel_rfl) fun (r, _) K => by kernel_rfl
noncomputable def L67 : Ctr := (67, c67) :: L63
theorem L67ok : AllOk L67 := .cons ok67 L63ok
theorem ok49 : FcOk Try.prog 49 (FC.sp [] fun _ => .bool true) := sp0 L67ok Try.func49 (by kernel_rfl) (by kernel_rfl) (by kernel_rfl) fun _ K => (show xfn (EV L67 []) Try.f49 [] [] [] K = K (.bool true) [] [] from by kernel_rfl)
end Go.SX

/- The laws MassOnes and MassJoins answer true. No statement of the seat is proved here. -/
namespace Go.SX
open Go.Proofs
set_option maxRecDepth 20000
theorem fis_same (x : Nat) : fis x x = true := by unfold fis; simp
noncomputable def L10 : Ctr := (49, FC.sp [] fun _ => .bool true) :: L51
theorem L10ok : AllOk L10 := .cons ok49 L51ok
def abM (m : GMass) (p : GVec) : Nat := bif mok m && vwithin p 4787326403894837248 then mabout m p else 0
def abE (m : GMass) (p : GVec) : Int := bif !mok m then 80 else bif !vwithin p 4787326403894837248 then 5 else 0
def stM (m : GMass) : Nat := bif mok m then fover m.Mass else 0
def stI (m : GMass) : Nat := bif mok m then fover m.Inertia else 0
theorem ok10 : FcOk Try.prog 10 (FC.sp [.s .mass, .s .vec] fun _ => .bool true) := sp0 L10ok Try.func10 (by kernel_rfl) (by kernel_rfl) (by kernel_rfl) fun (m, p, _) K =>
  (show xfn (EV L10 []) Try.f10 [] (encs [.s .mass, .s .vec] (m, p, ())) [] K = K (.bool ((((((true && (merr m == merr m)) && fis (abM m p) (abM m p)) && (abE m p == abE m p)) && fis (stM m) (stM m)) && fis (stI m) (stI m)) && (merr m == merr m))) [] [] from by kernel_rfl).trans (by
  rw [fis_same, fis_same, fis_same]
  simp)
/-! ### MassJoins -/
def mark1 : GMass := { mass0 with Mass := 4635118810238550016 }
def mark2 : GMass := { mass0 with Mass := 4635189178982727680 }
def q9 (l : List GMass) : List GMass := ([] ++ l) ++ [mark1, mark2]
def lent9 (l : List GMass) : List GMass := ((q9 l).drop 0).take ((l.length : Int) - 0).toNat
theorem lent9_eq (l : List GMass) : lent9 l = l := by unfold lent9 q9; simp
def h9 : LH G := ⟨[0, 2, 3, 4, 6, 8, 9, 10], [], [26]⟩
def same9 (l : List GMass) : Bool := msame (joinM (lent9 l)) (joinM l)
def V9 (l : List GMass) (i : Int) : List (RV G) := [.rslice .mass l, .bool false, .bool true, .own 26 .mass (q9 l).length, .int .i64 (joinE (lent9 l)), .int .i64 (joinE l), .bool (same9 l), .int .i64 i]
def B9 (l : List GMass) : List (Blk G) := [.rows .mass (q9 l)]
noncomputable def E9 (l : List GMass) : List (Nat × LC G) := [(12, lcOf h9 (V9 l 0) (B9 l) fun K => K (.exit 0) (V9 l l.length) (B9 l))]
theorem step9 (lp : List (Nat × LC G)) (l : List GMass) (n : Nat) (i : Int) (K) : iter (EV L10 lp) h9 (lpBody Try.f9 0) (n + 1) (V9 l i) (B9 l) K = bif decide (i < (l.length : Int)) then
    atN (q9 l).length (q9 l) i fun x => (getI l i).bind fun y => bif !msame x y then K .ret (V9 l i) (B9 l) else iter (EV L10 lp) h9 (lpBody Try.f9 0) n (V9 l (IntKind.i64.wrap (i + 1))) (B9 l) K
  else K (.exit 0) (V9 l i) (B9 l) := by kernel_rfl
theorem x9 (l : List GMass) (K) : xfn (EV L10 (E9 l)) Try.f9 [] (encs [.l .mass] (l, ())) [] K = bif decide ((l.length : Int) > 300) then K (.bool true) [] [] else
    bif decide (([] ++ l : List GMass).length * 32 ≤ 2 ^ 47) then bif decide ((q9 l).length * 32 ≤ 2 ^ 47) then bif decide ((0 : Int) ≤ 0 ∧ (0 : Int) ≤ (l.length : Int) ∧ (l.length : Int) ≤ ((q9 l).length : Int)) then
      gate (V9 l 0 = V9 l 0 ∧ B9 l = B9 l) (bif ((true && same9 l) && (joinE (lent9 l) == joinE l)) then atN (q9 l).length (q9 l) (l.length : Int) fun x => bif (true && feq x.Mass 4635118810238550016) then
        atN (q9 l).length (q9 l) (IntKind.i64.wrap ((l.length : Int) + 1)) fun y => K (.bool (true && feq y.Mass 4635189178982727680)) [] [] else K (.bool false) [] [] else K (.bool false) [] [])
    else none else none else none := by kernel_rfl
theorem x9n (l : List GMass) (K) : xfn (EV L10 []) Try.f9 [] (encs [.l .mass] (l, ())) [] K = bif decide ((l.length : Int) > 300) then K (.bool true) [] [] else
    bif decide (([] ++ l : List GMass).length * 32 ≤ 2 ^ 47) then bif decide ((q9 l).length * 32 ≤ 2 ^ 47) then bif decide ((0 : Int) ≤ 0 ∧ (0 : Int) ≤ (l.length : Int) ∧ (l.length : Int) ≤ ((q9 l).length : Int)) then none else none else none else none := by kernel_rfl
theorem msame_self (m : GMass) : msame m m = true := by unfold msame vsame; simp only [fis_same, Bool.and_self]
theorem q9_len (l : List GMass) : (q9 l).length = l.length + 2 := by simp [q9]
theorem q9_at {l : List GMass} {i : Nat} (h : i < l.length) : (q9 l)[((i : Nat) : Int).toNat]? = some (getM l i) := by
  have := getI_M h
  unfold getI at this
  rw [decide_eq_true (by omega), cond_true] at this
  rw [← this, Int.toNat_natCast]
  unfold q9
  rw [List.nil_append, List.getElem?_append_left h]
theorem lp9 (lp : List (Nat × LC G)) (l : List GMass) (hl : l.length ≤ 300) : LpOk (EV L10 lp) [] (lpBody Try.f9 0) (lcOf h9 (V9 l 0) (B9 l) fun K => K (.exit 0) (V9 l l.length) (B9 l)) :=
  lcOf_ok (by kernel_rfl) fun K => ⟨_, fold_loop (N := l.length) (g := fun (_ : Unit) _ => ()) (F := fun n i _ => iter (EV L10 lp) h9 (lpBody Try.f9 0) n (V9 l i) (B9 l) K) (X := fun _ => K (.exit 0) (V9 l l.length) (B9 l)) (s0 := ()) (fun _ _ => True) trivial
    (fun n i _ hi _ => by
      have := q9_len l
      rw [step9, decide_eq_true (by omega), cond_true, atN_at (by omega) (by omega) (q9_at hi), getI_M hi, Option.bind_some, msame_self, wrap_succ (by omega)]
      rfl)
    (fun _ _ _ _ => trivial) (fun n _ _ => by rw [step9, decide_eq_false (by omega)]; rfl)⟩
theorem ok9 : FcOk Try.prog 9 (FC.sp [.l .mass] fun _ => .bool true) := sp_lp L10ok Try.func9 (by kernel_rfl) (by kernel_rfl) fun (l, _) _ => by
  show ∃ lp, LpsOk (EV L10 lp) [] (bodyD Try.f9) ∧ ∀ K, xfn (EV L10 lp) Try.f9 [] (encs [.l .mass] (l, ())) [] K = K (.bool true) [] []
  cases h : decide (((l : List GMass).length : Int) > 300) with
  | true => exact ⟨[], LpsOk.of _ fun _ _ _ _ h => (by cases h), fun K => (x9n l K).trans (by rw [h]; rfl)⟩
  | false =>
    rw [decide_eq_false_iff_not] at h
    have hl : (l : List GMass).length ≤ 300 := by omega
    have hq := q9_len l
    have e1 : (q9 (l : List GMass))[((l : List GMass).length : Int).toNat]? = some mark1 := by unfold q9; simp
    have e2 : (q9 (l : List GMass))[((((l : List GMass).length + 1 : Nat)) : Int).toNat]? = some mark2 := by unfold q9; rw [Int.toNat_natCast, List.nil_append, List.getElem?_append_right (by omega)]; simp
    have e3 : same9 (l : List GMass) = true := by unfold same9; rw [lent9_eq]; exact msame_self _
    refine ⟨E9 l, lps1 (i := 12) (by kernel_rfl) rfl (lp9 _ l hl), fun K => (x9 l K).trans ?_⟩
    rw [decide_eq_false (by omega), cond_false, decide_eq_true (by rw [List.nil_append]; omega), cond_true, decide_eq_true (by omega), cond_true, decide_eq_true (by omega), cond_true, gate_pos ⟨rfl, rfl⟩, e3, lent9_eq,
      atN_at (by omega) (by omega) e1, wrap_succ (by omega), atN_at (by omega) (by omega) e2]
    have f1 : feq mark1.Mass 4635118810238550016 = true := by decide
    have f2 : feq mark2.Mass 4635189178982727680 = true := by decide
    rw [f1, f2]
    simp
end Go.SX

/- Rounding: a rounded number lies between the floats about it. No statement of the seat is proved here. -/
namespace Go.SX
open Ieee
set_option maxRecDepth 20000
/-! ### cutting digits -/
theorem cut_spec (b : Bool) (n d : Nat) : n / 2 ^ d ≤ Toward.even.cut b n d ∧ Toward.even.cut b n d ≤ n / 2 ^ d + 1 ∧ (n % 2 ^ d = 0 → Toward.even.cut b n d = n / 2 ^ d) := by
  unfold Toward.cut
  by_cases h : d ≤ n.log2 + 2
  · rw [Nat.min_eq_left h]
    simp only [Nat.one_shiftLeft]
    have hb : ∀ c : Bool, c.toNat ≤ 1 := fun c => by cases c <;> decide
    refine ⟨Nat.le_add_right _ _, Nat.add_le_add_left (hb _) _, fun h0 => ?_⟩
    rw [h0]
    have hp : 0 < 2 ^ d := Nat.two_pow_pos d
    have e1 : decide (2 ^ d < 2 * 0) = false := decide_eq_false (by omega)
    have e2 : (2 ^ d == 2 * 0) = false := by simp
    simp only [e1, e2, Bool.false_or, Bool.false_and]
    rfl
  · rw [Nat.min_eq_right (by omega)]
    simp only [Nat.one_shiftLeft]
    have hlt : n < 2 ^ (n.log2 + 1) := Nat.lt_log2_self
    have h2 : 2 ^ (n.log2 + 2) = 2 * 2 ^ (n.log2 + 1) := by rw [Nat.pow_succ]; omega
    have h3 : 2 ^ (n.log2 + 2) ≤ 2 ^ d := Nat.pow_le_pow_right (by decide) (by omega)
    have e0 : n / 2 ^ d = 0 := Nat.div_eq_of_lt (by omega)
    have e1 : n / 2 ^ (n.log2 + 2) = 0 := Nat.div_eq_of_lt (by omega)
    have e2 : n % 2 ^ (n.log2 + 2) = n := Nat.mod_eq_of_lt (by omega)
    rw [e0, e1, e2]
    have e3 : decide (2 ^ (n.log2 + 2) < 2 * n) = false := decide_eq_false (by omega)
    have e4 : (2 ^ (n.log2 + 2) == 2 * n) = false := beq_eq_false_iff_ne.2 (by omega)
    simp only [e3, e4, Bool.false_or, Bool.false_and]
    exact ⟨Nat.le_refl _, by decide, fun _ => rfl⟩
/-! ### rungs -/
theorem mg_at {k c : Nat} (h : k = 0 ∨ 4503599627370496 ≤ c) (hc : c ≤ 9007199254740992) : mg (k * 4503599627370496 + c) = c * 2 ^ k := by
  unfold mg
  rcases Nat.lt_or_ge c 4503599627370496 with g | g
  · have hk : k = 0 := by omega
    subst hk
    rw [if_pos (by omega)]; simp
  · rw [if_neg (by omega)]
    rcases Nat.lt_or_ge c 9007199254740992 with g2 | g2
    · have e1 : (k * 4503599627370496 + c) % 4503599627370496 = c - 4503599627370496 := by omega
      have e2 : (k * 4503599627370496 + c) / 4503599627370496 - 1 = k := by omega
      rw [e1, e2, show 4503599627370496 + (c - 4503599627370496) = c by omega]
    · have e0 : c = 9007199254740992 := by omega
      subst e0
      have e1 : (k * 4503599627370496 + 9007199254740992) % 4503599627370496 = 0 := by omega
      have e2 : (k * 4503599627370496 + 9007199254740992) / 4503599627370496 - 1 = k + 1 := by omega
      rw [e1, e2, Nat.pow_succ]
      omega
theorem mg_le {r s : Nat} (h : r ≤ s) : mg r ≤ mg s := by
  rcases Nat.lt_or_ge r s with g | g
  · exact Nat.le_of_lt (mg_lt g)
  · have : r = s := by omega
    rw [this]; exact Nat.le_refl _
/-! ### the nearest float: between its neighbours -/
/-- The rung that a number 'm * 2^p' is rounded to, infinity not looked at. -/
def lastOf (m : Nat) (p : Int) : Int := max (p + m.log2 - 52) (-1074)
def keptOf (m : Nat) (p : Int) : Nat := Toward.even.cut false (m <<< (p - lastOf m p).toNat) (lastOf m p - p).toNat
def rdOf (m : Nat) (p : Int) : Nat := if m = 0 then 0 else (lastOf m p + 1074).toNat * 4503599627370496 + keptOf m p
theorem nearest_rd (b : Bool) (m : Nat) (p : Int) : double.nearest b m p = double.word b (min (rdOf m p) 9218868437227405312) := by
  unfold Format.nearest rdOf
  by_cases h : m = 0
  · rw [if_pos h, if_pos h]; rfl
  · rw [if_neg h, if_neg h]
    have h1 : double.fractionBits = 52 := rfl
    have h2 : double.leastPlace = -1074 := by decide
    have h3 : double.binade = 4503599627370496 := by decide
    have h4 : double.infRung = 9218868437227405312 := by decide
    rw [h2, h3, h4]
    simp only [h1]
    show double.word b (min ((lastOf m p - -1074).toNat * 4503599627370496 + keptOf m p) 9218868437227405312) = _
    rw [show lastOf m p - -1074 = lastOf m p + 1074 by omega]
/-- The number in units of the least place, as a fraction over a power of two. -/
def numOf (m : Nat) (p : Int) : Nat := m * 2 ^ (p + 1074).toNat
def denOf (p : Int) : Nat := 2 ^ (-(p + 1074)).toNat
theorem denOf_pos (p : Int) : 0 < denOf p := Nat.two_pow_pos _
structure Cutting (m : Nat) (p : Int) (k c f : Nat) : Prop where
  rd : rdOf m p = k * 4503599627370496 + c
  lo : f ≤ c
  hi : c ≤ f + 1
  top : f < 9007199254740992
  bot : k = 0 ∨ 4503599627370496 ≤ f
  floor : f * 2 ^ k * denOf p ≤ numOf m p
  ceil : numOf m p < (f + 1) * 2 ^ k * denOf p
  exact_ : numOf m p = f * 2 ^ k * denOf p → c = f
theorem log2_le {m : Nat} (h : m ≠ 0) : 2 ^ m.log2 ≤ m := Nat.log2_self_le h
theorem cutting {m : Nat} (hm : m ≠ 0) (p : Int) : ∃ k c f, Cutting m p k c f := by
  have hl := log2_le hm
  have hh : m < 2 ^ (m.log2 + 1) := Nat.lt_log2_self
  refine ⟨(lastOf m p + 1074).toNat, keptOf m p, (m <<< (p - lastOf m p).toNat) / 2 ^ (lastOf m p - p).toNat, ?_⟩
  have hlast : -1074 ≤ lastOf m p ∧ p + m.log2 - 52 ≤ lastOf m p ∧ (lastOf m p = -1074 ∨ lastOf m p = p + m.log2 - 52) := by
    unfold lastOf; omega
  obtain ⟨c1, c2, c3⟩ := cut_spec false (m <<< (p - lastOf m p).toNat) (lastOf m p - p).toNat
  have hsh : m <<< (p - lastOf m p).toNat = m * 2 ^ (p - lastOf m p).toNat := Nat.shiftLeft_eq _ _
  rw [hsh] at c1 c2 c3 ⊢
  generalize hL : lastOf m p = L at *
  -- one of the two shifts is nought
  have key : numOf m p * 2 ^ (L - p).toNat = m * 2 ^ (p - L).toNat * (2 ^ (L + 1074).toNat * denOf p) := by
    unfold numOf denOf
    rw [Nat.mul_assoc, Nat.mul_assoc, ← Nat.pow_add, ← Nat.pow_add, ← Nat.pow_add]
    congr 2
    omega
  have hd : 0 < 2 ^ (L - p).toNat := Nat.two_pow_pos _
  have hu : 0 < 2 ^ (L + 1074).toNat * denOf p := Nat.mul_pos (Nat.two_pow_pos _) (denOf_pos p)
  generalize hN : m * 2 ^ (p - L).toNat = N at *
  generalize hD : 2 ^ (L - p).toNat = D at *
  generalize hU : 2 ^ (L + 1074).toNat * denOf p = U at *
  have hdm := Nat.div_add_mod N D
  have hml := Nat.mod_lt N hd
  generalize hF : N / D = F at *
  generalize hR : N % D = R at *
  refine ⟨?_, ?_, ?_, ?_, ?_, ?_, ?_, ?_⟩
  · unfold rdOf; rw [if_neg hm, hL]
  · unfold keptOf; rw [hL, hsh]; exact c1
  · unfold keptOf; rw [hL, hsh]; exact c2
  · -- the digits kept are few
    have : N < 2 ^ 53 * D := by
      rw [← hN, ← hD]
      have e : m * 2 ^ (p - L).toNat < 2 ^ (m.log2 + 1) * 2 ^ (p - L).toNat := Nat.mul_lt_mul_of_pos_right hh (Nat.two_pow_pos _)
      refine Nat.lt_of_lt_of_le e ?_
      rw [← Nat.pow_add, ← Nat.pow_add]
      exact Nat.pow_le_pow_right (by decide) (by omega)
    have : N / D < 2 ^ 53 := (Nat.div_lt_iff_lt_mul hd).2 this
    rw [hF] at this
    exact this
  · by_cases hk : (L + 1074).toNat = 0
    · exact .inl hk
    · right
      have hLe : L = p + m.log2 - 52 := by omega
      have : 2 ^ 52 * D ≤ N := by
        rw [← hN, ← hD]
        refine Nat.le_trans ?_ (Nat.mul_le_mul_right _ hl)
        rw [← Nat.pow_add, ← Nat.pow_add]
        exact Nat.pow_le_pow_right (by decide) (by omega)
      have := (Nat.le_div_iff_mul_le hd).2 this
      rw [hF] at this
      exact this
  · rw [Nat.mul_assoc, hU]
    refine Nat.le_of_mul_le_mul_right (c := D) ?_ hd
    rw [key, ← hdm]
    calc F * U * D = D * F * U := by rw [Nat.mul_comm (F * U) D, ← Nat.mul_assoc]
      _ ≤ (D * F + R) * U := Nat.mul_le_mul_right _ (Nat.le_add_right _ _)
  · rw [Nat.mul_assoc, hU]
    refine Nat.lt_of_mul_lt_mul_right (a := D) ?_
    rw [key, ← hdm]
    calc (D * F + R) * U < (D * F + D) * U := Nat.mul_lt_mul_of_pos_right (by omega) hu
      _ = (F + 1) * U * D := by rw [← Nat.mul_succ, Nat.mul_comm ((F + 1) * U) D, ← Nat.mul_assoc]
  · intro he
    rw [Nat.mul_assoc, hU] at he
    have h0 : R = 0 := by
      rw [he] at key
      rw [← hdm] at key
      have e1 : F * U * D = D * F * U := by rw [Nat.mul_comm (F * U) D, ← Nat.mul_assoc]
      rw [e1, Nat.add_mul] at key
      have : R * U = 0 := by omega
      rcases Nat.mul_eq_zero.1 this with h | h
      · exact h
      · omega
    unfold keptOf
    rw [hL, hsh]
    exact c3 h0
/-- What is at least a float is rounded to no less. -/
theorem rd_ge {m : Nat} {p : Int} {t : Nat} (h : mg t * denOf p ≤ numOf m p) : t ≤ rdOf m p := by
  by_cases hm : m = 0
  · subst hm
    have h0 : numOf 0 p = 0 := by unfold numOf; simp
    rw [h0] at h
    have := denOf_pos p
    have : mg t = 0 := by
      rcases Nat.mul_eq_zero.1 (Nat.le_zero.1 h) with g | g
      · exact g
      · omega
    rw [mg_zero] at this
    omega
  · obtain ⟨k, c, f, hc⟩ := cutting hm p
    rw [hc.rd]
    refine Nat.le_of_not_lt fun hlt => ?_
    have hcc := hc.lo
    have htop := hc.top
    have hbot := hc.bot
    have h1 : mg (k * 4503599627370496 + f + 1) ≤ mg t := mg_le (by omega)
    have h2 : mg (k * 4503599627370496 + (f + 1)) = (f + 1) * 2 ^ k := mg_at (by omega) (by omega)
    rw [Nat.add_assoc, h2] at h1
    have := hc.ceil
    have := Nat.mul_le_mul_right (denOf p) h1
    omega
/-- What is at most a float is rounded to no more. -/
theorem rd_le {m : Nat} {p : Int} {t : Nat} (h : numOf m p ≤ mg t * denOf p) : rdOf m p ≤ t := by
  by_cases hm : m = 0
  · unfold rdOf; rw [if_pos hm]; omega
  · obtain ⟨k, c, f, hc⟩ := cutting hm p
    rw [hc.rd]
    refine Nat.le_of_not_lt fun hlt => ?_
    have hcc := hc.hi
    have hlo := hc.lo
    have htop := hc.top
    have hbot := hc.bot
    have hd := denOf_pos p
    have h1 : mg t ≤ mg (k * 4503599627370496 + f) := mg_le (by omega)
    have h2 : mg (k * 4503599627370496 + f) = f * 2 ^ k := mg_at (by omega) (by omega)
    rw [h2] at h1
    have h3 := Nat.mul_le_mul_right (denOf p) h1
    have h4 := hc.floor
    have h5 : numOf m p = f * 2 ^ k * denOf p := by omega
    have h6 := hc.exact_ h5
    subst h6
    have h7 : mg t < mg (k * 4503599627370496 + c) := mg_lt (by omega)
    rw [h2] at h7
    have := Nat.mul_lt_mul_of_pos_right h7 hd
    omega
end Go.SX

/- Sums and products of floats that are finite; a half. No statement of the seat is proved here. -/
namespace Go.SX
open Ieee
set_option maxRecDepth 20000
def Fin64 (x : Nat) : Prop := rung x < 9218868437227405312
/-- A float that 'a' over 'd' (in units of the least place) is rounded to. -/
structure Rounds (z : Nat) (a : Int) (d : Nat) : Prop where
  is : ∃ (R : Nat) (b : Bool), z = double.word b (min R 9218868437227405312) ∧ (∀ t, mg t * d ≤ a.natAbs → t ≤ R) ∧ (∀ t, a.natAbs ≤ mg t * d → R ≤ t) ∧ (0 < a → b = false) ∧ (a < 0 → b = true)
theorem word_parts (b : Bool) {r : Nat} (h : r ≤ 9218868437227405312) : rung (double.word b r) = r ∧ neg? (double.word b r) = b := by
  unfold Format.word Format.signWeight double rung neg?
  cases b
  · simp; omega
  · simp; omega
theorem Rounds.nan {z : Nat} {a : Int} {d : Nat} (h : Rounds z a d) : isNan z = false := by
  obtain ⟨R, b, rfl, _⟩ := h
  rw [isNan_rung, (word_parts b (Nat.min_le_right _ _)).1, decide_eq_false_iff_not]
  omega
theorem Rounds.le {z : Nat} {a : Int} {d t : Nat} (h : Rounds z a d) (ha : a.natAbs ≤ mg t * d) : rung z ≤ t := by
  obtain ⟨R, b, rfl, _, h2, _⟩ := h
  rw [(word_parts b (Nat.min_le_right _ _)).1]
  have := h2 t ha
  omega
theorem Rounds.ge {z : Nat} {a : Int} {d t : Nat} (h : Rounds z a d) (ht : t ≤ 9218868437227405312) (ha : mg t * d ≤ a.natAbs) : t ≤ rung z := by
  obtain ⟨R, b, rfl, h1, _⟩ := h
  rw [(word_parts b (Nat.min_le_right _ _)).1]
  have := h1 t ha
  omega
theorem Rounds.sign {z : Nat} {a : Int} {d : Nat} (h : Rounds z a d) : (0 < a → neg? z = false) ∧ (a < 0 → neg? z = true) := by
  obtain ⟨R, b, rfl, _, _, h3, h4⟩ := h
  rw [(word_parts b (Nat.min_le_right _ _)).2]
  exact ⟨h3, h4⟩
theorem val_abs (x : Nat) : (val x).natAbs = mg (rung x) := by
  unfold val sg
  cases neg? x <;> simp
theorem fin_nan {x : Nat} (h : Fin64 x) : isNan x = false := by
  unfold Fin64 at h
  rw [isNan_rung, decide_eq_false_iff_not]; omega
/-- A number that is written. -/
theorem writes (b : Bool) (m : Nat) (p : Int) (a : Int) (d : Nat) (hd : 0 < d) (hv : numOf m p * d = a.natAbs * denOf p) (h1 : 0 < a → b = false) (h2 : a < 0 → b = true) : Rounds (double.nearest b m p) a d := by
  have hp := denOf_pos p
  refine ⟨rdOf m p, b, nearest_rd b m p, fun t ht => rd_ge ?_, fun t ht => rd_le ?_, h1, h2⟩
  · refine Nat.le_of_mul_le_mul_right (c := d) ?_ hd
    rw [hv, Nat.mul_right_comm]
    exact Nat.mul_le_mul_right _ ht
  · refine Nat.le_of_mul_le_mul_right (c := d) ?_ hd
    rw [hv, Nat.mul_right_comm]
    exact Nat.mul_le_mul_right _ ht
theorem signed_neg (b : Bool) (m k : Nat) : signed (!b) m k = -signed b m k := by
  unfold signed
  cases b <;> simp
theorem val_read {x : Nat} (h : Fin64 x) : ∃ m k : Nat, FloatKind.f64.format.read x = .number (neg? x) m (-1074 + (k : Int)) ∧ val x = signed (neg? x) m k ∧ mg (rung x) = m * 2 ^ k := by
  obtain ⟨m, k, e, g⟩ := read_fin h
  refine ⟨m, k, e, ?_, g⟩
  rw [signed_sg, ← g]
  rfl
theorem sg_shift (b : Bool) (m k j : Nat) : signed b m (k + j) = signed b m k * ((2 ^ j : Nat) : Int) := by
  rw [signed_sg, signed_sg, Nat.pow_add, ← Nat.mul_assoc, sg_mul]
theorem sum_rounds {s t : Bool} {m n i j : Nat} : ∃ z, ((Datum.number s m (-1074 + (i : Int))).sum (.number t n (-1074 + (j : Int)))).map double.write = some z ∧ Rounds z (signed s m i + signed t n j) 1 := by
  refine ⟨_, rfl, ?_⟩
  have hb : min (-1074 + (i : Int)) (-1074 + (j : Int)) = -1074 + ((min i j : Nat) : Int) := by omega
  simp only [Format.write, hb]
  have e1 : (-1074 + (i : Int) - (-1074 + ((min i j : Nat) : Int))).toNat = i - min i j := by omega
  have e2 : (-1074 + (j : Int) - (-1074 + ((min i j : Nat) : Int))).toNat = j - min i j := by omega
  rw [e1, e2]
  have f1 : signed s m i = signed s m (i - min i j) * ((2 ^ min i j : Nat) : Int) := by rw [← sg_shift]; congr 1; omega
  have f2 : signed t n j = signed t n (j - min i j) * ((2 ^ min i j : Nat) : Int) := by rw [← sg_shift]; congr 1; omega
  rw [f1, f2, ← Int.add_mul]
  generalize signed s m (i - min i j) + signed t n (j - min i j) = T
  have hp : (0 : Int) < ((2 ^ min i j : Nat) : Int) := by exact_mod_cast Nat.two_pow_pos _
  refine writes _ _ _ _ 1 (by decide) ?_ (fun h => ?_) (fun h => ?_)
  · unfold numOf denOf
    have g1 : (-1074 + ((min i j : Nat) : Int) + 1074).toNat = min i j := by omega
    have g2 : (-(-1074 + ((min i j : Nat) : Int) + 1074)).toNat = 0 := by omega
    rw [g1, g2, Int.natAbs_mul, Int.natAbs_natCast]
  · have hT : 0 < T := by
      refine Int.lt_of_not_ge fun hle => ?_
      have := Int.mul_nonpos_of_nonpos_of_nonneg hle (Int.le_of_lt hp)
      omega
    rw [if_neg (by omega), decide_eq_false (by omega)]
  · have hT : T < 0 := by
      refine Int.lt_of_not_ge fun hle => ?_
      have := Int.mul_nonneg hle (Int.le_of_lt hp)
      omega
    rw [if_neg (by omega), decide_eq_true hT]
theorem fadd_rounds {x y : Nat} (hx : Fin64 x) (hy : Fin64 y) : Rounds (fadd x y) (val x + val y) 1 := by
  obtain ⟨m, i, e1, v1, _⟩ := val_read hx
  obtain ⟨n, j, e2, v2, _⟩ := val_read hy
  unfold fadd Format.add
  rw [e1, e2, v1, v2]
  obtain ⟨z, h1, h2⟩ := sum_rounds (s := neg? x) (t := neg? y) (m := m) (n := n) (i := i) (j := j)
  have h1' : Option.map FloatKind.f64.format.write ((Datum.number (neg? x) m (-1074 + (i : Int))).sum (.number (neg? y) n (-1074 + (j : Int)))) = some z := h1
  rw [h1']
  exact h2
theorem fsub_rounds {x y : Nat} (hx : Fin64 x) (hy : Fin64 y) : Rounds (fsub x y) (val x - val y) 1 := by
  obtain ⟨m, i, e1, v1, _⟩ := val_read hx
  obtain ⟨n, j, e2, v2, _⟩ := val_read hy
  unfold fsub Format.sub
  rw [e1, e2, v1, v2]
  obtain ⟨z, h1, h2⟩ := sum_rounds (s := neg? x) (t := !neg? y) (m := m) (n := n) (i := i) (j := j)
  have h1' : Option.map FloatKind.f64.format.write ((Datum.number (neg? x) m (-1074 + (i : Int))).sum (Datum.number (neg? y) n (-1074 + (j : Int))).opposite) = some z := h1
  rw [h1']
  rw [signed_neg] at h2
  exact h2
theorem fmul_rounds {x y : Nat} (hx : Fin64 x) (hy : Fin64 y) : Rounds (fmul x y) (val x * val y) (2 ^ 1074) := by
  obtain ⟨m, i, e1, v1, _⟩ := val_read hx
  obtain ⟨n, j, e2, v2, _⟩ := val_read hy
  unfold fmul Format.mul
  rw [e1, e2, v1, v2]
  show Rounds (double.nearest (neg? x ^^ neg? y) (m * n) (-1074 + (i : Int) + (-1074 + (j : Int)))) _ _
  have hs : ∀ (b : Bool) (a k : Nat), (signed b a k).natAbs = a * 2 ^ k := fun b a k => by
    rw [signed_sg]
    unfold sg
    generalize a * 2 ^ k = w
    cases b <;> simp
  have hpos : ∀ (b : Bool) (a k : Nat), (b = false → 0 ≤ signed b a k) ∧ (b = true → signed b a k ≤ 0) := fun b a k => by
    rw [signed_sg]
    unfold sg
    generalize a * 2 ^ k = w
    cases b <;> simp
  refine writes _ _ _ _ _ (Nat.two_pow_pos _) ?_ (fun h => ?_) (fun h => ?_)
  · rw [Int.natAbs_mul, hs, hs]
    unfold numOf denOf
    have key : m * n * 2 ^ (-1074 + (i : Int) + (-1074 + (j : Int)) + 1074).toNat * 2 ^ 1074 = m * n * (2 ^ (-1074 + (i : Int) + (-1074 + (j : Int)) + 1074).toNat * 2 ^ 1074) := Nat.mul_assoc _ _ _
    rw [key, ← Nat.pow_add]
    have e3 : m * 2 ^ i * (n * 2 ^ j) * 2 ^ (-(-1074 + (i : Int) + (-1074 + (j : Int)) + 1074)).toNat = m * n * (2 ^ i * 2 ^ j * 2 ^ (-(-1074 + (i : Int) + (-1074 + (j : Int)) + 1074)).toNat) := by
      simp only [Nat.mul_assoc, Nat.mul_left_comm, Nat.mul_comm]
    rw [e3, ← Nat.pow_add, ← Nat.pow_add]
    congr 2
    omega
  · obtain ⟨p1, p2⟩ := hpos (neg? x) m i
    obtain ⟨q1, q2⟩ := hpos (neg? y) n j
    cases hx' : neg? x <;> cases hy' : neg? y <;> rw [hx', hy'] at h <;> first | rfl | skip
    · rw [hx'] at p1; rw [hy'] at q2
      have := Int.mul_nonpos_of_nonneg_of_nonpos (p1 rfl) (q2 rfl)
      omega
    · rw [hx'] at p2; rw [hy'] at q1
      have := Int.mul_nonpos_of_nonpos_of_nonneg (p2 rfl) (q1 rfl)
      omega
  · obtain ⟨p1, p2⟩ := hpos (neg? x) m i
    obtain ⟨q1, q2⟩ := hpos (neg? y) n j
    cases hx' : neg? x <;> cases hy' : neg? y <;> rw [hx', hy'] at h <;> first | rfl | skip
    · rw [hx'] at p1; rw [hy'] at q1
      have := Int.mul_nonneg (p1 rfl) (q1 rfl)
      omega
    · rw [hx'] at p2; rw [hy'] at q2
      have := Int.mul_nonneg_of_nonpos_of_nonpos (p2 rfl) (q2 rfl)
      omega
end Go.SX

/- Bounds of what is reckoned with places; a root of a square; a half. No statement of the seat is proved here. -/
namespace Go.SX
open Ieee
set_option maxRecDepth 20000
theorem mg_pow (k : Nat) : mg ((k + 1) * 4503599627370496) = 2 ^ (k + 52) := by
  have := mg_at (k := k) (c := 4503599627370496) (.inr (Nat.le_refl _)) (by decide)
  rw [show (k + 1) * 4503599627370496 = k * 4503599627370496 + 4503599627370496 by omega, this, Nat.pow_add, Nat.mul_comm]
/-- Of at most 2^(k - 1022), without the sign; finite. -/
def Bd (k : Nat) (x : Nat) : Prop := rung x ≤ (k + 1) * 4503599627370496 ∧ k < 2045
theorem Bd.fin {k x : Nat} (h : Bd k x) : Fin64 x := by
  obtain ⟨h1, h2⟩ := h
  unfold Fin64
  omega
theorem Bd.abs {k x : Nat} (h : Bd k x) : (val x).natAbs ≤ 2 ^ (k + 52) := by
  rw [val_abs, ← mg_pow]
  exact mg_le h.1
theorem Bd.sub {k x y : Nat} (hx : Bd k x) (hy : Bd k y) (hk : k + 1 < 2045) : Bd (k + 1) (fsub x y) := by
  refine ⟨(fsub_rounds hx.fin hy.fin).le ?_, hk⟩
  have h1 := hx.abs
  have h2 := hy.abs
  rw [mg_pow, show k + 1 + 52 = (k + 52) + 1 by omega, Nat.pow_succ]
  omega
theorem Bd.add {k x y : Nat} (hx : Bd k x) (hy : Bd k y) (hk : k + 1 < 2045) : Bd (k + 1) (fadd x y) := by
  refine ⟨(fadd_rounds hx.fin hy.fin).le ?_, hk⟩
  have h1 := hx.abs
  have h2 := hy.abs
  rw [mg_pow, show k + 1 + 52 = (k + 52) + 1 by omega, Nat.pow_succ]
  omega
theorem Bd.mul {k j x y : Nat} (hx : Bd k x) (hy : Bd j y) {n : Nat} (hn : k + j + 52 ≤ n + 1074) (hk : n < 2045) : Bd n (fmul x y) := by
  refine ⟨(fmul_rounds hx.fin hy.fin).le ?_, hk⟩
  rw [mg_pow, ← Nat.pow_add, Int.natAbs_mul]
  refine Nat.le_trans (Nat.mul_le_mul hx.abs hy.abs) ?_
  rw [← Nat.pow_add]
  exact Nat.pow_le_pow_right (by decide) (by omega)
theorem within_bd {a : Nat} (h : fwithin a 4787326403894837248 = true) : Bd 1062 a := by
  unfold fwithin at h
  simp only [Bool.and_eq_true] at h
  have n0 : isNan 4787326403894837248 = false := by decide
  have n1 : isNan (fneg 4787326403894837248) = false := by decide
  have na : isNan a = false := by
    cases hn : isNan a with
    | false => rfl
    | true => rw [fle_nan (.inl hn)] at h; cases h.2
  rw [fle_val n1 na, fle_val na n0] at h
  simp only [decide_eq_true_eq] at h
  have v0 : val 4787326403894837248 = (mg 4787326403894837248 : Int) := (val_pos (by decide)).1
  have v1 : val (fneg 4787326403894837248) = -(mg 4787326403894837248 : Int) := (val_neg (r := 4787326403894837248) (by decide)).1
  rw [v0, v1] at h
  have hm : mg (rung a) ≤ mg 4787326403894837248 := by rw [← val_abs]; omega
  refine ⟨?_, by decide⟩
  refine Nat.le_of_not_lt fun hlt => ?_
  have := mg_lt hlt
  have e : (1062 + 1) * 4503599627370496 = 4787326403894837248 := by decide
  rw [e] at this
  omega
structure VBd (k : Nat) (p : GVec) : Prop where
  x : Bd k p.X
  y : Bd k p.Y
theorem vwithin_bd {p : GVec} (h : vwithin p 4787326403894837248 = true) : VBd 1062 p := by
  unfold vwithin at h
  simp only [Bool.and_eq_true] at h
  exact ⟨within_bd h.1, within_bd h.2⟩
theorem VBd.sub {k : Nat} {p q : GVec} (hp : VBd k p) (hq : VBd k q) (hk : k + 1 < 2045) : VBd (k + 1) (vsub p q) := ⟨hp.x.sub hq.x hk, hp.y.sub hq.y hk⟩
theorem VBd.cross {k : Nat} {p q : GVec} (hp : VBd k p) (hq : VBd k q) {n : Nat} (hn : k + k + 52 ≤ n + 1074) (hk : n + 1 < 2045) : Bd (n + 1) (vcross p q) :=
  (hp.x.mul hq.y hn (by omega)).sub (hp.y.mul hq.x hn (by omega)) hk
theorem VBd.dot {k : Nat} {p q : GVec} (hp : VBd k p) (hq : VBd k q) {n : Nat} (hn : k + k + 52 ≤ n + 1074) (hk : n + 1 < 2045) : Bd (n + 1) (vdot p q) :=
  (hp.x.mul hq.x hn (by omega)).add (hp.y.mul hq.y hn (by omega)) hk
/-! ### a root -/
theorem val_nonneg {x : Nat} (h : neg? x = false) : 0 ≤ val x := by
  unfold val sg
  rw [h]
  simp
theorem sq_nonneg {x : Nat} (h : Fin64 x) : 0 ≤ val (fmul x x) := by
  have hr := fmul_rounds h h
  rcases Int.lt_trichotomy (val x) 0 with g | g | g
  · exact val_nonneg (hr.sign.1 (Int.mul_pos_of_neg_of_neg g g))
  · have h0 : rung (fmul x x) ≤ 0 := hr.le (by rw [g]; simp)
    have h1 : rung (fmul x x) = 0 := by omega
    have : (val (fmul x x)).natAbs = 0 := by rw [val_abs, h1]; rfl
    omega
  · exact val_nonneg (hr.sign.1 (Int.mul_pos g g))
theorem nearest_nan (b : Bool) (m : Nat) (p : Int) : isNan (double.nearest b m p) = false := by
  rw [nearest_rd, isNan_rung, (word_parts b (Nat.min_le_right _ _)).1, decide_eq_false_iff_not]
  omega
theorem sqrt_nan {x : Nat} (h : Fin64 x) (h0 : 0 ≤ val x) : isNan ((FloatKind.f64.format.sqrt x).getD qnan) = false := by
  obtain ⟨m, k, e, v, _⟩ := val_read h
  unfold Format.sqrt
  rw [e]
  simp only [Datum.root]
  split
  · exact nearest_nan _ _ _
  · rename_i hm
    split
    · rename_i hs
      rw [hs, signed_sg] at v
      have hp : 0 < m * 2 ^ k := Nat.mul_pos (by omega) (Nat.two_pow_pos _)
      unfold sg at v
      rw [v] at h0
      simp only [if_true] at h0
      omega
    · exact nearest_nan _ _ _
theorem vlen_nan {k : Nat} {p : GVec} (hp : VBd k p) {n : Nat} (hn : k + k + 52 ≤ n + 1074) (hk : n + 1 < 2045) : isNan (vlen p) = false := by
  have h1 := hp.x.mul hp.x hn (by omega)
  have h2 := hp.y.mul hp.y hn (by omega)
  have hf : Fin64 (vsq p) := (hp.dot hp hn hk).fin
  refine sqrt_nan hf ?_
  have g1 := sq_nonneg hp.x.fin
  have g2 := sq_nonneg hp.y.fin
  have hr := fadd_rounds h1.fin h2.fin
  rcases Int.lt_or_le 0 (val (fmul p.X p.X) + val (fmul p.Y p.Y)) with g | g
  · exact val_nonneg (hr.sign.1 g)
  · have e : val (fmul p.X p.X) + val (fmul p.Y p.Y) = 0 := by omega
    have h0 : rung (fadd (fmul p.X p.X) (fmul p.Y p.Y)) ≤ 0 := hr.le (by rw [e]; simp)
    have h3 : rung (fadd (fmul p.X p.X) (fmul p.Y p.Y)) = 0 := by omega
    have : (val (fadd (fmul p.X p.X) (fmul p.Y p.Y))).natAbs = 0 := by rw [val_abs, h3]; rfl
    show 0 ≤ val (fadd (fmul p.X p.X) (fmul p.Y p.Y))
    omega
/-- Orders of floats that are numbers. -/
theorem flt_not_fle {x y : Nat} (hx : isNan x = false) (hy : isNan y = false) : flt x y = !fle y x := by
  rw [flt_val hx hy, fle_val hy hx, Bool.eq_iff_iff]
  simp
/-! ### a half -/
theorem cut_shift (b : Bool) (n d j : Nat) (hn : n ≠ 0) : Toward.even.cut b (n * 2 ^ j) (d + j) = Toward.even.cut b n d := by
  unfold Toward.cut
  have hl : (n * 2 ^ j).log2 = n.log2 + j := by
    have h1 := Nat.log2_self_le hn
    have h2 : n < 2 ^ (n.log2 + 1) := Nat.lt_log2_self
    have hne : n * 2 ^ j ≠ 0 := Nat.mul_ne_zero hn (Nat.ne_of_gt (Nat.two_pow_pos j))
    have a1 : 2 ^ (n.log2 + j) ≤ n * 2 ^ j := by rw [Nat.pow_add]; exact Nat.mul_le_mul_right _ h1
    have a2 : n * 2 ^ j < 2 ^ (n.log2 + j + 1) := by
      rw [show n.log2 + j + 1 = (n.log2 + 1) + j by omega, Nat.pow_add]
      exact Nat.mul_lt_mul_of_pos_right h2 (Nat.two_pow_pos j)
    have b1 : n.log2 + j ≤ (n * 2 ^ j).log2 := (Nat.le_log2 hne).2 a1
    have b2 : (n * 2 ^ j).log2 < n.log2 + j + 1 := (Nat.log2_lt hne).2 a2
    omega
  rw [hl, show min (d + j) (n.log2 + j + 2) = min d (n.log2 + 2) + j by omega]
  simp only [Nat.one_shiftLeft, Nat.pow_add]
  generalize 2 ^ min d (n.log2 + 2) = g
  have hj : 0 < 2 ^ j := Nat.two_pow_pos j
  generalize 2 ^ j = q at hj
  rw [Nat.mul_div_mul_right _ _ hj, Nat.mul_mod_mul_right]
  have c1 : decide (g * q < 2 * (n % g * q)) = decide (g < 2 * (n % g)) := by
    rw [Bool.eq_iff_iff, decide_eq_true_eq, decide_eq_true_eq, ← Nat.mul_assoc]
    exact Nat.mul_lt_mul_right hj
  have c2 : (g * q == 2 * (n % g * q)) = (g == 2 * (n % g)) := by
    rw [Bool.eq_iff_iff, beq_iff_eq, beq_iff_eq, ← Nat.mul_assoc]
    exact Nat.mul_right_cancel_iff hj
  rw [c1, c2]
theorem log2_shift {n : Nat} (hn : n ≠ 0) (j : Nat) : (n * 2 ^ j).log2 = n.log2 + j := by
  have h1 := Nat.log2_self_le hn
  have h2 : n < 2 ^ (n.log2 + 1) := Nat.lt_log2_self
  have hne : n * 2 ^ j ≠ 0 := Nat.mul_ne_zero hn (Nat.ne_of_gt (Nat.two_pow_pos j))
  have a1 : 2 ^ (n.log2 + j) ≤ n * 2 ^ j := by rw [Nat.pow_add]; exact Nat.mul_le_mul_right _ h1
  have a2 : n * 2 ^ j < 2 ^ (n.log2 + j + 1) := by
    rw [show n.log2 + j + 1 = (n.log2 + 1) + j by omega, Nat.pow_add]
    exact Nat.mul_lt_mul_of_pos_right h2 (Nat.two_pow_pos j)
  have b1 : n.log2 + j ≤ (n * 2 ^ j).log2 := (Nat.le_log2 hne).2 a1
  have b2 : (n * 2 ^ j).log2 < n.log2 + j + 1 := (Nat.log2_lt hne).2 a2
  omega
theorem rd_shift (m j : Nat) (p : Int) : rdOf (m * 2 ^ j) p = rdOf m (p + (j : Int)) := by
  by_cases hm : m = 0
  · subst hm; unfold rdOf; simp
  have hne : m * 2 ^ j ≠ 0 := Nat.mul_ne_zero hm (Nat.ne_of_gt (Nat.two_pow_pos j))
  have hl := log2_shift hm j
  have hL : lastOf (m * 2 ^ j) p = lastOf m (p + (j : Int)) := by unfold lastOf; rw [hl]; omega
  unfold rdOf
  rw [if_neg hm, if_neg hne, hL]
  congr 1
  unfold keptOf
  rw [hL]
  generalize lastOf m (p + (j : Int)) = L
  rw [Nat.shiftLeft_eq, Nat.shiftLeft_eq]
  by_cases h1 : L ≤ p
  · have e1 : (L - p).toNat = 0 := by omega
    have e2 : (L - (p + (j : Int))).toNat = 0 := by omega
    rw [e1, e2, Nat.mul_assoc, ← Nat.pow_add]
    congr 2
    congr 1
    omega
  · by_cases h2 : p + (j : Int) ≤ L
    · have e1 : (p - L).toNat = 0 := by omega
      have e2 : (p + (j : Int) - L).toNat = 0 := by omega
      rw [e1, e2, Nat.pow_zero, Nat.mul_one, Nat.mul_one, show (L - p).toNat = (L - (p + (j : Int))).toNat + j by omega]
      exact cut_shift _ _ _ _ hm
    · have e1 : (p - L).toNat = 0 := by omega
      have e2 : (L - (p + (j : Int))).toNat = 0 := by omega
      rw [e1, e2, Nat.pow_zero, Nat.mul_one]
      have hne2 : m * 2 ^ (p + (j : Int) - L).toNat ≠ 0 := Nat.mul_ne_zero hm (Nat.ne_of_gt (Nat.two_pow_pos _))
      have := cut_shift false (m * 2 ^ (p + (j : Int) - L).toNat) 0 (L - p).toNat hne2
      rw [← this, Nat.zero_add, Nat.mul_assoc, ← Nat.pow_add]
      congr 3
      omega
theorem nearest_shift (b : Bool) (m j : Nat) (p q : Int) (h : q = p + (j : Int)) : double.nearest b (m * 2 ^ j) p = double.nearest b m q := by
  subst h
  rw [nearest_rd, nearest_rd, rd_shift]
theorem half_nearest (b : Bool) (m : Nat) (p : Int) (hm : m ≠ 0) (hl : m.log2 ≤ 54) (c : Nat) (hc : c = 2 ^ 52) :
    double.nearest b (2 * (m <<< (106 - m.log2) / c) + (m <<< (106 - m.log2) % c != 0).toNat) (p - -51 - ((106 - m.log2 : Nat) : Int) - 1) = double.nearest b (m * c) (p + -53) := by
  have hpc : 0 < c := by rw [hc]; exact Nat.two_pow_pos _
  have hsh : m <<< (106 - m.log2) = m * 2 ^ (54 - m.log2) * c := by
    rw [Nat.shiftLeft_eq, show 106 - m.log2 = (54 - m.log2) + 52 by omega, Nat.pow_add, ← Nat.mul_assoc, hc]
  rw [hsh, Nat.mul_div_cancel _ hpc, Nat.mul_mod_left]
  have hz : ((0 : Nat) != 0).toNat = 0 := rfl
  rw [hz, Nat.add_zero]
  have h1 : 2 * (m * 2 ^ (54 - m.log2)) = m * 2 ^ (55 - m.log2) := by
    rw [show 55 - m.log2 = (54 - m.log2) + 1 by omega, Nat.pow_succ, Nat.mul_comm 2, Nat.mul_assoc]
  rw [h1, hc, nearest_shift b m (55 - m.log2) _ (p - 1) (by omega), nearest_shift b m 52 _ (p - 1) (by omega)]
theorem nearest_nought (b : Bool) (p : Int) : double.nearest b 0 p = double.word b 0 := by unfold Format.nearest; rw [if_pos rfl]
theorem half_nought (b : Bool) (k : Nat) (p q : Int) (c : Nat) : double.nearest b (2 * (0 <<< k / c) + (0 <<< k % c != 0).toNat) p = double.nearest b (0 * c) q := by
  have h0 : 2 * (0 <<< k / c) + (0 <<< k % c != 0).toNat = 0 := by simp
  rw [h0, Nat.zero_mul, nearest_nought, nearest_nought]
theorem log2_53 {m : Nat} (hm : m ≠ 0) (h : m < 2 ^ 53) : m.log2 ≤ 54 := by
  have := (Nat.log2_lt hm).2 h
  omega
theorem read_few {x m : Nat} {b : Bool} {p : Int} (h : FloatKind.f64.format.read x = .number b m p) : m < 2 ^ 53 := by
  rw [read_eq] at h
  split at h
  · injection h with _ h2 _
    rw [← h2]
    exact Nat.lt_of_lt_of_le (by assumption) (by decide)
  · split at h
    · injection h with _ h2 _
      rw [← h2, show 2 ^ 53 = 4503599627370496 + 4503599627370496 by decide]
      exact Nat.add_lt_add_left (Nat.mod_lt _ (by decide)) _
    · split at h <;> cases h
def divD (a b : Datum) : Nat := ((a.quotient 54 b).map double.write).getD qnan
def mulD (a b : Datum) : Nat := ((a.product b).map double.write).getD qnan
theorem fdiv_D (x y : Nat) : fdiv x y = divD (FloatKind.f64.format.read x) (FloatKind.f64.format.read y) := rfl
theorem fmul_D (x y : Nat) : fmul x y = mulD (FloatKind.f64.format.read x) (FloatKind.f64.format.read y) := rfl
theorem half_D (s : Bool) (m : Nat) (p : Int) (h : m < 2 ^ 53) (c : Nat) (hc : c = 2 ^ 52) (hl : c.log2 = 52) : divD (.number s m p) (.number false c (-51)) = mulD (.number s m p) (.number false c (-53)) := by
  have h0 : c ≠ 0 := by
    intro e
    have : 0 < c := by rw [hc]; exact Nat.two_pow_pos _
    omega
  unfold divD mulD
  simp only [Datum.quotient, Datum.product, if_neg h0, Option.map_some, Option.getD_some, Format.write, hl]
  by_cases hm : m = 0
  · rw [hm]; exact half_nought _ _ _ _ _
  · exact half_nearest _ m p hm (log2_53 hm h) c hc
theorem fdiv_two {x : Nat} (hx : Fin64 x) : fdiv x 4611686018427387904 = fmul x 4602678819172646912 := by
  obtain ⟨m, k, e, _⟩ := val_read hx
  have e2 : FloatKind.f64.format.read 4611686018427387904 = .number false 4503599627370496 (-51) := by decide
  have e3 : FloatKind.f64.format.read 4602678819172646912 = .number false 4503599627370496 (-53) := by decide
  rw [fdiv_D, fmul_D, e2, e3, e]
  exact half_D _ _ _ (read_few e) _ (by decide) (by decide)
end Go.SX

/- Parts of bodies, by the program; a circle told by its content; whole numbers as floats. No statement of the seat is proved here. -/
namespace Go.SX
open Go.Proofs
set_option maxRecDepth 20000
/-- A loop that may end early. -/
theorem exit_loopP {κ β σ : Type} {N : Nat} {p : σ → Nat → Bool} {g : σ → Nat → σ} {F : κ → Nat → Int → σ → Option β} {R : κ → Nat → σ → Option β} {X : κ → σ → Option β} {s0 : σ} (I : Nat → σ → Prop) (h0 : I 0 s0)
    (hs : ∀ K n i s, i < N → I i s → F K (n + 1) (i : Int) s = bif p s i then R K i s else F K n ((i + 1 : Nat) : Int) (g s i)) (hI : ∀ i s, i < N → I i s → p s i = false → I (i + 1) (g s i)) (hx : ∀ K n s, I N s → F K (n + 1) (N : Int) s = X K s) :
    (∃ i s, i < N ∧ I i s ∧ p s i = true ∧ ∀ K, F K (N + 1) 0 s0 = R K i s) ∨ ∃ s, I N s ∧ ∀ K, F K (N + 1) 0 s0 = X K s := by
  have main : ∀ d i s, i + d = N → I i s → (∃ i' s', i' < N ∧ I i' s' ∧ p s' i' = true ∧ ∀ K, F K (d + 1) (i : Int) s = R K i' s') ∨ ∃ s', I N s' ∧ ∀ K, F K (d + 1) (i : Int) s = X K s' := by
    intro d
    induction d with
    | zero =>
      intro i s hi h
      have : i = N := by omega
      subst this
      exact .inr ⟨s, h, fun K => hx K 0 s h⟩
    | succ d ih =>
      intro i s hi h
      cases hp : p s i with
      | true => exact .inl ⟨i, s, by omega, h, hp, fun K => by rw [hs K _ i s (by omega) h, hp]; rfl⟩
      | false =>
        rcases ih (i + 1) (g s i) (by omega) (hI i s (by omega) h hp) with ⟨i', s', a1, a2, a3, a4⟩ | ⟨s', a1, a2⟩
        · exact .inl ⟨i', s', a1, a2, a3, fun K => by rw [hs K _ i s (by omega) h, hp]; exact a4 K⟩
        · exact .inr ⟨s', a1, fun K => by rw [hs K _ i s (by omega) h, hp]; exact a2 K⟩
  exact main N 0 s0 (by omega) h0
def part0 : GPart := ⟨⟨0, 0, []⟩, 0, 0, 0, false, 0, 0⟩
def getP (l : List GPart) (i : Nat) : GPart := l.getD i part0
theorem getI_P {l : List GPart} {k : Nat} (h : k < l.length) : getI l (k : Int) = some (getP l k) := by
  rw [getI_at h]
  unfold getP
  rw [List.getD_eq_getElem?_getD, List.getElem?_eq_getElem h]
  rfl
def errP (p : GPart) : Int := ofE p.Shape p.Density
def addP (acc : List GMass) (p : GPart) : List GMass := bif !p.Sensor then acc ++ [ofM p.Shape p.Density] else acc
/-- What the parts' gathering comes to: the first error, or none; the masses. -/
def pgo : List GPart → List GMass → Int × List GMass
  | [], acc => (0, acc)
  | p :: r, acc => bif errP p != 0 then (errP p, acc) else pgo r (addP acc p)
def partsM (l : List GPart) : GMass := bif decide ((l.length : Int) > 8) then mass0 else bif (pgo l []).1 != 0 then mass0 else joinM (pgo l []).2
def partsE (l : List GPart) : Int := bif decide ((l.length : Int) > 8) then 4 else bif (pgo l []).1 != 0 then (pgo l []).1 else joinE (pgo l []).2
theorem pgo_drop {l : List GPart} {i : Nat} (h : i < l.length) (acc : List GMass) : pgo (l.drop i) acc = bif errP (getP l i) != 0 then (errP (getP l i), acc) else pgo (l.drop (i + 1)) (addP acc (getP l i)) := by
  have e : l.drop i = getP l i :: l.drop (i + 1) := by
    rw [List.drop_eq_getElem_cons h]
    congr 1
    unfold getP
    rw [List.getD_eq_getElem?_getD, List.getElem?_eq_getElem h]
    rfl
  rw [e]
  rfl
structure InvP (l : List GPart) (i : Nat) (acc : List GMass) : Prop where
  few : acc.length ≤ i
  all_ : pgo (l.drop i) acc = pgo l []
theorem InvP.zero (l : List GPart) : InvP l 0 [] := ⟨Nat.le_refl _, rfl⟩
theorem InvP.step {l : List GPart} {i : Nat} {acc : List GMass} (h : InvP l i acc) (hi : i < l.length) (he : (errP (getP l i) != 0) = false) : InvP l (i + 1) (addP acc (getP l i)) := by
  have h1 := h.few
  have h2 := h.all_
  rw [pgo_drop hi, he] at h2
  refine ⟨?_, h2⟩
  unfold addP
  cases (getP l i).Sensor <;> simp <;> omega
theorem InvP.bad {l : List GPart} {i : Nat} {acc : List GMass} (h : InvP l i acc) (hi : i < l.length) (he : (errP (getP l i) != 0) = true) : (pgo l []).1 = errP (getP l i) ∧ ((pgo l []).1 != 0) = true := by
  have h2 := h.all_
  rw [pgo_drop hi, he] at h2
  rw [← h2]
  exact ⟨rfl, he⟩
theorem InvP.done {l : List GPart} {acc : List GMass} (h : InvP l l.length acc) : pgo l [] = (0, acc) := by
  have := h.all_
  rw [List.drop_length] at this
  exact this.symm
/-! ### Parts -/
def h68 : LH G := ⟨[2, 3, 13, 14, 15], [(4, .mass, 900)], [2]⟩
def V68 (l : List GPart) (e i : Int) (acc : List GMass) : List (RV G) := [.ptr 2 0 0 0, .int .i64 e, .rslice .part l, .int .i64 l.length, .int .i64 i, .own 900 .mass acc.length]
def B68 (acc : List GMass) : List (Blk G) := [.cells (encG .mass mass0), .rows .mass acc]
noncomputable def lc68 (l : List GPart) (e : XE) (vs : List (RV G)) (bs : List (Blk G)) : List (Nat × LC G) := [(5, lcOf h68 (V68 l 0 0 []) (B68 []) fun K => K e vs bs)]
theorem step68 (lp : List (Nat × LC G)) (l : List GPart) (acc : List GMass) (n : Nat) (i : Int) (K) : iter (EV L67 lp) h68 (lpBody Try.f68 0) (n + 1) (V68 l 0 i acc) (B68 acc) K = bif decide (i < (l.length : Int)) then (getI l i).bind fun p =>
    bif errP p != 0 then K .ret (V68 l (errP p) i acc) (B68 acc) else bif !p.Sensor then bif decide ((acc ++ [ofM p.Shape p.Density]).length * 32 ≤ 2 ^ 47) then
      iter (EV L67 lp) h68 (lpBody Try.f68 0) n (V68 l 0 (IntKind.i64.wrap (i + 1)) (acc ++ [ofM p.Shape p.Density])) (B68 (acc ++ [ofM p.Shape p.Density])) K else none
    else iter (EV L67 lp) h68 (lpBody Try.f68 0) n (V68 l 0 (IntKind.i64.wrap (i + 1)) acc) (B68 acc) K
  else K (.exit 0) (V68 l 0 i acc) (B68 acc) := by kernel_rfl
theorem x68r (l : List GPart) (e i : Int) (acc : List GMass) (K) : xfn (EV L67 (lc68 l .ret (V68 l e i acc) (B68 acc))) Try.f68 [] (encs [.l .part] (l, ())) [] K = bif decide ((l.length : Int) > 8) then K (jres mass0 4) [] [] else
    gate (V68 l 0 0 [] = V68 l 0 0 [] ∧ B68 [] = B68 []) (K (jres mass0 e) [] []) := by kernel_rfl
theorem x68x (l : List GPart) (acc : List GMass) (K) : xfn (EV L67 (lc68 l (.exit 0) (V68 l 0 l.length acc) (B68 acc))) Try.f68 [] (encs [.l .part] (l, ())) [] K = bif decide ((l.length : Int) > 8) then K (jres mass0 4) [] [] else
    gate (V68 l 0 0 [] = V68 l 0 0 [] ∧ B68 [] = B68 []) (K (jres (joinM acc) (joinE acc)) [] []) := by kernel_rfl
theorem x68n (l : List GPart) (K) : xfn (EV L67 []) Try.f68 [] (encs [.l .part] (l, ())) [] K = bif decide ((l.length : Int) > 8) then K (jres mass0 4) [] [] else none := by kernel_rfl
theorem run68 (l : List GPart) (hl : l.length ≤ 8) :
    (∃ (i : Nat) (acc : List GMass), ((pgo l []).1 != 0) = true ∧ ∀ K, iter (EV L67 []) h68 (lpBody Try.f68 0) (l.length + 1) (V68 l 0 0 []) (B68 []) K = K .ret (V68 l (pgo l []).1 i acc) (B68 acc)) ∨
    ∃ acc : List GMass, pgo l [] = (0, acc) ∧ ∀ K, iter (EV L67 []) h68 (lpBody Try.f68 0) (l.length + 1) (V68 l 0 0 []) (B68 []) K = K (.exit 0) (V68 l 0 l.length acc) (B68 acc) := by
  have h := exit_loopP (N := l.length) (p := fun (_ : List GMass) i => errP (getP l i) != 0) (g := fun acc i => addP acc (getP l i)) (F := fun K n i acc => iter (EV L67 []) h68 (lpBody Try.f68 0) n (V68 l 0 i acc) (B68 acc) K)
    (R := fun K i acc => K .ret (V68 l (errP (getP l i)) i acc) (B68 acc)) (X := fun K acc => K (.exit 0) (V68 l 0 l.length acc) (B68 acc)) (s0 := []) (InvP l) (InvP.zero l)
    (fun K n i acc hi h => by
      have := h.few
      rw [step68, decide_eq_true (by omega), cond_true, getI_P hi, Option.bind_some, wrap_succ (by omega), decide_eq_true (p := (acc ++ [ofM (getP l i).Shape (getP l i).Density]).length * 32 ≤ 2 ^ 47) (by rw [List.length_append, List.length_singleton]; omega)]
      unfold addP
      cases (getP l i).Sensor <;> rfl)
    (fun i acc hi h he => h.step hi he) (fun K n acc _ => by rw [step68, decide_eq_false (by omega)]; rfl)
  rcases h with ⟨i, acc, h1, h2, h3, h4⟩ | ⟨acc, h1, h2⟩
  · obtain ⟨b1, b2⟩ := h2.bad h1 h3
    exact .inl ⟨i, acc, b2, fun K => by rw [b1]; exact h4 K⟩
  · exact .inr ⟨acc, h1.done, h2⟩
def c68 : FC G := FC.sp [.l .part] fun (l, _) => jres (partsM l) (partsE l)
theorem ok68 : FcOk Try.prog 68 c68 := sp_lp L67ok Try.func68 (by kernel_rfl) (by kernel_rfl) fun (l, _) _ => by
  show ∃ lp, LpsOk (EV L67 lp) [] (bodyD Try.f68) ∧ ∀ K, xfn (EV L67 lp) Try.f68 [] (encs [.l .part] (l, ())) [] K = K (jres (partsM l) (partsE l)) [] []
  unfold partsM partsE
  cases h : decide (((l : List GPart).length : Int) > 8) with
  | true => exact ⟨[], LpsOk.of _ fun _ _ _ _ h => (by cases h), fun K => (x68n l K).trans (by rw [h]; rfl)⟩
  | false =>
    have hl : (l : List GPart).length ≤ 8 := by simp at h; omega
    rcases run68 l hl with ⟨i, acc, h1, h2⟩ | ⟨acc, h1, h2⟩
    · refine ⟨lc68 l .ret (V68 l (pgo l []).1 i acc) (B68 acc), lps1 (i := 5) (by kernel_rfl) rfl (lcOf_ok (by kernel_rfl) fun K => ⟨(l : List GPart).length + 1, by rw [iter_lp L67 _ [] (by kernel_rfl)]; exact h2 K⟩), fun K => (x68r l _ i acc K).trans ?_⟩
      rw [h, cond_false, gate_pos ⟨rfl, rfl⟩, h1]
      rfl
    · refine ⟨lc68 l (.exit 0) (V68 l 0 (l : List GPart).length acc) (B68 acc), lps1 (i := 5) (by kernel_rfl) rfl (lcOf_ok (by kernel_rfl) fun K => ⟨(l : List GPart).length + 1, by rw [iter_lp L67 _ [] (by kernel_rfl)]; exact h2 K⟩), fun K => (x68x l acc K).trans ?_⟩
      rw [h, cond_false, gate_pos ⟨rfl, rfl⟩, h1]
      rfl
noncomputable def L68 : Ctr := (68, c68) :: L67
theorem L68ok : AllOk L68 := .cons ok68 L67ok
/-! ### a circle, by its content -/
def c67c : FC G := FC.rn [.s .f64] fun (r, _) K => K (encR .shape ⟨1, r, [vec0]⟩) [] []
theorem ok67c : FcOk Try.prog 67 c67c := rn_okc L68ok Try.func67 (by kernel_rfl) [] [5] (.none (by kernel_rfl)) (by kernel_rfl) fun (r, _) K o h => (show xfn (EVc L68 [] [5]) Try.f67 [] (encs [.s .f64] (r, ())) [] K = K (encR .shape ⟨1, r, [vec0]⟩) [] [] from by kernel_rfl).trans h
/-! ### whole numbers -/
/-- The float of a whole number. -/
def tk (k : Nat) : Nat := (k.log2 + 1022) * 4503599627370496 + k * 2 ^ (52 - k.log2)
theorem tk_spec {k : Nat} (h0 : k ≠ 0) (h : k < 2 ^ 53) : mg (tk k) = k * 2 ^ 1074 ∧ tk k < 9218868437227405312 ∧ 0 < tk k := by
  have h1 := Nat.log2_self_le h0
  have h2 : k < 2 ^ (k.log2 + 1) := Nat.lt_log2_self
  have hl : k.log2 < 53 := (Nat.log2_lt h0).2 h
  have lo : 4503599627370496 ≤ k * 2 ^ (52 - k.log2) := by
    have : 2 ^ k.log2 * 2 ^ (52 - k.log2) ≤ k * 2 ^ (52 - k.log2) := Nat.mul_le_mul_right _ h1
    rw [← Nat.pow_add, show k.log2 + (52 - k.log2) = 52 by omega] at this
    exact this
  have hi : k * 2 ^ (52 - k.log2) < 9007199254740992 := by
    have : k * 2 ^ (52 - k.log2) < 2 ^ (k.log2 + 1) * 2 ^ (52 - k.log2) := Nat.mul_lt_mul_of_pos_right h2 (Nat.two_pow_pos _)
    rw [← Nat.pow_add, show k.log2 + 1 + (52 - k.log2) = 53 by omega] at this
    exact this
  unfold tk
  refine ⟨?_, by omega, by omega⟩
  rw [mg_at (.inr lo) (by omega), Nat.mul_assoc, ← Nat.pow_add]
  congr 2
  omega
theorem word_false {t : Nat} : Ieee.double.word false t = t := by unfold Ieee.Format.word; simp
theorem tk_fin {k : Nat} (h0 : k ≠ 0) (h : k < 2 ^ 53) : Fin64 (tk k) ∧ val (tk k) = ((k * 2 ^ 1074 : Nat) : Int) := by
  obtain ⟨h1, h2, _⟩ := tk_spec h0 h
  have hr : rung (tk k) = tk k := by unfold rung; omega
  refine ⟨by unfold Fin64; rw [hr]; exact h2, ?_⟩
  rw [(val_pos (by omega)).1, h1]
theorem exact_add {x y t : Nat} (hx : Fin64 x) (hy : Fin64 y) (ht : t < 9218868437227405312) (h0 : 0 < mg t) (h : val x + val y = (mg t : Int)) : fadd x y = t := by
  obtain ⟨R, b, e, h1, h2, h3, _⟩ := (fadd_rounds hx hy).is
  rw [h] at h1 h2 h3
  have a1 := h1 t (by simp)
  have a2 := h2 t (by simp)
  have hb := h3 (by omega)
  have : R = t := by omega
  subst this
  rw [e, hb, Nat.min_eq_left (by omega), word_false]
theorem mul_p2 {a : Nat} (n : Nat) (h : 0 < a) : 0 < a * 2 ^ n := Nat.mul_pos h (Nat.two_pow_pos n)
theorem tk_add {a b : Nat} (ha : a ≠ 0) (hb : b ≠ 0) (h : a + b < 2 ^ 53) : fadd (tk a) (tk b) = tk (a + b) := by
  obtain ⟨f1, v1⟩ := tk_fin ha (by omega)
  obtain ⟨f2, v2⟩ := tk_fin hb (by omega)
  obtain ⟨m, l, _⟩ := tk_spec (k := a + b) (by omega) h
  refine exact_add f1 f2 l ?_ ?_
  · rw [m]; exact mul_p2 1074 (Nat.add_pos_left (Nat.pos_of_ne_zero ha) b)
  · rw [v1, v2, m, Nat.add_mul]
    exact (Int.natCast_add _ _).symm
theorem tk_fold (a : Nat) (ha : a ≠ 0) : ∀ (n b : Nat), b ≠ 0 → b + n * a < 2 ^ 53 → (List.replicate n (tk a)).foldl fadd (tk b) = tk (b + n * a) := by
  intro n
  induction n with
  | zero => intro b _ _; simp
  | succ n ih =>
    intro b hb h
    rw [Nat.succ_mul] at h ⊢
    rw [List.replicate_succ, List.foldl_cons, tk_add hb ha (by omega), ih (b + a) (by omega) (by omega)]
    congr 1
    omega
theorem fsum_tk (a n : Nat) (ha : a ≠ 0) (hn : n ≠ 0) (h : n * a < 2 ^ 53) : fsum (List.replicate n (tk a)) = tk (n * a) := by
  obtain ⟨m, rfl⟩ : ∃ m, n = m + 1 := ⟨n - 1, by omega⟩
  rw [Nat.succ_mul] at h ⊢
  show (List.replicate m (tk a)).foldl fadd (tk a) = _
  rw [tk_fold a ha m a ha (by omega)]
  congr 1
  omega
theorem fsum_zero : ∀ (n : Nat), fsum (List.replicate n 0) = 0 := by
  have h0 : fadd 0 0 = 0 := by decide
  have main : ∀ n, (List.replicate n 0).foldl fadd 0 = 0 := by
    intro n
    induction n with
    | zero => rfl
    | succ n ih => rw [List.replicate_succ, List.foldl_cons, h0, ih]
  intro n
  cases n with
  | zero => rfl
  | succ n => exact main n
end Go.SX

/- The law MassNames answers true. No statement of the seat is proved here. -/
namespace Go.SX
open Go.Proofs
set_option maxRecDepth 20000
noncomputable def L13 : Ctr := (49, FC.sp [] fun _ => .bool true) :: (67, c67c) :: L68
theorem L13ok : AllOk L13 := .cons ok49 (.cons ok67c L68ok)
def mm13 : GMass := ⟨4607182418800017408, 4607182418800017408, ⟨4611686018427387904, 0⟩⟩
def start13 : List GMass := List.replicate (16385 : Int).toNat mass0
def h13a : LH G := ⟨[1, 2, 3], [], [22]⟩
def V13a (l : List GMass) (i : Int) : List (RV G) := [.bool true, .own 22 .mass l.length, .int .i64 i]
def B13a (l : List GMass) : List (Blk G) := [.rows .mass l]
def h13b : LH G := ⟨[1, 2, 4, 5, 6, 7, 8, 9, 10], [], [22, 4, 6, 8, 47]⟩
theorem step13a (lp : List (Nat × LC G)) (l : List GMass) (n : Nat) (i : Int) (K) : iter (EV L13 lp) h13a (lpBody Try.f13 0) (n + 1) (V13a l i) (B13a l) K = bif decide (i < (l.length : Int)) then
    atN l.length l i fun _ => iter (EV L13 lp) h13a (lpBody Try.f13 0) n (V13a (l.set i.toNat mm13) (IntKind.i64.wrap (i + 1))) (B13a (l.set i.toNat mm13)) K
  else K (.exit 0) (V13a l i) (B13a l) := by kernel_rfl
def pp13 : GPart := ⟨⟨1, 4607182418800017408, [vec0]⟩, 4607182418800017408, 0, 0, false, 0, 0⟩
def P9 : List GPart := [pp13, pp13, pp13, pp13, pp13, pp13, pp13, pp13, pp13]
def sh13 : GShape := ⟨1, 4607182418800017408, [vec0]⟩
def tk13 (lx : List GMass) : List GMass := (lx.drop 0).take ((16384 : Int) - 0).toNat
def fst13 (lx : List GMass) : Bool := (((((true && true) && (joinE (tk13 lx) == 0)) && (joinE lx == 4)) && feq (joinM (tk13 lx)).Mass 4670232813583204352) && feq (joinM (tk13 lx)).Inertia 4670232813583204352)
def all13 (lx : List GMass) : Bool :=
  (((((((true && (feq (joinM (tk13 lx)).Centre.X 4611686018427387904 && (feq (joinM (tk13 lx)).Centre.Y 0 && true)))
    && (partsE ((P9.drop 0).take ((8 : Int) - 0).toNat) == 0)) && (partsE P9 == 4)) && flt 4627730092099895296 (partsM ((P9.drop 0).take ((8 : Int) - 0).toNat)).Mass) && flt (partsM ((P9.drop 0).take ((8 : Int) - 0).toNat)).Mass 4628011567076605952)
    && (ofE sh13 4787326403894837248 == 0)) && (ofE sh13 4787326403894841344 == 5))
def sz13 : List GPart := List.replicate (9 : Int).toNat part0
def V13b (lx : List GMass) (p : List GPart) (i : Int) : List (RV G) := [.bool true, .own 22 .mass lx.length, .ptr 4 0 0 0, .int .i64 (joinE (tk13 lx)), .ptr 6 0 0 0, .int .i64 (joinE lx), .ptr 8 0 0 0, .own 47 .part p.length, .int .i64 i]
def B13b (lx : List GMass) (p : List GPart) : List (Blk G) := [.rows .mass lx, .cells (encG .mass (joinM (tk13 lx))), .cells (encG .mass (joinM lx)), .cells (encG .part pp13), .rows .part p]
noncomputable def F13 (lx : List GMass) : List (Nat × LC G) := [(6, lcOf h13a (V13a start13 0) (B13a start13) fun K => K (.exit 0) (V13a lx lx.length) (B13a lx)), (14, lcOf h13b (V13b lx sz13 0) (B13b lx sz13) fun K => K (.exit 2) (V13b lx P9 9) (B13b lx P9))]
theorem step13b (lx : List GMass) (p : List GPart) (i : Int) (n : Nat) (K) : iter (EV L13 []) h13b (lpBody Try.f13 1) (n + 1) (V13b lx p i) (B13b lx p) K = bif decide (i < (p.length : Int)) then atN p.length p i fun _ => iter (EV L13 []) h13b (lpBody Try.f13 1) n (V13b lx (p.set i.toNat pp13) (IntKind.i64.wrap (i + 1))) (B13b lx (p.set i.toNat pp13)) K
  else K (.exit 2) (V13b lx p i) (B13b lx p) := by kernel_rfl
theorem x13 (lx : List GMass) (K) : xfn (EV L13 (F13 lx)) Try.f13 [] [] [] K = gate (V13a start13 0 = V13a start13 0 ∧ B13a start13 = B13a start13)
    (bif decide ((0 : Int) ≤ 0 ∧ (0 : Int) ≤ 16384 ∧ (16384 : Int) ≤ (lx.length : Int)) then gate (V13b lx sz13 0 = V13b lx sz13 0 ∧ B13b lx sz13 = B13b lx sz13) (bif fst13 lx then K (.bool (all13 lx)) [] [] else K (.bool false) [] []) else none) := by kernel_rfl
theorem fold_put {α : Type} (x : α) (z : List α) : (List.range z.length).foldl (fun s i => s.set i x) z = List.replicate z.length x := by
  have main : ∀ m, m ≤ z.length → ((List.range m).foldl (fun s i => s.set i x) z).length = z.length ∧ ∀ k, k < z.length → ((List.range m).foldl (fun s i => s.set i x) z)[k]? = if k < m then some x else z[k]? := by
    intro m
    induction m with
    | zero => intro _; exact ⟨rfl, fun k _ => by simp⟩
    | succ m ih =>
      intro hm
      obtain ⟨g1, g2⟩ := ih (by omega)
      rw [List.range_succ, List.foldl_append]
      refine ⟨by simp [g1], fun k hk => ?_⟩
      simp only [List.foldl_cons, List.foldl_nil]
      rw [List.getElem?_set, g1]
      by_cases e : m = k
      · subst e; simp [hk]
      · rw [if_neg e, g2 k hk]
        by_cases h : k < m
        · rw [if_pos h, if_pos (by omega)]
        · rw [if_neg h, if_neg (by omega)]
  obtain ⟨h1, h2⟩ := main z.length (Nat.le_refl _)
  apply List.ext_getElem?
  intro k
  by_cases hk : k < z.length
  · rw [h2 k hk, if_pos hk, List.getElem?_replicate, if_pos hk]
  · rw [List.getElem?_eq_none (by omega), List.getElem?_eq_none (by simp; omega)]
def out13 : List GMass := List.replicate 16385 mm13
theorem start_len : start13.length = 16385 := by unfold start13; rw [List.length_replicate]; rfl
theorem out_len : out13.length = 16385 := List.length_replicate ..
theorem lp13a : LpOk (EV L13 (F13 out13)) [] (lpBody Try.f13 0) (lcOf h13a (V13a start13 0) (B13a start13) fun K => K (.exit 0) (V13a out13 out13.length) (B13a out13)) :=
  lcOf_ok (by kernel_rfl) fun K => ⟨_, (fold_loop (N := start13.length) (g := fun s i => s.set i mm13) (F := fun n i s => iter (EV L13 (F13 out13)) h13a (lpBody Try.f13 0) n (V13a s i) (B13a s) K) (X := fun s => K (.exit 0) (V13a s s.length) (B13a s)) (s0 := start13) (fun _ s => s.length = 16385) start_len
    (fun n i s hi h => by
      rw [start_len] at hi
      rw [step13a, h, decide_eq_true (by omega), cond_true, atN_any (by omega) (by omega) (by omega), wrap_succ (by omega), Int.toNat_natCast])
    (fun i s _ h => by simp [h]) (fun n s h => by rw [step13a, decide_eq_false (by rw [h, start_len]; omega), cond_false, start_len, h])).trans (by rw [fold_put, start_len]; rfl)⟩
theorem lp13b (lx : List GMass) : LpOk (EV L13 (F13 lx)) [] (lpBody Try.f13 1) (lcOf h13b (V13b lx sz13 0) (B13b lx sz13) fun K => K (.exit 2) (V13b lx P9 9) (B13b lx P9)) :=
  lcOf_ok (by kernel_rfl) fun K => ⟨_, (by rw [iter_lp L13 _ [] (by kernel_rfl)]; exact (fold_loop (N := 9) (g := fun s i => s.set i pp13) (F := fun n i s => iter (EV L13 []) h13b (lpBody Try.f13 1) n (V13b lx s i) (B13b lx s) K) (X := fun s => K (.exit 2) (V13b lx s 9) (B13b lx s)) (s0 := sz13) (fun _ s => s.length = 9) rfl
    (fun n i s hi h => by
      rw [step13b, h, decide_eq_true (by omega), cond_true, atN_any (by omega) (by omega) (by omega), wrap_succ (by omega), Int.toNat_natCast])
    (fun i s _ h => by simp [h]) (fun n s h => by rw [step13b, decide_eq_false (by rw [h]; omega)]; rfl)).trans rfl)⟩
theorem jall13 (n : Nat) (h0 : n ≠ 0) (h : n < 2 ^ 50) : jall (List.replicate n mm13) = tk n := by
  unfold jall
  rw [List.map_replicate, show mm13.Mass = tk 1 by decide, fsum_tk 1 n (by decide) h0 (by omega), Nat.mul_one]
theorem jx13 (n : Nat) (h0 : n ≠ 0) (h : n < 2 ^ 50) : jx (List.replicate n mm13) = tk (n * 2) := by
  unfold jx
  rw [List.map_replicate, show fmul mm13.Mass mm13.Centre.X = tk 2 by decide, fsum_tk 2 n (by decide) h0 (by omega)]
theorem jy13 (n : Nat) : jy (List.replicate n mm13) = 0 := by
  unfold jy
  rw [List.map_replicate, show fmul mm13.Mass mm13.Centre.Y = 0 by decide, fsum_zero]
theorem any13 (n : Nat) : (List.replicate n mm13).any (fun m => !mok m) = false := by
  rw [List.any_eq_false]
  intro x hx
  rw [List.eq_of_mem_replicate hx]
  decide
theorem jc13 : jc (List.replicate 16384 mm13) = ⟨4611686018427387904, 0⟩ := by
  unfold jc
  rw [jx13 _ (by decide) (by decide), jall13 _ (by decide) (by decide), jy13]
  kernel_rfl
theorem jmass13 : jmass (List.replicate 16384 mm13) = ⟨tk 16384, tk 16384, ⟨4611686018427387904, 0⟩⟩ := by
  unfold jmass jturn
  rw [jc13, jall13 _ (by decide) (by decide), List.map_replicate, show mabout mm13 ⟨4611686018427387904, 0⟩ = tk 1 by decide, fsum_tk 1 16384 (by decide) (by decide) (by decide)]
theorem joinM13 : joinM (List.replicate 16384 mm13) = ⟨tk 16384, tk 16384, ⟨4611686018427387904, 0⟩⟩ := by
  unfold joinM
  rw [any13, jall13 _ (by decide) (by decide), jmass13, List.length_replicate]
  kernel_rfl
theorem joinE13 : joinE (List.replicate 16384 mm13) = 0 := by
  unfold joinE
  rw [any13, jall13 _ (by decide) (by decide), jmass13, List.length_replicate]
  decide
theorem joinE13x : joinE out13 = 4 := by
  unfold joinE
  rw [out_len]
  rfl
theorem tk13_out : tk13 out13 = List.replicate 16384 mm13 := by
  unfold tk13 out13
  rw [List.drop_zero, List.take_replicate]
  rfl
theorem fst13_ok : fst13 out13 = true := by
  unfold fst13
  rw [tk13_out, joinE13, joinE13x, joinM13]
  decide
theorem all13_ok : all13 out13 = true := by
  unfold all13
  rw [tk13_out, joinM13]
  kernel_rfl
def c13 : FC G := FC.sp [] fun _ => .bool true
theorem ok13 : FcOk Try.prog 13 c13 := sp_lp L13ok Try.func13 (by kernel_rfl) (by kernel_rfl) fun _ _ => ⟨F13 out13, lps2 (i := 6) (j := 14) (by kernel_rfl) rfl lp13a rfl (lp13b out13), fun K => (x13 out13 K).trans (by
  rw [gate_pos ⟨rfl, rfl⟩, decide_eq_true (by rw [out_len]; decide), cond_true, gate_pos ⟨rfl, rfl⟩, fst13_ok, cond_true, all13_ok])⟩
end Go.SX

/- PRINTED BY A PROGRAM OF THIS SEAT: what comes in, opened: values of the seat's types out of their readings. No statement of the seat is proved here. -/
namespace Go.SX
open Go.Proofs
set_option maxRecDepth 20000
abbrev stb (W : World) : Stb := fun k => W.heap[k]?
/-- Cells that stand for RVs. -/
def CR (W : World) (cs : List Value) (rs : List (RV G)) : Prop := cs.length = rs.length ∧ ∀ (j : Nat) (u : Value) (r : RV G), cs[j]? = some u → rs[j]? = some r → RVal (fun _ => none) (stb W) u r
theorem CR.nil (W : World) : CR W [] [] := ⟨rfl, fun j u r h => by simp at h⟩
theorem CR.one {W : World} {u : Value} {r : RV G} (h : RVal (fun _ => none) (stb W) u r) : CR W [u] [r] := ⟨rfl, fun j v q hv hq => by
  cases j with
  | zero => cases hv; cases hq; exact h
  | succ j => simp at hv⟩
theorem CR.app {W : World} {a b : List Value} {r s : List (RV G)} (h : CR W a r) (g : CR W b s) : CR W (a ++ b) (r ++ s) := by
  refine ⟨by rw [List.length_append, List.length_append, h.1, g.1], fun j u q hu hq => ?_⟩
  by_cases hj : j < a.length
  · rw [List.getElem?_append_left hj] at hu
    rw [List.getElem?_append_left (by rw [← h.1]; exact hj)] at hq
    exact h.2 j u q hu hq
  · rw [List.getElem?_append_right (by omega)] at hu
    rw [List.getElem?_append_right (by rw [← h.1]; omega), ← h.1] at hq
    exact g.2 _ u q hu hq
theorem CR.step {W : World} {cs : List Value} {off sz : Nat} {r s : List (RV G)} (h : CR W ((cs.drop off).take sz) r) (g : CR W (cs.drop (off + sz)) s) : CR W (cs.drop off) (r ++ s) := by
  have := h.app g
  rwa [take_drop_step] at this
theorem CR.done {W : World} {cs : List Value} {off : Nat} (h : cs.length = off) : CR W (cs.drop off) [] := by
  rw [List.drop_eq_nil_of_le (by omega)]
  exact .nil W
/-- What is read of a type stands for one of these. -/
def Op (W : World) (t : Nat) {α : Type} (en : α → List (RV G)) : Prop := ∀ (H : Type) (e : TypeId × Value → H) (fuel : Nat) (cs : List Value) (y : DataW H × List MemPlace), DataW.trod e Try.prog W 0 (fun _ => true) true fuel t cs = some y → ∃ x : α, CR W cs (en x)
theorem some_at {α : Type} {xs : List α} {n i : Nat} (h : xs.length = n) (hi : i < n) : ∃ y, xs[i]? = some y := ⟨_, List.getElem?_eq_getElem (by omega)⟩
theorem op_int {W : World} {t : Nat} {k : IntKind} (ht : Try.prog.underlying t = some (.int k)) : Op W t (fun x : Int => [.int k x]) := fun H e fuel cs y h => by
  obtain ⟨n, rfl, _, _⟩ := DataW.trod_int ht h
  exact ⟨n, .one (.int _ _)⟩
theorem op_bool {W : World} {t : Nat} (ht : Try.prog.underlying t = some .bool) : Op W t (fun x : Bool => [.bool x]) := fun H e fuel cs y h => by
  obtain ⟨n, rfl, _⟩ := DataW.trod_bool ht h
  exact ⟨n, .one (.bool _)⟩
theorem op_flt {W : World} {t : Nat} (ht : Try.prog.underlying t = some (.float .f64)) : Op W t (fun x : Nat => [.flt x]) := fun H e fuel cs y h => by
  cases fuel with
  | zero => simp [DataW.trod] at h
  | succ m =>
    unfold DataW.trod at h
    rw [ht] at h
    split at h <;> simp_all
    rename_i k b hk
    obtain ⟨⟨rfl, hw⟩, _⟩ := h
    subst hk
    exact ⟨b, .one (.flt (FEq.refl _) (by simpa [Lit.wf] using hw))⟩
theorem cells_at {W : World} {a : Addr} {n : Nat} {cs : List Value} (h : W.cells? 0 a n = some cs) : cs.length = n ∧ ∀ j, j < n → W.cell? (a.add j) = cs[j]? := by
  unfold World.cells? at h
  rw [if_pos (Nat.zero_le _)] at h
  refine ⟨by simpa using mapM_some_length h, fun j hj => ?_⟩
  exact mapM_some_get h j j (by simp [hj])
/-- A slice's elements. -/
theorem op_slice {W : World} {t e : Nat} {c : TC} {sz : Nat} (ht : Try.prog.underlying t = some (.slice e)) (hc : Try.prog.cellsOf e = sz) (hz : sz = sizeG c) (hp : 0 < sz) (he : Op W e (encG c)) : Op W t (fun xs : List (TD c) => [.rslice c xs]) := fun H en fuel cs y h => by
  rcases DataW.trod_slice ht h with ⟨rfl, _⟩ | ⟨a, len, cap, elems, rest, n, _, rfl, _, _, hl, hm, hlen, hel, _⟩
  · exact ⟨[], .one (.rslice0 fun _ => rfl)⟩
  · by_cases h0 : len = 0
    · subst h0
      exact ⟨[], .one (.rslice0 fun h => by cases h)⟩
    · rw [hc] at hel
      have each : ∀ i, i < len → ∃ x : TD c, ∃ es : List Value, CR W es (encG c x) ∧ es.length = sz ∧ ∀ j, j < sz → W.cell? (a.add (i * sz + j)) = es[j]? := fun i hi => by
        obtain ⟨y, hy⟩ := some_at hlen hi
        have := hel i hi
        rw [hy, Option.bind_eq_some_iff] at this
        obtain ⟨es, h1, h2⟩ := this
        obtain ⟨g1, g2⟩ := cells_at h1
        obtain ⟨x, hx⟩ := he H en n es y h2
        refine ⟨x, es, hx, g1, fun j hj => ?_⟩
        rw [← g2 j hj, Go.Addr.add_add]
      obtain ⟨xs, hxs, hall⟩ : ∃ xs : List (TD c), xs.length = len ∧ ∀ i x, xs[i]? = some x → ∃ es : List Value, CR W es (encG c x) ∧ es.length = sz ∧ ∀ j, j < sz → W.cell? (a.add (i * sz + j)) = es[j]? := by
        refine ⟨List.ofFn fun i : Fin len => Classical.choose (each i.1 i.2), by simp, fun i x hx => ?_⟩
        rw [List.getElem?_ofFn] at hx
        split at hx
        · rename_i hi
          cases hx
          exact Classical.choose_spec (each i hi)
        · cases hx
      obtain ⟨b, off, spot⟩ := a
      obtain ⟨x0, hx0⟩ : ∃ x, xs[0]? = some x := ⟨_, List.getElem?_eq_getElem (by omega)⟩
      obtain ⟨es0, _, q1, q2⟩ := hall 0 x0 hx0
      have hc0 := q2 0 hp
      rw [List.getElem?_eq_getElem (by omega)] at hc0
      have hspot : spot = none := by simpa [Addr.add] using World.cell?_spot hc0
      subst hspot
      have hadd : ∀ j, Addr.add ⟨b, off, none⟩ j = ⟨b, off + j, none⟩ := fun j => by unfold Addr.add; split <;> simp_all
      obtain ⟨arr, ty, fr, hk⟩ : ∃ arr ty fr, W.heap[b]? = some (.cells arr ty fr) := by
        unfold World.cell? at hc0
        rw [hadd] at hc0
        split at hc0
        · exact ⟨_, _, _, by assumption⟩
        · cases hc0
      have hcell : ∀ j, W.cell? ⟨b, j, none⟩ = arr[j]? := fun j => by simp [World.cell?, hk]
      have hm' : maxLen = 9223372036854775807 := by decide
      refine ⟨xs, .one (.rslice hxs.symm (off := off) hk ⟨hl, by omega⟩ (fun i j x r hx hr => ?_) (fun i j x r u hx hr hu => ?_))⟩
      · obtain ⟨es, p1, p2, p3⟩ := hall i x hx
        have hj : j < sz := by rw [hz]; have := (List.getElem?_eq_some_iff.1 hr).1; rw [show (Enc.enc c x : List (RV G)) = encG c x from rfl, encG_size] at this; exact this
        have := p3 j hj
        rw [hadd, hcell, List.getElem?_eq_getElem (by omega)] at this
        have := (Array.getElem?_eq_some_iff.1 this).1
        show off + i * sizeG c + j < arr.size
        rw [← hz]
        omega
      · obtain ⟨es, p1, p2, p3⟩ := hall i x hx
        have hj : j < sz := by rw [hz]; have := (List.getElem?_eq_some_iff.1 hr).1; rw [show (Enc.enc c x : List (RV G)) = encG c x from rfl, encG_size] at this; exact this
        have := p3 j hj
        rw [hadd, hcell] at this
        have hu' : arr[off + i * sizeG c + j]? = some u := hu
        rw [← hz, Nat.add_assoc] at hu'
        rw [hu'] at this
        exact p1.2 j u r this.symm hr
theorem cells26 : Try.prog.cellsOf 26 = 2 := by kernel_rfl
theorem cells24 : Try.prog.cellsOf 24 = 1 := by kernel_rfl
theorem op26 (W : World) : Op W 26 (encG .vec) := fun H e fuel cs y h => by
  obtain ⟨xs, n, rfl, _, hl, hx, hf⟩ := DataW.trod_struct Try.underlying26 h
  rw [cells26] at hl
  have hx : xs.length = 2 := hx
  obtain ⟨y0, hy0⟩ := some_at hx (show 0 < 2 by decide)
  have h0 := hf 0 _ rfl
  simp only [hy0] at h0
  obtain ⟨x0, c0⟩ := (op_flt Try.underlying24 : Op W 24 _) H e n _ _ h0
  obtain ⟨y1, hy1⟩ := some_at hx (show 1 < 2 by decide)
  have h1 := hf 1 _ rfl
  simp only [hy1] at h1
  obtain ⟨x1, c1⟩ := (op_flt Try.underlying24 : Op W 24 _) H e n _ _ h1
  exact ⟨⟨x0, x1⟩, CR.step c0 (CR.step c1 (.done hl))⟩
theorem cells39 : Try.prog.cellsOf 39 = 6 := by kernel_rfl
theorem cells37 : Try.prog.cellsOf 37 = 1 := by kernel_rfl
theorem op39 (W : World) : Op W 39 (encG .point) := fun H e fuel cs y h => by
  obtain ⟨xs, n, rfl, _, hl, hx, hf⟩ := DataW.trod_struct Try.underlying39 h
  rw [cells39] at hl
  have hx : xs.length = 5 := hx
  obtain ⟨y0, hy0⟩ := some_at hx (show 0 < 5 by decide)
  have h0 := hf 0 _ rfl
  simp only [hy0] at h0
  obtain ⟨x0, c0⟩ := (op26 W : Op W 26 _) H e n _ _ h0
  obtain ⟨y1, hy1⟩ := some_at hx (show 1 < 5 by decide)
  have h1 := hf 1 _ rfl
  simp only [hy1] at h1
  obtain ⟨x1, c1⟩ := (op_flt Try.underlying24 : Op W 24 _) H e n _ _ h1
  obtain ⟨y2, hy2⟩ := some_at hx (show 2 < 5 by decide)
  have h2 := hf 2 _ rfl
  simp only [hy2] at h2
  obtain ⟨x2, c2⟩ := (op_int Try.underlying37 : Op W 37 _) H e n _ _ h2
  obtain ⟨y3, hy3⟩ := some_at hx (show 3 < 5 by decide)
  have h3 := hf 3 _ rfl
  simp only [hy3] at h3
  obtain ⟨x3, c3⟩ := (op_flt Try.underlying24 : Op W 24 _) H e n _ _ h3
  obtain ⟨y4, hy4⟩ := some_at hx (show 4 < 5 by decide)
  have h4 := hf 4 _ rfl
  simp only [hy4] at h4
  obtain ⟨x4, c4⟩ := (op_flt Try.underlying24 : Op W 24 _) H e n _ _ h4
  exact ⟨⟨x0, x1, x2, x3, x4⟩, CR.step c0 (CR.step c1 (CR.step c2 (CR.step c3 (CR.step c4 (.done hl)))))⟩
theorem cells27 : Try.prog.cellsOf 27 = 1 := by kernel_rfl
theorem op27 (W : World) : Op W 27 (fun xs : List (TD .point) => [.rslice .point xs]) := op_slice Try.underlying27 cells39 rfl (by decide) (op39 W)
theorem cells23 : Try.prog.cellsOf 23 = 4 := by kernel_rfl
theorem cells3 : Try.prog.cellsOf 3 = 1 := by kernel_rfl
theorem op23 (W : World) : Op W 23 (encG .pair) := fun H e fuel cs y h => by
  obtain ⟨xs, n, rfl, _, hl, hx, hf⟩ := DataW.trod_struct Try.underlying23 h
  rw [cells23] at hl
  have hx : xs.length = 4 := hx
  obtain ⟨y0, hy0⟩ := some_at hx (show 0 < 4 by decide)
  have h0 := hf 0 _ rfl
  simp only [hy0] at h0
  obtain ⟨x0, c0⟩ := (op_int Try.underlying3 : Op W 3 _) H e n _ _ h0
  obtain ⟨y1, hy1⟩ := some_at hx (show 1 < 4 by decide)
  have h1 := hf 1 _ rfl
  simp only [hy1] at h1
  obtain ⟨x1, c1⟩ := (op_int Try.underlying3 : Op W 3 _) H e n _ _ h1
  obtain ⟨y2, hy2⟩ := some_at hx (show 2 < 4 by decide)
  have h2 := hf 2 _ rfl
  simp only [hy2] at h2
  obtain ⟨x2, c2⟩ := (op_int Try.underlying3 : Op W 3 _) H e n _ _ h2
  obtain ⟨y3, hy3⟩ := some_at hx (show 3 < 4 by decide)
  have h3 := hf 3 _ rfl
  simp only [hy3] at h3
  obtain ⟨x3, c3⟩ := (op_int Try.underlying3 : Op W 3 _) H e n _ _ h3
  exact ⟨⟨x0, x1, x2, x3⟩, CR.step c0 (CR.step c1 (CR.step c2 (CR.step c3 (.done hl))))⟩
theorem cells29 : Try.prog.cellsOf 29 = 8 := by kernel_rfl
theorem cells4 : Try.prog.cellsOf 4 = 1 := by kernel_rfl
theorem op29 (W : World) : Op W 29 (encG .touch) := fun H e fuel cs y h => by
  obtain ⟨xs, n, rfl, _, hl, hx, hf⟩ := DataW.trod_struct Try.underlying29 h
  rw [cells29] at hl
  have hx : xs.length = 4 := hx
  obtain ⟨y0, hy0⟩ := some_at hx (show 0 < 4 by decide)
  have h0 := hf 0 _ rfl
  simp only [hy0] at h0
  obtain ⟨x0, c0⟩ := (op23 W : Op W 23 _) H e n _ _ h0
  obtain ⟨y1, hy1⟩ := some_at hx (show 1 < 4 by decide)
  have h1 := hf 1 _ rfl
  simp only [hy1] at h1
  obtain ⟨x1, c1⟩ := (op_bool Try.underlying4 : Op W 4 _) H e n _ _ h1
  obtain ⟨y2, hy2⟩ := some_at hx (show 2 < 4 by decide)
  have h2 := hf 2 _ rfl
  simp only [hy2] at h2
  obtain ⟨x2, c2⟩ := (op26 W : Op W 26 _) H e n _ _ h2
  obtain ⟨y3, hy3⟩ := some_at hx (show 3 < 4 by decide)
  have h3 := hf 3 _ rfl
  simp only [hy3] at h3
  obtain ⟨x3, c3⟩ := (op27 W : Op W 27 _) H e n _ _ h3
  exact ⟨⟨x0, x1, x2, x3⟩, CR.step c0 (CR.step c1 (CR.step c2 (CR.step c3 (.done hl))))⟩
theorem cells69 : Try.prog.cellsOf 69 = 14 := by kernel_rfl
theorem op69 (W : World) : Op W 69 (encG .row) := fun H e fuel cs y h => by
  obtain ⟨xs, n, rfl, _, hl, hx, hf⟩ := DataW.trod_struct Try.underlying69 h
  rw [cells69] at hl
  have hx : xs.length = 12 := hx
  obtain ⟨y0, hy0⟩ := some_at hx (show 0 < 12 by decide)
  have h0 := hf 0 _ rfl
  simp only [hy0] at h0
  obtain ⟨x0, c0⟩ := (op_int Try.underlying3 : Op W 3 _) H e n _ _ h0
  obtain ⟨y1, hy1⟩ := some_at hx (show 1 < 12 by decide)
  have h1 := hf 1 _ rfl
  simp only [hy1] at h1
  obtain ⟨x1, c1⟩ := (op_int Try.underlying3 : Op W 3 _) H e n _ _ h1
  obtain ⟨y2, hy2⟩ := some_at hx (show 2 < 12 by decide)
  have h2 := hf 2 _ rfl
  simp only [hy2] at h2
  obtain ⟨x2, c2⟩ := (op26 W : Op W 26 _) H e n _ _ h2
  obtain ⟨y3, hy3⟩ := some_at hx (show 3 < 12 by decide)
  have h3 := hf 3 _ rfl
  simp only [hy3] at h3
  obtain ⟨x3, c3⟩ := (op26 W : Op W 26 _) H e n _ _ h3
  obtain ⟨y4, hy4⟩ := some_at hx (show 4 < 12 by decide)
  have h4 := hf 4 _ rfl
  simp only [hy4] at h4
  obtain ⟨x4, c4⟩ := (op_flt Try.underlying24 : Op W 24 _) H e n _ _ h4
  obtain ⟨y5, hy5⟩ := some_at hx (show 5 < 12 by decide)
  have h5 := hf 5 _ rfl
  simp only [hy5] at h5
  obtain ⟨x5, c5⟩ := (op_flt Try.underlying24 : Op W 24 _) H e n _ _ h5
  obtain ⟨y6, hy6⟩ := some_at hx (show 6 < 12 by decide)
  have h6 := hf 6 _ rfl
  simp only [hy6] at h6
  obtain ⟨x6, c6⟩ := (op_flt Try.underlying24 : Op W 24 _) H e n _ _ h6
  obtain ⟨y7, hy7⟩ := some_at hx (show 7 < 12 by decide)
  have h7 := hf 7 _ rfl
  simp only [hy7] at h7
  obtain ⟨x7, c7⟩ := (op_flt Try.underlying24 : Op W 24 _) H e n _ _ h7
  obtain ⟨y8, hy8⟩ := some_at hx (show 8 < 12 by decide)
  have h8 := hf 8 _ rfl
  simp only [hy8] at h8
  obtain ⟨x8, c8⟩ := (op_flt Try.underlying24 : Op W 24 _) H e n _ _ h8
  obtain ⟨y9, hy9⟩ := some_at hx (show 9 < 12 by decide)
  have h9 := hf 9 _ rfl
  simp only [hy9] at h9
  obtain ⟨x9, c9⟩ := (op_flt Try.underlying24 : Op W 24 _) H e n _ _ h9
  obtain ⟨y10, hy10⟩ := some_at hx (show 10 < 12 by decide)
  have h10 := hf 10 _ rfl
  simp only [hy10] at h10
  obtain ⟨x10, c10⟩ := (op_int Try.underlying3 : Op W 3 _) H e n _ _ h10
  obtain ⟨y11, hy11⟩ := some_at hx (show 11 < 12 by decide)
  have h11 := hf 11 _ rfl
  simp only [hy11] at h11
  obtain ⟨x11, c11⟩ := (op_flt Try.underlying24 : Op W 24 _) H e n _ _ h11
  exact ⟨⟨x0, x1, x2, x3, x4, x5, x6, x7, x8, x9, x10, x11⟩, CR.step c0 (CR.step c1 (CR.step c2 (CR.step c3 (CR.step c4 (CR.step c5 (CR.step c6 (CR.step c7 (CR.step c8 (CR.step c9 (CR.step c10 (CR.step c11 (.done hl))))))))))))⟩
theorem cells30 : Try.prog.cellsOf 30 = 1 := by kernel_rfl
theorem op30 (W : World) : Op W 30 (fun xs : List (TD .row) => [.rslice .row xs]) := op_slice Try.underlying30 cells69 rfl (by decide) (op69 W)
theorem cells63 : Try.prog.cellsOf 63 = 5 := by kernel_rfl
theorem op63 (W : World) : Op W 63 (encG .still) := fun H e fuel cs y h => by
  obtain ⟨xs, n, rfl, _, hl, hx, hf⟩ := DataW.trod_struct Try.underlying63 h
  rw [cells63] at hl
  have hx : xs.length = 4 := hx
  obtain ⟨y0, hy0⟩ := some_at hx (show 0 < 4 by decide)
  have h0 := hf 0 _ rfl
  simp only [hy0] at h0
  obtain ⟨x0, c0⟩ := (op_flt Try.underlying24 : Op W 24 _) H e n _ _ h0
  obtain ⟨y1, hy1⟩ := some_at hx (show 1 < 4 by decide)
  have h1 := hf 1 _ rfl
  simp only [hy1] at h1
  obtain ⟨x1, c1⟩ := (op_flt Try.underlying24 : Op W 24 _) H e n _ _ h1
  obtain ⟨y2, hy2⟩ := some_at hx (show 2 < 4 by decide)
  have h2 := hf 2 _ rfl
  simp only [hy2] at h2
  obtain ⟨x2, c2⟩ := (op26 W : Op W 26 _) H e n _ _ h2
  obtain ⟨y3, hy3⟩ := some_at hx (show 3 < 4 by decide)
  have h3 := hf 3 _ rfl
  simp only [hy3] at h3
  obtain ⟨x3, c3⟩ := (op_flt Try.underlying24 : Op W 24 _) H e n _ _ h3
  exact ⟨⟨x0, x1, x2, x3⟩, CR.step c0 (CR.step c1 (CR.step c2 (CR.step c3 (.done hl))))⟩
theorem cells42 : Try.prog.cellsOf 42 = 1 := by kernel_rfl
theorem op42 (W : World) : Op W 42 (fun xs : List (TD .still) => [.rslice .still xs]) := op_slice Try.underlying42 cells63 rfl (by decide) (op63 W)
theorem cells55 : Try.prog.cellsOf 55 = 1 := by kernel_rfl
theorem op55 (W : World) : Op W 55 (fun xs : List (TD .i64) => [.rslice .i64 xs]) := op_slice Try.underlying55 cells3 rfl (by decide) (op_int Try.underlying3)
theorem cells79 : Try.prog.cellsOf 79 = 4 := by kernel_rfl
theorem op79 (W : World) : Op W 79 (encG .mass) := fun H e fuel cs y h => by
  obtain ⟨xs, n, rfl, _, hl, hx, hf⟩ := DataW.trod_struct Try.underlying79 h
  rw [cells79] at hl
  have hx : xs.length = 3 := hx
  obtain ⟨y0, hy0⟩ := some_at hx (show 0 < 3 by decide)
  have h0 := hf 0 _ rfl
  simp only [hy0] at h0
  obtain ⟨x0, c0⟩ := (op_flt Try.underlying24 : Op W 24 _) H e n _ _ h0
  obtain ⟨y1, hy1⟩ := some_at hx (show 1 < 3 by decide)
  have h1 := hf 1 _ rfl
  simp only [hy1] at h1
  obtain ⟨x1, c1⟩ := (op_flt Try.underlying24 : Op W 24 _) H e n _ _ h1
  obtain ⟨y2, hy2⟩ := some_at hx (show 2 < 3 by decide)
  have h2 := hf 2 _ rfl
  simp only [hy2] at h2
  obtain ⟨x2, c2⟩ := (op26 W : Op W 26 _) H e n _ _ h2
  exact ⟨⟨x0, x1, x2⟩, CR.step c0 (CR.step c1 (CR.step c2 (.done hl)))⟩
theorem cells77 : Try.prog.cellsOf 77 = 1 := by kernel_rfl
theorem op77 (W : World) : Op W 77 (fun xs : List (TD .mass) => [.rslice .mass xs]) := op_slice Try.underlying77 cells79 rfl (by decide) (op79 W)
theorem cells89 : Try.prog.cellsOf 89 = 1 := by kernel_rfl
theorem op89 (W : World) : Op W 89 (fun xs : List (TD .vec) => [.rslice .vec xs]) := op_slice Try.underlying89 cells26 rfl (by decide) (op26 W)
theorem cells95 : Try.prog.cellsOf 95 = 3 := by kernel_rfl
theorem cells5 : Try.prog.cellsOf 5 = 1 := by kernel_rfl
theorem op95 (W : World) : Op W 95 (encG .shape) := fun H e fuel cs y h => by
  obtain ⟨xs, n, rfl, _, hl, hx, hf⟩ := DataW.trod_struct Try.underlying95 h
  rw [cells95] at hl
  have hx : xs.length = 3 := hx
  obtain ⟨y0, hy0⟩ := some_at hx (show 0 < 3 by decide)
  have h0 := hf 0 _ rfl
  simp only [hy0] at h0
  obtain ⟨x0, c0⟩ := (op_int Try.underlying5 : Op W 5 _) H e n _ _ h0
  obtain ⟨y1, hy1⟩ := some_at hx (show 1 < 3 by decide)
  have h1 := hf 1 _ rfl
  simp only [hy1] at h1
  obtain ⟨x1, c1⟩ := (op_flt Try.underlying24 : Op W 24 _) H e n _ _ h1
  obtain ⟨y2, hy2⟩ := some_at hx (show 2 < 3 by decide)
  have h2 := hf 2 _ rfl
  simp only [hy2] at h2
  obtain ⟨x2, c2⟩ := (op89 W : Op W 89 _) H e n _ _ h2
  exact ⟨⟨x0, x1, x2⟩, CR.step c0 (CR.step c1 (CR.step c2 (.done hl)))⟩
end Go.SX

/- From a law's contract to what its row asks of a call. No statement of the seat is proved here. -/
namespace Go.SX
open Go.Proofs Go.RowKit
set_option maxRecDepth 20000

theorem start_inv (W : World) : Inv W.heap.size (Mof ⟨fun _ => none, stb W⟩ []) ⟨fun _ => none, stb W⟩ (startM (S := G) [] []) W where
  base := Nat.le_refl _
  stable _ _ h := h
  free _ _ := rfl
  has b x h := by cases h
  blk b x l h := by cases h
  lt b l k h := by cases h
  sep b b' x x' l l' k h := by cases h
  mine b x l k h := by cases h

/-- What a law's contract says of a call. -/
theorem law_calls {f : Nat} {fn : Func} {ks : List AK} (hf : Try.prog.funcs[f]? = some fn) (ho : fnOK fn = true) (h : FcOk Try.prog f (FC.sp ks fun _ => .bool true)) {x : dens ks} (hx : decs' ks (encs ks x) = some x)
    {args : Array Value} {W : World} (ha : ArgsRel (fun _ => none) (stb W) args (encs ks x)) : Calls Try.prog f args W fun e W' => e = .returned (.bool true) ∧ Below W.heap.size W W' := by
  obtain ⟨r, bs', fr, h1, h2⟩ := h.run (encs ks x) [] (fun r bs fr => some (r, bs, fr)) (.bool true, [], []) (by simp only [FC.sp, FC.ofPure, hx])
  cases h1
  have hc := h2 ⟨fun _ => none, stb W⟩ W args [] (by simp [muIds, FC.sp, FC.ofPure, mutsOf_nil]) rfl ha (fun x hx => by simp at hx) (start_inv W)
  obtain ⟨o1, o2, o3⟩ := fnOK_spec ho
  have hcall : (callFunc f args).run Try.prog W = .ok (.enter f args) W := by
    have hn : ¬ (fn.name = "runtime.NumGoroutine") := by simpa using o1
    simp [callFunc, program, Sem.run, hf, hn, o2]
  unfold CallsTo at hc
  rw [hcall] at hc
  refine hc.mono fun e W' he => ?_
  cases e with
  | returned v =>
    obtain ⟨φr, St', hr, _, _, _, hfr⟩ := he
    cases hr
    exact ⟨rfl, ⟨hfr.os, hfr.tape, hfr.output, hfr.size, fun k hk => hfr.same k hk fun ⟨id, hid, _⟩ => by simp at hid⟩⟩
  | _ => exact he.elim

theorem args_nil (W : World) : ArgsRel (fun _ => none) (stb W) #[] ([] : List (RV G)) := ⟨rfl, fun j u r h => by simp at h⟩
theorem args_cons {W : World} {v : Value} {vs : List Value} {r : RV G} {rs : List (RV G)} (h : RVal (fun _ => none) (stb W) v r) (g : ArgsRel (fun _ => none) (stb W) vs.toArray rs) : ArgsRel (fun _ => none) (stb W) (v :: vs).toArray (r :: rs) := by
  refine ⟨?_, fun j u q hu hq => ?_⟩
  · have := g.1
    simp at this ⊢
    exact this
  · cases j with
    | zero => simp at hu hq; subst hu; subst hq; exact h
    | succ j => exact g.2 j u q (by simpa using hu) (by simpa using hq)

theorem agg_of {W : World} {arr : Array Value} {l : List (RV G)} (h : CR W arr.toList l) : RVal (fun _ => none) (stb W) (.agg arr) (.agg l) :=
  .agg (by simpa using h.1) fun j u r hu hr => h.2 j u r (by simpa using hu) hr
theorem one_of {W : World} {v : Value} {r : RV G} (h : CR W [v] [r]) : RVal (fun _ => none) (stb W) v r := h.2 0 v r rfl rfl
end Go.SX
