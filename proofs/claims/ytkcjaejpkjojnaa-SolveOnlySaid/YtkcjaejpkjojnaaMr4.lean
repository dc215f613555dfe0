/- Texts of this seat, laid together by a program: what they say stands at each. No statement of the seat is proved in this file. -/
import Derived.Test.YtkcjaejpkjojnaaMr3
import Derived.ProofKit
import Derived.OpenShut
import Derived.ShutString
import Derived.ChangeOld
import Derived.Below
import Derived.SizedLaws
set_option linter.unusedSectionVars false
set_option linter.unnecessarySimpa false
set_option linter.unusedVariables false
set_option linter.unusedSimpArgs false
set_option exponentiation.threshold 4096
/- What is left: Left and the reference's. No statement of the seat is proved here. -/
namespace Go.SX
open Go.Proofs Ieee
set_option maxRecDepth 20000
/-! ### the most of two, neither below nought -/
def Up (m : Nat) : Prop := m < 9223372036854775808 ∧ isNan m = false
theorem fmost1_up {m x : Nat} (h : Up m) (hx : x < 9223372036854775808) : Up (fmost1 m x) := by
  unfold fmost1
  rw [h.2, cond_false]
  cases hn : isNan x with
  | true => exact h
  | false => cases decide (place m ≥ place x) with
    | true => exact h
    | false => exact ⟨hx, hn⟩
theorem fmost1_zero {m : Nat} (h : Up m) : fmost1 m 0 = m := by
  unfold fmost1
  rw [h.2, (val_pos h.1).2, (val_pos (show (0 : Nat) < 9223372036854775808 by decide)).2, decide_eq_true (by omega)]
  cases isNan 0 <;> rfl
theorem fmost_up {m x : Nat} (h : Up m) (hx : x < 9223372036854775808) : fmost m x = fmost1 m x := by
  have h0 : isNan 0 = false := by decide
  have v0 : val 0 = 0 := by decide
  unfold fmost fmost1
  cases hn : isNan x with
  | true => rw [h.2, flt_nan (.inr hn), feq_nan (x := x) (.inl hn)]; simp
  | false =>
    rw [h.2, flt_val h.2 hn, feq_val h.2 h0, (val_pos h.1).1, (val_pos hx).1, (val_pos h.1).2, (val_pos hx).2, v0]
    have hi := mg_lt_iff (r := m) (s := x)
    by_cases hlt : m < x
    · rw [decide_eq_true (show (mg m : Int) < (mg x : Int) by have := hi.2 hlt; omega), decide_eq_false (show ¬ ((m : Int) ≥ (x : Int)) by omega)]
      rfl
    · rw [decide_eq_false (show ¬ ((mg m : Int) < (mg x : Int)) by have := mt hi.1 hlt; omega), decide_eq_true (show (m : Int) ≥ (x : Int) by omega)]
      by_cases hz : m = 0
      · subst hz
        rw [show fminus 0 = false by decide]
        simp
      · rw [decide_eq_false (show ¬ ((mg m : Int) = 0) by have := mt mg_zero.1 hz; omega)]
        rfl
theorem roff_lt (x : GRow) (a b : GStill) : roff x a b < 9223372036854775808 := by
  unfold roff
  cases rstays x a b with
  | true => show (0 : Nat) < _; decide
  | false => show fabs _ < _; unfold fabs; omega
def left1 (l : List GRow) (b : List GStill) (m i : Nat) : Nat := fmost1 m (roff (getR l i) (getS b (getR l i).A) (getS b (getR l i).B))
def leftAll (l : List GRow) (b : List GStill) : Nat := (List.range l.length).foldl (left1 l b) 0
theorem left1_up {l : List GRow} {b : List GStill} {m : Nat} (h : Up m) (i : Nat) : Up (left1 l b m i) := fmost1_up h (roff_lt _ _ _)
theorem left_step {m : Nat} (h : Up m) (x : GRow) (a b : GStill) : (bif rstays x a b then m else fmost m (fabs (fsub x.Bias (rspeed1 x a b)))) = fmost1 m (roff x a b) := by
  unfold roff
  cases rstays x a b with
  | true => exact (fmost1_zero h).symm
  | false => exact fmost_up h (by unfold fabs; omega)
theorem getI_S {s : List GStill} {i : Int} (h0 : 0 ≤ i) (h1 : i < (s.length : Int)) : getI s i = some (getS s i) := by
  unfold getI
  rw [decide_eq_true h0, cond_true, getS_at h0 h1]
theorem getI_R {l : List GRow} {k : Nat} (h : k < l.length) : getI l (k : Int) = some (getR l k) := by
  unfold getI
  rw [decide_eq_true (by omega), cond_true, Int.toNat_natCast, getR_at h]
def rleft (l : List GRow) (b : List GStill) : RV G := bif sasked l b != 0 then .tuple [.flt 0, .int .i64 (sasked l b)] else .tuple [.flt (leftAll l b), .int .i64 0]
theorem rleft_K (l : List GRow) (b : List GStill) (K : RV G → List (Blk G) → List (Blk G) → Ans G) : K (rleft l b) [] [] = bif sasked l b != 0 then K (.tuple [.flt 0, .int .i64 (sasked l b)]) [] [] else K (.tuple [.flt (leftAll l b), .int .i64 0]) [] [] := by
  unfold rleft
  cases sasked l b != 0 <;> rfl

/-! ### Left -/
def hd28 : LH G := ⟨[1, 7, 23, 24, 25], [], []⟩
def W28 (l : List GRow) (b : List GStill) (m : Nat) (i : Int) : List (RV G) := [.rslice .still b, .flt m, .rslice .row l, .int .i64 l.length, .int .i64 i]
noncomputable def E28 (l : List GRow) (b : List GStill) : List (Nat × LC G) := [(6, lcOf hd28 (W28 l b 0 0) [] fun K => K (.exit 0) (W28 l b (leftAll l b) l.length) [])]
theorem step28 (l : List GRow) (b : List GStill) (m n : Nat) (i : Int) (K) : iter (EV L97 (E28 l b)) hd28 (lpBody Try.f28 0) (n + 1) (W28 l b m i) [] K = bif decide (i < (l.length : Int)) then
    (getI l i).bind fun x => (getI b x.A).bind fun a => (getI b x.B).bind fun c =>
      bif !flt 0 (rweight1 x a c) then iter (EV L97 (E28 l b)) hd28 (lpBody Try.f28 0) n (W28 l b m (IntKind.i64.wrap (i + 1))) [] K
      else bif flt (fsub x.Bias (rspeed1 x a c)) 0 && fle x.Push x.Low then iter (EV L97 (E28 l b)) hd28 (lpBody Try.f28 0) n (W28 l b m (IntKind.i64.wrap (i + 1))) [] K
      else bif flt 0 (fsub x.Bias (rspeed1 x a c)) && fle x.High x.Push then iter (EV L97 (E28 l b)) hd28 (lpBody Try.f28 0) n (W28 l b m (IntKind.i64.wrap (i + 1))) [] K
      else iter (EV L97 (E28 l b)) hd28 (lpBody Try.f28 0) n (W28 l b (fmost m (fabs (fsub x.Bias (rspeed1 x a c)))) (IntKind.i64.wrap (i + 1))) [] K
  else K (.exit 0) (W28 l b m i) [] := by kernel_rfl
theorem lp28 (l : List GRow) (b : List GStill) (hx : l.length < 9223372036854775808) (hf : Fit l b.length) : LpOk (EV L97 (E28 l b)) [] (lpBody Try.f28 0) (lcOf hd28 (W28 l b 0 0) [] fun K => K (.exit 0) (W28 l b (leftAll l b) l.length) []) :=
  lcOf_ok (by kernel_rfl) fun K => ⟨_, fold_loop (N := l.length) (g := left1 l b) (F := fun k i (m : Nat) => iter (EV L97 (E28 l b)) hd28 (lpBody Try.f28 0) k (W28 l b m i) [] K) (X := fun (m : Nat) => K (.exit 0) (W28 l b m l.length) []) (s0 := 0) (fun _ m => Up m) ⟨by decide, by decide⟩
    (fun k i m hi hm => by
      obtain ⟨_, a0, a1, b0, b1, _⟩ := hf i hi
      rw [step28, decide_eq_true (by omega), cond_true, getI_R hi, Option.bind_some, getI_S a0 a1, Option.bind_some, getI_S b0 b1, Option.bind_some, wrap_succ (by omega)]
      unfold left1
      rw [← left_step hm]
      unfold rstays
      generalize getR l i = x
      generalize getS b x.A = a
      generalize getS b x.B = c
      cases flt 0 (rweight1 x a c) <;> cases flt (fsub x.Bias (rspeed1 x a c)) 0 && fle x.Push x.Low <;> cases flt 0 (fsub x.Bias (rspeed1 x a c)) && fle x.High x.Push <;> rfl)
    (fun i m hi hm => left1_up hm i) (fun k m hm => by rw [step28, decide_eq_false (by omega)]; rfl)⟩
def c28 : FC G := FC.sp [.l .row, .l .still] fun (l, b, _) => rleft l b
theorem x28 (l : List GRow) (b : List GStill) (K) : xfn (EV L97 (E28 l b)) Try.f28 [] (encs [.l .row, .l .still] (l, b, ())) [] K = K (rleft l b) [] [] :=
  (show _ = (bif sasked l b != 0 then K (.tuple [.flt 0, .int .i64 (sasked l b)]) [] [] else gate (W28 l b 0 0 = W28 l b 0 0 ∧ ([] : List (Blk G)) = []) (K (.tuple [.flt (leftAll l b), .int .i64 0]) [] [])) from by kernel_rfl).trans (by rw [gate_pos ⟨rfl, rfl⟩, rleft_K l b K])
theorem x28n (l : List GRow) (b : List GStill) (h : (sasked l b != 0) = true) (K) : xfn (EV L97 []) Try.f28 [] (encs [.l .row, .l .still] (l, b, ())) [] K = K (rleft l b) [] [] :=
  (show _ = (bif sasked l b != 0 then K (.tuple [.flt 0, .int .i64 (sasked l b)]) [] [] else none) from by kernel_rfl).trans (by rw [rleft_K l b K, h]; rfl)
theorem ok28 : FcOk Try.prog 28 c28 := sp_lp L97ok Try.func28 (by kernel_rfl) (by kernel_rfl) fun (l, b, _) ⟨hx, _, _⟩ => by
  cases h : (sasked (l : List GRow) (b : List GStill) != 0) with
  | true => exact ⟨[], LpsOk.of _ fun _ _ _ _ h => (by cases h), fun K => x28n l b h K⟩
  | false => exact ⟨E28 l b, lps1 (i := 6) (by kernel_rfl) rfl (lp28 l b hx (sasked_ok h).fit), fun K => x28 l b K⟩
noncomputable def L28 : Ctr := (28, c28) :: L97
theorem L28ok : AllOk L28 := .cons ok28 L97ok

/-! ### the reference's -/
def hd29 : LH G := ⟨[0, 1, 7, 8], [], []⟩
def W29 (l : List GRow) (b : List GStill) (m : Nat) (i : Int) : List (RV G) := [.rslice .row l, .rslice .still b, .flt m, .int .i64 i]
noncomputable def E29 (l : List GRow) (b : List GStill) : List (Nat × LC G) := [(6, lcOf hd29 (W29 l b 0 0) [] fun K => K (.exit 0) (W29 l b (leftAll l b) l.length) [])]
theorem step29 (l : List GRow) (b : List GStill) (m n : Nat) (i : Int) (K) : iter (EV L28 (E29 l b)) hd29 (lpBody Try.f29 0) (n + 1) (W29 l b m i) [] K = bif decide (i < (l.length : Int)) then
    (getI l i).bind fun x => (getI l i).bind fun x1 => (getI b x1.A).bind fun a => (getI l i).bind fun x2 => (getI b x2.B).bind fun c =>
      iter (EV L28 (E29 l b)) hd29 (lpBody Try.f29 0) n (W29 l b (fmost1 m (roff x a c)) (IntKind.i64.wrap (i + 1))) [] K
  else K (.exit 0) (W29 l b m i) [] := by kernel_rfl
theorem lp29 (l : List GRow) (b : List GStill) (hx : l.length < 9223372036854775808) (hf : Fit l b.length) : LpOk (EV L28 (E29 l b)) [] (lpBody Try.f29 0) (lcOf hd29 (W29 l b 0 0) [] fun K => K (.exit 0) (W29 l b (leftAll l b) l.length) []) :=
  lcOf_ok (by kernel_rfl) fun K => ⟨_, fold_loop (N := l.length) (g := left1 l b) (F := fun k i (m : Nat) => iter (EV L28 (E29 l b)) hd29 (lpBody Try.f29 0) k (W29 l b m i) [] K) (X := fun (m : Nat) => K (.exit 0) (W29 l b m l.length) []) (s0 := 0) (fun _ _ => True) trivial
    (fun k i m hi _ => by
      obtain ⟨_, a0, a1, b0, b1, _⟩ := hf i hi
      rw [step29, decide_eq_true (by omega), cond_true]
      simp only [getI_R hi, Option.bind_some, getI_S a0 a1, getI_S b0 b1]
      rw [wrap_succ (by omega)]
      rfl)
    (fun _ _ _ _ => trivial) (fun k m _ => by rw [step29, decide_eq_false (by omega)]; rfl)⟩
def c29 : FC G := FC.sp [.l .row, .l .still] fun (l, b, _) => rleft l b
theorem x29 (l : List GRow) (b : List GStill) (K) : xfn (EV L28 (E29 l b)) Try.f29 [] (encs [.l .row, .l .still] (l, b, ())) [] K = K (rleft l b) [] [] :=
  (show _ = (bif sasked l b != 0 then K (.tuple [.flt 0, .int .i64 (sasked l b)]) [] [] else gate (W29 l b 0 0 = W29 l b 0 0 ∧ ([] : List (Blk G)) = []) (K (.tuple [.flt (leftAll l b), .int .i64 0]) [] [])) from by kernel_rfl).trans (by rw [gate_pos ⟨rfl, rfl⟩, rleft_K l b K])
theorem x29n (l : List GRow) (b : List GStill) (h : (sasked l b != 0) = true) (K) : xfn (EV L28 []) Try.f29 [] (encs [.l .row, .l .still] (l, b, ())) [] K = K (rleft l b) [] [] :=
  (show _ = (bif sasked l b != 0 then K (.tuple [.flt 0, .int .i64 (sasked l b)]) [] [] else none) from by kernel_rfl).trans (by rw [rleft_K l b K, h]; rfl)
theorem ok29 : FcOk Try.prog 29 c29 := sp_lp L28ok Try.func29 (by kernel_rfl) (by kernel_rfl) fun (l, b, _) ⟨hx, _, _⟩ => by
  cases h : (sasked (l : List GRow) (b : List GStill) != 0) with
  | true => exact ⟨[], LpsOk.of _ fun _ _ _ _ h => (by cases h), fun K => x29n l b h K⟩
  | false => exact ⟨E29 l b, lps1 (i := 6) (by kernel_rfl) rfl (lp29 l b hx (sasked_ok h).fit), fun K => x29 l b K⟩
noncomputable def L29 : Ctr := (29, c29) :: L28
theorem L29ok : AllOk L29 := .cons ok29 L28ok
end Go.SX

/- Answers written over (tumblelaw21.spoil). No statement of the seat is proved here. -/
namespace Go.SX
open Go.Proofs
set_option maxRecDepth 20000
section
variable {L : Ctr} (hL : AllOk L) {f : Nat} {fn : Func} (hf : Try.prog.funcs[f]? = some fn) (ho : fnOK fn = true)
include hL hf ho
/-- Rows are given up, loops told for the arguments at hand. -/
theorem dead_lp {mu : List Nat} (hres : fn.results = #[]) {ok : List (RV G) → List (Blk G) → Prop}
    (h : ∀ vs bs, ok vs bs → vs.length ≤ fn.ntmps ∧ ∃ lp, LpsOk (EV L lp) [] (bodyD fn) ∧ ∃ out, xcode (EV L lp) (bodyD fn) ⟨startT vs, startM (muIds mu vs) bs⟩ (fun e _ => match e with | .exit _ => none | _ => some (.tuple [], [], [])) = some out)
    {run : List (RV G) → List (Blk G) → (RV G → List (Blk G) → List (Blk G) → Ans G) → Ans G}
    (hk : ∀ vs bs K o, run vs bs K = some o → ok vs bs ∧ bs.length = (muIds mu vs).length ∧ K (.tuple []) (bs.map fun _ => .dead) [] = some o) : FcOk Try.prog f (FC.ofRun mu run) where
  pure _ _ h := by cases h
  run vs bs K o hr := by
    obtain ⟨h0, hbl, hK⟩ := hk vs bs K o hr
    obtain ⟨h1, lp, hlp, out, h2⟩ := h vs bs h0
    obtain ⟨o1, o2, o3⟩ := fnOK_spec ho
    obtain ⟨e, s1, g1, g2⟩ := xcode_fine (N := fn.ntmps) (mu := []) (EV_ok hL lp) mixed (bodyD fn) _ _ _ o3 hlp h2
    have hne : e = .normal ∨ e = .ret := by
      cases e with
      | normal => exact .inl rfl
      | exit i => cases g1
      | ret => exact .inr rfl
    refine ⟨_, _, _, hK, fun cx w us ids hids hl ha hal hi => ?_⟩
    have hids' : ids = muIds mu vs := hids
    subst hids'
    have hcall : (callFunc f us).run Try.prog w = .ok (.enter f us) w := by
      have hn : ¬ (fn.name = "runtime.NumGoroutine") := by simpa using o1
      simp [callFunc, program, Sem.run, hf, hn, o2]
    unfold CallsTo
    rw [hcall]
    refine calls_of_wp hf o2 (wp_mono (g2 _ _ cx _ w (start_rel h1 ha hi)) fun x a' w' ⟨hx, cx', x1, f1, r1⟩ => ?_)
    obtain ⟨v, hv, hrel⟩ := run_results (EV_ok hL lp).toEnvTy r1 (fn := fn) (rs := []) (by rw [hres]; rfl)
    have hpost : CallPost cx (muIds mu vs) w (.tuple [] : RV G) (bs.map fun _ => .dead) [] v w' := by
      refine ⟨fun _ => none, cx.St, ?_, ⟨Le.refl _, fun k ob hk => r1.rel.inv.stable k ob (x1.St k ob hk), fun k ob hk => .inl ⟨ob, hk⟩⟩, ⟨fun _ _ => rfl, fun j x h => by simp at h, fun j j' l l' k h => by cases h⟩, ⟨by simp [hbl], fun i id x _ hx l _ => ?_⟩,
        ⟨f1.size, fun k hk hn => f1.same k hk fun h => h.elim hn fun h => by omega, f1.os, f1.tape, f1.output⟩⟩
      · have : RVal cx'.φ cx'.St v (.tuple [] : RV G) := hrel
        cases this with
        | tuple hn g => exact .tuple hn fun j u r _ hr => by simp at hr
      · rw [List.getElem?_map] at hx
        obtain ⟨_, _, rfl⟩ := Option.map_eq_some_iff.1 hx
        trivial
    subst hx
    rcases hne with rfl | rfl
    · exact ⟨r1.rel.defers, v, hv, hpost⟩
    · exact ⟨r1.rel.defers, v, hv, hpost⟩
end
def end33 : XE → AS G → Ans G := fun e _ => match e with | .exit _ => none | _ => some (.tuple [], [], [])
def row98 : GRow := { row0 with Of := 98 }
def row97 : GRow := { row0 with Of := 97 }
def st98 : GStill := { still0 with Spin := 4636596553866280960 }
def st97 : GStill := { still0 with Spin := 4636526185122103296 }
def hd33a : LH G := ⟨[0, 1, 4], [], [0, 1]⟩
def hd33b : LH G := ⟨[0, 1, 5], [], [0, 1]⟩
def hd33c : LH G := ⟨[6], [(0, .row, 900), (1, .still, 901)], []⟩
def W33 (r : List GRow) (s : List GStill) (i : Int) : List (RV G) := [.own 0 .row r.length, .own 1 .still s.length, .int .i64 i]
def V33 (r : List GRow) (s : List GStill) (i : Int) : List (RV G) := [.int .i64 i, .own 900 .row r.length, .own 901 .still s.length]
def over (r : List GRow) : List GRow := (List.range r.length).foldl (fun r i => r.set i row98) r
def overS (s : List GStill) : List GStill := (List.range s.length).foldl (fun r i => r.set i st98) s
def more (q : List GRow × List GStill) : List GRow × List GStill := (q.1 ++ [row97], q.2 ++ [st97])
def more4 (q : List GRow × List GStill) : List GRow × List GStill := (List.range 4).foldl (fun q _ => more q) q
noncomputable def lc33c (r : List GRow) (s : List GStill) : LC G := lcOf hd33c (V33 r s 0) (Bq (r, s)) fun K => K (.exit 4) (V33 (more4 (r, s)).1 (more4 (r, s)).2 4) (Bq (more4 (r, s)))
noncomputable def E33 (r : List GRow) (s : List GStill) : List (Nat × LC G) :=
  [(1, lcOf hd33a (W33 r s 0) (Bq (r, s)) fun K => K (.exit 0) (W33 (over r) s r.length) (Bq (over r, s))), (5, lcOf hd33b (W33 (over r) s 0) (Bq (over r, s)) fun K => K (.exit 2) (W33 (over r) (overS s) s.length) (Bq (over r, overS s))), (9, lc33c (over r) (overS s))]
theorem step33a (r0 : List GRow) (s : List GStill) (r : List GRow) (n : Nat) (i : Int) (K) : iter (EV L29 (E33 r0 s)) hd33a (lpBody Try.f33 0) (n + 1) (W33 r s i) (Bq (r, s)) K = bif decide (i < (r.length : Int)) then
    atN r.length r i fun _ => iter (EV L29 (E33 r0 s)) hd33a (lpBody Try.f33 0) n (W33 (r.set i.toNat row98) s (IntKind.i64.wrap (i + 1))) (Bq (r.set i.toNat row98, s)) K
  else K (.exit 0) (W33 r s i) (Bq (r, s)) := by kernel_rfl
theorem step33b (r0 : List GRow) (s0 : List GStill) (r : List GRow) (s : List GStill) (n : Nat) (i : Int) (K) : iter (EV L29 (E33 r0 s0)) hd33b (lpBody Try.f33 1) (n + 1) (W33 r s i) (Bq (r, s)) K = bif decide (i < (s.length : Int)) then
    atN s.length s i fun _ => iter (EV L29 (E33 r0 s0)) hd33b (lpBody Try.f33 1) n (W33 r (s.set i.toNat st98) (IntKind.i64.wrap (i + 1))) (Bq (r, s.set i.toNat st98)) K
  else K (.exit 2) (W33 r s i) (Bq (r, s)) := by kernel_rfl
theorem step33c (lp : List (Nat × LC G)) (r : List GRow) (s : List GStill) (n : Nat) (i : Int) (K) : iter (EV L29 lp) hd33c (lpBody Try.f33 2) (n + 1) (V33 r s i) (Bq (r, s)) K = bif decide (i < 4) then
    bif decide ((r ++ [row97]).length * 112 ≤ 2 ^ 47) then bif decide ((s ++ [st97]).length * 40 ≤ 2 ^ 47) then iter (EV L29 lp) hd33c (lpBody Try.f33 2) n (V33 (r ++ [row97]) (s ++ [st97]) (IntKind.i64.wrap (i + 1))) (Bq (r ++ [row97], s ++ [st97])) K else none else none
  else K (.exit 4) (V33 r s i) (Bq (r, s)) := by kernel_rfl
def done33 : Ans G := some (.tuple [], [], [])
def tail33 (q : List GRow × List GStill) : Ans G := bif decide (IntKind.i64.wrap ((q.1.length : Int) + (q.2.length : Int)) > 0) && decide ((q.1.length : Int) > 0) then atN q.1.length q.1 0 fun _ => done33 else done33
theorem x33 (r : List GRow) (s : List GStill) : xcode (EV L29 (E33 r s)) (bodyD Try.f33) ⟨startT [.own 0 .row r.length, .own 1 .still s.length], startM (muIds [0, 1] [(.own 0 .row r.length : RV G), .own 1 .still s.length]) (Bq (r, s))⟩ end33 =
    gate (W33 r s 0 = W33 r s 0 ∧ Bq (r, s) = Bq (r, s)) (gate (W33 (over r) s 0 = W33 (over r) s 0 ∧ Bq (over r, s) = Bq (over r, s)) (gate (V33 (over r) (overS s) 0 = V33 (over r) (overS s) 0 ∧ Bq (over r, overS s) = Bq (over r, overS s)) (tail33 (more4 (over r, overS s))))) := by kernel_rfl
def hd33x : LH G := ⟨[0, 1, 4], [], []⟩
def hd33y : LH G := ⟨[0, 1, 5], [], []⟩
def N33 : List (RV G) := [.nilslice, .nilslice, .int .i64 0]
noncomputable def E33n : List (Nat × LC G) := [(1, lcOf hd33x N33 [] fun K => K (.exit 0) N33 []), (5, lcOf hd33y N33 [] fun K => K (.exit 2) N33 []), (9, lc33c [] [])]
theorem step33x (n : Nat) (K) : iter (EV L29 E33n) hd33x (lpBody Try.f33 0) (n + 1) N33 [] K = K (.exit 0) N33 [] := by kernel_rfl
theorem step33y (n : Nat) (K) : iter (EV L29 E33n) hd33y (lpBody Try.f33 1) (n + 1) N33 [] K = K (.exit 2) N33 [] := by kernel_rfl
theorem x33n : xcode (EV L29 E33n) (bodyD Try.f33) ⟨startT [.nilslice, .nilslice], startM (muIds [0, 1] [(.nilslice : RV G), .nilslice]) []⟩ end33 =
    gate (N33 = N33 ∧ ([] : List (Blk G)) = []) (gate (N33 = N33 ∧ ([] : List (Blk G)) = []) (gate (V33 [] [] 0 = V33 [] [] 0 ∧ Bq ([], []) = Bq ([], [])) (tail33 (more4 ([], []))))) := by kernel_rfl
theorem over_len (r : List GRow) : (over r).length = r.length := fold_inv (P := fun t : List GRow => t.length = r.length) (fun i t _ h => by simp [h]) rfl
theorem overS_len (s : List GStill) : (overS s).length = s.length := fold_inv (P := fun t : List GStill => t.length = s.length) (fun i t _ h => by simp [h]) rfl
theorem more4_len (q : List GRow × List GStill) : (more4 q).1.length = q.1.length + 4 ∧ (more4 q).2.length = q.2.length + 4 := by simp [more4, more, List.range, List.range.loop]
theorem tail33_done {q : List GRow × List GStill} (h : 0 < q.1.length) : tail33 q = done33 := by
  unfold tail33
  cases decide (IntKind.i64.wrap ((q.1.length : Int) + (q.2.length : Int)) > 0) && decide ((q.1.length : Int) > 0) with
  | false => rfl
  | true => exact atN_any (by omega) (by omega) (Nat.le_refl _)
theorem lp33c (lp : List (Nat × LC G)) (r : List GRow) (s : List GStill) (hr : r.length ≤ 1048576) (hs : s.length ≤ 1048576) : LpOk (EV L29 lp) [] (lpBody Try.f33 2) (lc33c r s) :=
  lcOf_ok (by kernel_rfl) fun K => ⟨_, fold_loop (N := 4) (g := fun q _ => more q) (F := fun k i (q : List GRow × List GStill) => iter (EV L29 lp) hd33c (lpBody Try.f33 2) k (V33 q.1 q.2 i) (Bq q) K) (X := fun (q : List GRow × List GStill) => K (.exit 4) (V33 q.1 q.2 4) (Bq q)) (s0 := (r, s)) (fun i q => q.1.length ≤ r.length + i ∧ q.2.length ≤ s.length + i) ⟨Nat.le_refl _, Nat.le_refl _⟩
    (fun k i q hi hq => by
      rw [step33c, decide_eq_true (show (i : Int) < 4 by omega), cond_true, decide_eq_true (by rw [List.length_append]; simp; omega), cond_true, decide_eq_true (by rw [List.length_append]; simp; omega), cond_true, wrap_succ (by omega)]
      rfl)
    (fun i q _ hq => by simp [more]; omega) (fun k q hq => by rw [step33c, decide_eq_false (by omega)]; rfl)⟩
theorem lp33a (r : List GRow) (s : List GStill) (hr : r.length ≤ 1048576) : LpOk (EV L29 (E33 r s)) [] (lpBody Try.f33 0) (lcOf hd33a (W33 r s 0) (Bq (r, s)) fun K => K (.exit 0) (W33 (over r) s r.length) (Bq (over r, s))) :=
  lcOf_ok (by kernel_rfl) fun K => ⟨_, fold_loop (N := r.length) (g := fun r i => r.set i row98) (F := fun k i (t : List GRow) => iter (EV L29 (E33 r s)) hd33a (lpBody Try.f33 0) k (W33 t s i) (Bq (t, s)) K) (X := fun (t : List GRow) => K (.exit 0) (W33 t s r.length) (Bq (t, s))) (s0 := r) (fun _ t => t.length = r.length) rfl
    (fun k i t hi ht => by rw [step33a, decide_eq_true (by omega), cond_true, atN_any (by omega) (by omega) (Nat.le_refl _), wrap_succ (by omega), Int.toNat_natCast])
    (fun i t _ ht => by simp [ht]) (fun k t ht => by rw [step33a, decide_eq_false (by omega)]; rfl)⟩
theorem lp33b (r : List GRow) (s : List GStill) (hs : s.length ≤ 1048576) : LpOk (EV L29 (E33 r s)) [] (lpBody Try.f33 1) (lcOf hd33b (W33 (over r) s 0) (Bq (over r, s)) fun K => K (.exit 2) (W33 (over r) (overS s) s.length) (Bq (over r, overS s))) :=
  lcOf_ok (by kernel_rfl) fun K => ⟨_, fold_loop (N := s.length) (g := fun s i => s.set i st98) (F := fun k i (t : List GStill) => iter (EV L29 (E33 r s)) hd33b (lpBody Try.f33 1) k (W33 (over r) t i) (Bq (over r, t)) K) (X := fun (t : List GStill) => K (.exit 2) (W33 (over r) t s.length) (Bq (over r, t))) (s0 := s) (fun _ t => t.length = s.length) rfl
    (fun k i t hi ht => by rw [step33b, decide_eq_true (by omega), cond_true, atN_any (by omega) (by omega) (Nat.le_refl _), wrap_succ (by omega), Int.toNat_natCast])
    (fun i t _ ht => by simp [ht]) (fun k t ht => by rw [step33b, decide_eq_false (by omega)]; rfl)⟩

/-- What spoil is handed. -/
inductive Ok33 : List (RV G) → List (Blk G) → Prop where
  | own (r : List GRow) (s : List GStill) (hr : r.length ≤ 1048576) (hs : s.length ≤ 1048576) : Ok33 [.own 0 .row r.length, .own 1 .still s.length] [.rows .row r, .rows .still s]
  | nil : Ok33 [.nilslice, .nilslice] []
noncomputable def c33 : FC G := FC.ofRun [0, 1] fun vs bs K => gate (Ok33 vs bs) (K (.tuple []) (bs.map fun _ => .dead) [])
theorem ok33 : FcOk Try.prog 33 c33 := dead_lp L29ok Try.func33 (by kernel_rfl) (by kernel_rfl) (ok := Ok33) (fun vs bs h => by
    cases h with
    | own r s hr hs => exact ⟨Nat.le_of_ble_eq_true (by kernel_rfl), E33 r s, lps3 (i := 1) (j := 5) (k := 9) (by kernel_rfl) rfl (lp33a r s hr) rfl (lp33b r s hs) rfl (lp33c _ _ _ (by rw [over_len]; exact hr) (by rw [overS_len]; exact hs)), (.tuple [], [], []), (x33 r s).trans (by
        rw [gate_pos ⟨rfl, rfl⟩, gate_pos ⟨rfl, rfl⟩, gate_pos ⟨rfl, rfl⟩, tail33_done (by rw [(more4_len _).1]; omega)]
        rfl)⟩
    | nil => exact ⟨Nat.le_of_ble_eq_true (by kernel_rfl), E33n, lps3 (i := 1) (j := 5) (k := 9) (by kernel_rfl) rfl (lcOf_ok (by kernel_rfl) fun K => ⟨_, step33x 0 K⟩) rfl (lcOf_ok (by kernel_rfl) fun K => ⟨_, step33y 0 K⟩) rfl (lp33c _ _ _ (by decide) (by decide)), (.tuple [], [], []), x33n.trans (by
        rw [gate_pos ⟨rfl, rfl⟩, gate_pos ⟨rfl, rfl⟩, gate_pos ⟨rfl, rfl⟩, tail33_done (by rw [(more4_len _).1]; omega)]
        rfl)⟩)
  fun vs bs K o h => by
    obtain ⟨h0, h1⟩ := gate_some h
    refine ⟨h0, ?_, h1⟩
    cases h0 <;> rfl
noncomputable def L33 : Ctr := (33, c33) :: L29
theorem L33ok : AllOk L33 := .cons ok33 L29ok
end Go.SX

/- What was lent is whole; large questions. No statement of the seat is proved here. -/
namespace Go.SX
open Go.Proofs
set_option maxRecDepth 20000
def run34 (u : List GRow × Nat) (l : List GRow) (v : List GStill × Nat) (b : List GStill) (K : RV G → List (Blk G) → List (Blk G) → Ans G) : Ans G :=
  bif lsame r2same (u.1.take u.2) l && lsame stsame (v.1.take v.2) b then
    bif decide (0 ≤ IntKind.i64.wrap ((l.length : Int) + 1) ∧ IntKind.i64.wrap ((l.length : Int) + 1) ≤ (u.1.length : Int) ∧ IntKind.i64.wrap ((l.length : Int) + 1) < 9223372036854775808) then
      bif decide ((l.length : Int) < ((IntKind.i64.wrap ((l.length : Int) + 1)).toNat : Int)) then (getI u.1 (l.length : Int)).bind fun q => bif true && (q.Of == 77) then
        bif decide (0 ≤ IntKind.i64.wrap ((b.length : Int) + 1) ∧ IntKind.i64.wrap ((b.length : Int) + 1) ≤ (v.1.length : Int) ∧ IntKind.i64.wrap ((b.length : Int) + 1) < 9223372036854775808) then
          bif decide ((b.length : Int) < ((IntKind.i64.wrap ((b.length : Int) + 1)).toNat : Int)) then (getI v.1 (b.length : Int)).bind fun p => K (.bool (true && feq p.Spin 4635118810238550016)) [] [] else none
        else none
      else K (.bool false) [] [] else none
    else none
  else K (.bool false) [] []
theorem ok34 : FcOk Try.prog 34 (FC.rn [.ct .row, .l .row, .ct .still, .l .still] fun (u, l, v, b, _) K => run34 u l v b K) := rn0 L33ok Try.func34 (by kernel_rfl) (by kernel_rfl) (by kernel_rfl) fun (u, l, v, b, _) K => by kernel_rfl
theorem run34_at (l : List GRow) (b : List GStill) (hl : l.length < 4611686018427387904) (hb : b.length < 4611686018427387904) (K) : run34 (l ++ [mark24], l.length) l (b ++ [mark25], b.length) b K = K (.bool true) [] [] := by
  unfold run34
  have e1 : IntKind.i64.wrap ((l.length : Int) + 1) = ((l.length + 1 : Nat) : Int) := wrap_succ (by omega)
  have e2 : IntKind.i64.wrap ((b.length : Int) + 1) = ((b.length + 1 : Nat) : Int) := wrap_succ (by omega)
  simp only [e1, e2, List.take_left, lsame_self r2same_self, lsame_self stsame_self, Bool.and_self, cond_true]
  rw [decide_eq_true (by rw [List.length_append]; simp; omega), cond_true, decide_eq_true (by omega), cond_true, getI_at (by rw [List.length_append]; simp)]
  have hq : (l ++ [mark24])[l.length]'(by simp) = mark24 := by simp
  have hp : (b ++ [mark25])[b.length]'(by simp) = mark25 := by simp
  rw [hq, Option.bind_some, show (true && (mark24.Of == 77)) = true by decide, cond_true, decide_eq_true (by rw [List.length_append]; simp; omega), cond_true, decide_eq_true (by omega), cond_true, getI_at (by rw [List.length_append]; simp), hp, Option.bind_some, show (true && feq mark25.Spin 4635118810238550016) = true by decide]
def large (l : List GRow) (b : List GStill) : Bool := (decide ((l.length : Int) > 200) && decide ((l.length : Int) ≤ 1048576)) || (decide ((b.length : Int) > 60) && decide ((b.length : Int) ≤ 1024))
def c23 : FC G := FC.sp [.l .row, .l .still] fun (l, b, _) => .bool (large l b)
theorem ok23 : FcOk Try.prog 23 c23 := sp0 L33ok Try.func23 (by kernel_rfl) (by kernel_rfl) (by kernel_rfl) fun (l, b, _) K => by kernel_rfl
end Go.SX

/- PRINTED BY A PROGRAM OF THIS SEAT: what the laws of solving ask of themselves. No statement of the seat is proved here. -/
namespace Go.SX
open Go.Proofs
set_option maxRecDepth 20000
/-- The row of the law's own questions. -/
def rw86 (a b : Int) : GRow := ⟨a, b, ⟨0, 13830554455654793216⟩, ⟨0, 4607182418800017408⟩, 0, 0, 0, 0, 9218868437227405312, 0, -1, 0⟩
noncomputable def c86 : FC G := FC.sp [.s .i64, .s .i64] fun (a, b, _) => encR .row (rw86 a b)
theorem ok86 : FcOk Try.prog 86 c86 := sp0 L33ok Try.func86 (by kernel_rfl) (by kernel_rfl) (by kernel_rfl) fun (a, b, _) K => by kernel_rfl
noncomputable def L86 : Ctr := (86, c86) :: L33
theorem L86ok : AllOk L86 := .cons ok86 L33ok
noncomputable def lp167 : List (Nat × LC G) := [(2, ⟨⟨[0, 1, 4, 7, 8], [], []⟩, iter (EV L86 []) ⟨[0, 1, 4, 7, 8], [], []⟩ (lpBody Try.f167 0) 3⟩)]
noncomputable def run167 (x : dens [.l .i64, .s .i64]) (K : RV G → List (Blk G) → List (Blk G) → Ans G) : Ans G := xfn (EV L86 lp167) Try.f167 [] (encs [.l .i64, .s .i64] x) [] K
/-- slices.Index, of lists shorter than three. -/
noncomputable def c167 : FC G := FC.rn [.l .i64, .s .i64] run167
theorem ok167 : FcOk Try.prog 167 c167 := rn_ok L86ok Try.func167 (by kernel_rfl) lp167 (lps1 (i := 2) (by kernel_rfl) rfl (lpIter _ _ _ (by kernel_rfl) (by kernel_rfl))) (by kernel_rfl) fun x K o h => h
noncomputable def L167 : Ctr := (167, c167) :: L86
theorem L167ok : AllOk L167 := .cons ok167 L86ok
noncomputable def run102 (x : dens [.l .i64, .s .i64]) (K : RV G → List (Blk G) → List (Blk G) → Ans G) : Ans G := xfn (EV L167 []) Try.f102 [] (encs [.l .i64, .s .i64] x) [] K
noncomputable def c102 : FC G := FC.rn [.l .i64, .s .i64] run102
theorem ok102 : FcOk Try.prog 102 c102 := rn_ok L167ok Try.func102 (by kernel_rfl) [] (.none (by kernel_rfl)) (by kernel_rfl) fun x K o h => h
noncomputable def L102 : Ctr := (102, c102) :: L167
theorem L102ok : AllOk L102 := .cons ok102 L167ok
def h37a : LH G := ⟨[0, 1, 4, 5, 6, 25, 26, 27], [], []⟩
def h37b : LH G := ⟨[1, 12, 42, 43, 44], [(10, .row, 900), (11, .i64, 901)], [41]⟩
def h37c : LH G := ⟨[10, 11, 12, 74, 75], [], [900, 901, 41]⟩
noncomputable def lp37 : List (Nat × LC G) := [(4, ⟨h37a, iter (EV L102 []) h37a (lpBody Try.f37 0) 5⟩), (14, ⟨h37b, iter (EV L102 []) h37b (lpBody Try.f37 1) 5⟩), (21, ⟨h37c, iter (EV L102 []) h37c (lpBody Try.f37 2) 5⟩)]
noncomputable def run37 (x : dens [.l .row, .l .i64]) (K : RV G → List (Blk G) → List (Blk G) → Ans G) : Ans G := xfn (EV L102 lp37) Try.f37 [] (encs [.l .row, .l .i64] x) [] K
theorem okr37 : FcOk Try.prog 37 (FC.rn [.l .row, .l .i64] run37) := rn_ok L102ok Try.func37 (by kernel_rfl) lp37 (lps3 (i := 4) (j := 14) (k := 21) (by kernel_rfl) rfl (lpIter _ _ _ (by kernel_rfl) (by kernel_rfl)) rfl (lpIter _ _ _ (by kernel_rfl) (by kernel_rfl)) rfl (lpIter _ _ _ (by kernel_rfl) (by kernel_rfl))) (by kernel_rfl) fun x K o h => h
theorem run37_at (K) : run37 ([rw86 0 1, rw86 2 3, rw86 3 0], [3], ()) K = K (.tuple [.own 0 .row 2, .own 1 .i64 2, .int .i64 0]) [] [.rows .row [rw86 2 3, rw86 3 0], .rows .i64 [1, 2]] := by kernel_rfl
end Go.SX

/- PRINTED BY A PROGRAM OF THIS SEAT: contracts, batch Ha: what moves, what rows look to, Index and Contains. No statement of the seat is proved here. -/
namespace Go.SX
open Go.Proofs
set_option maxRecDepth 20000
def smoved (s : GStill) : Bool := flt 0 s.Mass || flt 0 s.Inertia
def ofAt (a : Int) (r : GRow) : Bool := (r.A == a) || (r.B == a)
def c100 : FC G := FC.sp [.s .still] fun (s, _) => .bool (smoved s)
theorem ok100 : FcOk Try.prog 100 c100 := sp0 L86ok Try.func100 (by kernel_rfl) (by kernel_rfl) (by kernel_rfl) fun (s, _) K => by kernel_rfl
noncomputable def L100 : Ctr := (100, c100) :: L86
theorem L100ok : AllOk L100 := .cons ok100 L86ok
def c40 : FC G := FC.sp [.s .still] fun (s, _) => .bool (smoved s)
theorem ok40 : FcOk Try.prog 40 c40 := sp0 L100ok Try.func40 (by kernel_rfl) (by kernel_rfl) (by kernel_rfl) fun (s, _) K => by kernel_rfl
noncomputable def L40 : Ctr := (40, c40) :: L100
theorem L40ok : AllOk L40 := .cons ok40 L100ok
def hd101 : LH G := ⟨[0, 1, 4, 5], [], []⟩
def W101 (l : List GRow) (a : Int) (b : Bool) (i : Int) : List (RV G) := [.rslice .row l, .int .i64 a, .bool b, .int .i64 i]
def OUT101 (l : List GRow) (a : Int) (K : XE → List (RV G) → List (Blk G) → Ans G) : Ans G := bif l.any (ofAt a) then K .ret (W101 l a true (l.findIdx (ofAt a) : Nat)) [] else K (.exit 0) (W101 l a false (l.length : Nat)) []
noncomputable def E101 (l : List GRow) (a : Int) : List (Nat × LC G) := [(2, lcOf hd101 (W101 l a false 0) [] (OUT101 l a))]
theorem step101 (l : List GRow) (a : Int) (n : Nat) (i : Int) (K) : iter (EV L40 (E101 l a)) hd101 (lpBody Try.f101 0) (n + 1) (W101 l a false i) [] K = bif decide (i < (l.length : Int)) then (getI l i).bind fun x =>
    bif x.A == a then K .ret (W101 l a true i) [] else (getI l i).bind fun y => bif (false || (y.B == a)) then K .ret (W101 l a true i) [] else iter (EV L40 (E101 l a)) hd101 (lpBody Try.f101 0) n (W101 l a false (IntKind.i64.wrap (i + 1))) [] K
  else K (.exit 0) (W101 l a false i) [] := by kernel_rfl
theorem lp101 (l : List GRow) (a : Int) (hx : l.length < 9223372036854775808) : LpOk (EV L40 (E101 l a)) [] (lpBody Try.f101 0) (lcOf hd101 (W101 l a false 0) [] (OUT101 l a)) := lcOf_ok (by kernel_rfl) fun K => ⟨_, find_loop (xs := l) (p := ofAt a) (F := fun n i => iter (EV L40 (E101 l a)) hd101 (lpBody Try.f101 0) n (W101 l a false i) [] K)
  (R := fun i => K .ret (W101 l a true i) []) (X := fun i => K (.exit 0) (W101 l a false i) []) (fun n i => by
    rw [step101]
    congr 1
    unfold ofAt
    cases getI l i with
    | none => rfl
    | some x => simp only [Option.bind_some]; cases x.A == a <;> cases x.B == a <;> rfl) hx⟩
def c101 : FC G := FC.sp [.l .row, .s .i64] fun (l, a, _) => .bool (l.any (ofAt a))
theorem x101 (l : List GRow) (a : Int) (K) : xfn (EV L40 (E101 l a)) Try.f101 [] (encs [.l .row, .s .i64] (l, a, ())) [] K = K (.bool (l.any (ofAt a))) [] [] :=
  (show _ = gate (W101 l a false 0 = W101 l a false 0 ∧ ([] : List (Blk G)) = []) (bif l.any (ofAt a) then K (.bool true) [] [] else K (.bool false) [] []) from by kernel_rfl).trans (by
  rw [gate_pos ⟨rfl, rfl⟩]
  cases l.any (ofAt a) <;> rfl)
theorem ok101 : FcOk Try.prog 101 c101 := sp_lp L40ok Try.func101 (by kernel_rfl) (by kernel_rfl) fun (l, a, _) ⟨hx, _, _⟩ => ⟨E101 l a, lps1 (i := 2) (by kernel_rfl) rfl (lp101 l a hx), fun K => x101 l a K⟩
noncomputable def L101 : Ctr := (101, c101) :: L40
theorem L101ok : AllOk L101 := .cons ok101 L40ok
def hd41 : LH G := ⟨[0, 1, 4, 5], [], []⟩
def W41 (l : List GRow) (a : Int) (b : Bool) (i : Int) : List (RV G) := [.rslice .row l, .int .i64 a, .bool b, .int .i64 i]
def OUT41 (l : List GRow) (a : Int) (K : XE → List (RV G) → List (Blk G) → Ans G) : Ans G := bif l.any (ofAt a) then K .ret (W41 l a true (l.findIdx (ofAt a) : Nat)) [] else K (.exit 0) (W41 l a false (l.length : Nat)) []
noncomputable def E41 (l : List GRow) (a : Int) : List (Nat × LC G) := [(2, lcOf hd41 (W41 l a false 0) [] (OUT41 l a))]
theorem step41 (l : List GRow) (a : Int) (n : Nat) (i : Int) (K) : iter (EV L101 (E41 l a)) hd41 (lpBody Try.f41 0) (n + 1) (W41 l a false i) [] K = bif decide (i < (l.length : Int)) then (getI l i).bind fun x =>
    bif x.A == a then K .ret (W41 l a true i) [] else (getI l i).bind fun y => bif (false || (y.B == a)) then K .ret (W41 l a true i) [] else iter (EV L101 (E41 l a)) hd41 (lpBody Try.f41 0) n (W41 l a false (IntKind.i64.wrap (i + 1))) [] K
  else K (.exit 0) (W41 l a false i) [] := by kernel_rfl
theorem lp41 (l : List GRow) (a : Int) (hx : l.length < 9223372036854775808) : LpOk (EV L101 (E41 l a)) [] (lpBody Try.f41 0) (lcOf hd41 (W41 l a false 0) [] (OUT41 l a)) := lcOf_ok (by kernel_rfl) fun K => ⟨_, find_loop (xs := l) (p := ofAt a) (F := fun n i => iter (EV L101 (E41 l a)) hd41 (lpBody Try.f41 0) n (W41 l a false i) [] K)
  (R := fun i => K .ret (W41 l a true i) []) (X := fun i => K (.exit 0) (W41 l a false i) []) (fun n i => by
    rw [step41]
    congr 1
    unfold ofAt
    cases getI l i with
    | none => rfl
    | some x => simp only [Option.bind_some]; cases x.A == a <;> cases x.B == a <;> rfl) hx⟩
def c41 : FC G := FC.sp [.l .row, .s .i64] fun (l, a, _) => .bool (l.any (ofAt a))
theorem x41 (l : List GRow) (a : Int) (K) : xfn (EV L101 (E41 l a)) Try.f41 [] (encs [.l .row, .s .i64] (l, a, ())) [] K = K (.bool (l.any (ofAt a))) [] [] :=
  (show _ = gate (W41 l a false 0 = W41 l a false 0 ∧ ([] : List (Blk G)) = []) (bif l.any (ofAt a) then K (.bool true) [] [] else K (.bool false) [] []) from by kernel_rfl).trans (by
  rw [gate_pos ⟨rfl, rfl⟩]
  cases l.any (ofAt a) <;> rfl)
theorem ok41 : FcOk Try.prog 41 c41 := sp_lp L101ok Try.func41 (by kernel_rfl) (by kernel_rfl) fun (l, a, _) ⟨hx, _, _⟩ => ⟨E41 l a, lps1 (i := 2) (by kernel_rfl) rfl (lp41 l a hx), fun K => x41 l a K⟩
noncomputable def L41 : Ctr := (41, c41) :: L101
theorem L41ok : AllOk L41 := .cons ok41 L101ok
/-! ### slices.Index, slices.Contains -/
def hdIx : LH G := ⟨[0, 1, 4, 7, 8], [], []⟩
def WIx (l : List Int) (a r i : Int) : List (RV G) := [.rslice .i64 l, .int .i64 a, .int .i64 r, .int .i64 l.length, .int .i64 i]
def OUTIx (l : List Int) (a : Int) (K : XE → List (RV G) → List (Blk G) → Ans G) : Ans G := bif l.any (fun y => a == y) then K .ret (WIx l a (l.findIdx (fun y => a == y) : Nat) (l.findIdx (fun y => a == y) : Nat)) [] else K (.exit 0) (WIx l a 0 (l.length : Nat)) []
noncomputable def EIx (l : List Int) (a : Int) : List (Nat × LC G) := [(2, lcOf hdIx (WIx l a 0 0) [] (OUTIx l a))]
theorem stepIx (l : List Int) (a : Int) (n : Nat) (i : Int) (K) : iter (EV L41 (EIx l a)) hdIx (lpBody Try.f167 0) (n + 1) (WIx l a 0 i) [] K = bif decide (i < (l.length : Int)) then (getI l i).bind fun y =>
    bif a == y then K .ret (WIx l a i i) [] else iter (EV L41 (EIx l a)) hdIx (lpBody Try.f167 0) n (WIx l a 0 (IntKind.i64.wrap (i + 1))) [] K
  else K (.exit 0) (WIx l a 0 i) [] := by kernel_rfl
theorem lpIx (l : List Int) (a : Int) (hx : l.length < 9223372036854775808) : LpOk (EV L41 (EIx l a)) [] (lpBody Try.f167 0) (lcOf hdIx (WIx l a 0 0) [] (OUTIx l a)) := lcOf_ok (by kernel_rfl) fun K => ⟨_, find_loop (xs := l) (p := fun y => a == y) (F := fun n i => iter (EV L41 (EIx l a)) hdIx (lpBody Try.f167 0) n (WIx l a 0 i) [] K)
  (R := fun i => K .ret (WIx l a i i) []) (X := fun i => K (.exit 0) (WIx l a 0 i) []) (fun n i => stepIx l a n i K) hx⟩
def cIx : FC G := FC.sp [.l .i64, .s .i64] fun (l, a, _) => .int .i64 (bif (show List Int from l).any (fun y => a == y) then ((show List Int from l).findIdx (fun y => a == y) : Nat) else -1)
theorem xIx (l : List Int) (a : Int) (K) : xfn (EV L41 (EIx l a)) Try.f167 [] (encs [.l .i64, .s .i64] (l, a, ())) [] K = K (.int .i64 (bif l.any (fun y => a == y) then (l.findIdx (fun y => a == y) : Nat) else -1)) [] [] :=
  (show _ = gate (WIx l a 0 0 = WIx l a 0 0 ∧ ([] : List (Blk G)) = []) (bif l.any (fun y => a == y) then K (.int .i64 (l.findIdx (fun y => a == y) : Nat)) [] [] else K (.int .i64 (-1)) [] []) from by kernel_rfl).trans (by
  rw [gate_pos ⟨rfl, rfl⟩]
  cases l.any (fun y => a == y) <;> rfl)
theorem okIx : FcOk Try.prog 167 cIx := sp_lp L41ok Try.func167 (by kernel_rfl) (by kernel_rfl) fun (l, a, _) ⟨hx, _, _⟩ => ⟨EIx l a, lps1 (i := 2) (by kernel_rfl) rfl (lpIx l a hx), fun K => xIx l a K⟩
noncomputable def LIx : Ctr := (167, cIx) :: L41
theorem LIxok : AllOk LIx := .cons okIx L41ok
def cHas : FC G := FC.sp [.l .i64, .s .i64] fun (l, a, _) => .bool ((show List Int from l).any (fun y => a == y))
theorem okHas : FcOk Try.prog 102 cHas := sp0 LIxok Try.func102 (by kernel_rfl) (by kernel_rfl) (by kernel_rfl) fun (l, a, _) K => (show xfn (EV LIx []) Try.f102 [] (encs [.l .i64, .s .i64] (l, a, ())) [] K = K (.bool (decide ((bif (show List Int from l).any (fun y => a == y) then ((show List Int from l).findIdx (fun y => a == y) : Nat) else -1 : Int) ≥ 0))) [] [] from by kernel_rfl).trans (by rw [idx_ge])
noncomputable def LHas : Ctr := (102, cHas) :: LIx
theorem LHasok : AllOk LHas := .cons okHas LIxok
end Go.SX

/- Some of the rows solved by themselves come to what they come to among all. No statement of the seat is proved here. -/
namespace Go.SX
open Go.Proofs
set_option maxRecDepth 20000
theorem fold_sub {α β : Type} {f : α → Nat → α} {g : β → Nat → β} {R : α → β → Prop} {n m : Nat} {φ : Nat → Nat}
    (hm : ∀ i j, i < j → j < m → φ i < φ j) (hb : ∀ i, i < m → φ i < n)
    (both : ∀ a b i, i < m → R a b → R (f a (φ i)) (g b i)) (one : ∀ a b j, j < n → (∀ i, i < m → φ i ≠ j) → R a b → R (f a j) b)
    {a : α} {b : β} (h : R a b) : R ((List.range n).foldl f a) ((List.range m).foldl g b) := by
  have main : ∀ d j i a b, j + d = n → i ≤ m → (∀ k, k < i → φ k < j) → (∀ k, i ≤ k → k < m → j ≤ φ k) → R a b → R ((List.range' j d).foldl f a) ((List.range' i (m - i)).foldl g b) := by
    intro d
    induction d with
    | zero =>
      intro j i a b hj hi h1 h2 hr
      have : i = m := by
        rcases Nat.lt_or_ge i m with h | h
        · have := h2 i (Nat.le_refl _) h
          have := hb i h
          omega
        · omega
      subst this
      rw [Nat.sub_self]
      exact hr
    | succ d ih =>
      intro j i a b hj hi h1 h2 hr
      rw [List.range'_succ, List.foldl_cons]
      by_cases e : i < m ∧ φ i = j
      · obtain ⟨e1, rfl⟩ := e
        rw [show m - i = (m - (i + 1)) + 1 by omega, List.range'_succ, List.foldl_cons]
        refine ih (φ i + 1) (i + 1) _ _ (by omega) (by omega) (fun k hk => ?_) (fun k hk hk2 => hm i k (by omega) hk2) (both a b i e1 hr)
        rcases Nat.lt_or_ge k i with h | h
        · have := h1 k h; omega
        · have : k = i := by omega
          subst this; omega
      · have hne : ∀ k, k < m → φ k ≠ j := fun k hk hkj => by
          rcases Nat.lt_or_ge k i with h | h
          · have := h1 k h; omega
          · rcases Nat.lt_or_ge i k with h3 | h3
            · have := hm i k h3 hk
              have := h2 i (Nat.le_refl _) (by omega)
              omega
            · have : k = i := by omega
              subst this
              exact e ⟨hk, hkj⟩
        refine ih (j + 1) i _ _ (by omega) hi (fun k hk => by have := h1 k hk; omega) (fun k hk hk2 => ?_) (one a b j (by omega) hne hr)
        have := h2 k hk hk2
        have := hne k hk2
        omega
  rw [List.range_eq_range', List.range_eq_range']
  exact main n 0 0 a b (by omega) (by omega) (fun k hk => by omega) (fun k _ _ => by omega) h
theorem getS_set (s : List GStill) {i k : Int} (h0 : 0 ≤ i) (h1 : 0 ≤ k) (x : GStill) : getS (s.set i.toNat x) k = if i = k ∧ k < (s.length : Int) then x else getS s k := by
  unfold getS
  rw [List.getD_eq_getElem?_getD, List.getD_eq_getElem?_getD, List.getElem?_set]
  by_cases h : i = k
  · subst h
    by_cases hk : i < (s.length : Int)
    · rw [if_pos rfl, if_pos (by omega), if_pos ⟨rfl, hk⟩]; rfl
    · rw [if_pos rfl, if_neg (by omega), if_neg (by omega), List.getElem?_eq_none (by omega)]
  · rw [if_neg (by omega), if_neg (by omega)]
theorem unmoved_eq {x : Nat} (h : fle 0 x = true) (h2 : flt 0 x = false) : feq x 0 = true := by
  have h0 : isNan 0 = false := by decide
  cases hx : isNan x with
  | true => rw [fle_nan (.inr hx)] at h; cases h
  | false =>
    rw [fle_val h0 hx] at h
    rw [flt_val h0 hx] at h2
    rw [feq_val hx h0]
    simp only [decide_eq_true_eq, decide_eq_false_iff_not] at *
    omega
theorem spush_un {s : GStill} (h : smoved s = false) (hr : srests s = true) (way : GVec) (turn p : Nat) : spush s way turn p = s := by
  unfold smoved at h
  unfold srests at hr
  simp only [Bool.or_eq_false_iff, Bool.and_eq_true] at h hr
  have e1 := unmoved_eq hr.1.2 h.1
  have e2 := unmoved_eq hr.2 h.2
  unfold spush
  rw [e1, e2]
  rfl
theorem rok_parts {r : GRow} {a b : GStill} (h : rok r a b = true) : srests a = true ∧ srests b = true := by
  unfold rok at h
  simp only [Bool.and_eq_true] at h
  exact ⟨h.1.2, h.2⟩
theorem roneA_un {r : GRow} {a b : GStill} (hr : rok r a b = true) (h : smoved a = false) : roneA r a b = a := by
  unfold roneA
  rw [hr, spush_un h (rok_parts hr).1]
  cases rgo r a b <;> rfl
theorem roneB_un {r : GRow} {a b : GStill} (hr : rok r a b = true) (h : smoved b = false) : roneB r a b = b := by
  unfold roneB
  rw [hr, spush_un h (rok_parts hr).2]
  cases rgo r a b <;> rfl
theorem rwarmA_un {r : GRow} {a b : GStill} (hr : rok r a b = true) (h : smoved a = false) : rwarmA r a b = a := by
  unfold rwarmA
  rw [hr, spush_un h (rok_parts hr).1]; rfl
theorem rwarmB_un {r : GRow} {a b : GStill} (hr : rok r a b = true) (h : smoved b = false) : rwarmB r a b = b := by
  unfold rwarmB
  rw [hr, spush_un h (rok_parts hr).2]; rfl
/-- A row with another number to hang on. -/
def ofTo (x : GRow) (o : Int) : GRow := { x with Of := o }
theorem rok_of {x : GRow} {o : Int} (h1 : -1 ≤ x.Of) (h2 : -1 ≤ o) (a b : GStill) : rok (ofTo x o) a b = rok x a b := by
  unfold rok rfits ofTo
  simp only []
  rw [decide_eq_true (show o ≥ -1 from h2), decide_eq_true (show x.Of ≥ -1 from h1)]
theorem rone_of {x : GRow} {o : Int} {a b : GStill} (h : rok x a b = true) (h' : rok (ofTo x o) a b = true) : rone (ofTo x o) a b = ofTo (rone x a b) o := by
  unfold rone
  rw [h, h']
  have e : rgo (ofTo x o) a b = rgo x a b := rfl
  rw [e]
  cases rgo x a b <;> rfl
theorem roneA_of {x : GRow} {o : Int} {a b : GStill} (h : rok (ofTo x o) a b = rok x a b) : roneA (ofTo x o) a b = roneA x a b := by
  unfold roneA
  rw [h]
  rfl
theorem roneB_of {x : GRow} {o : Int} {a b : GStill} (h : rok (ofTo x o) a b = rok x a b) : roneB (ofTo x o) a b = roneB x a b := by
  unfold roneB
  rw [h]
  rfl
theorem rwarmA_of {x : GRow} {o : Int} {a b : GStill} (h : rok (ofTo x o) a b = rok x a b) : rwarmA (ofTo x o) a b = rwarmA x a b := by
  unfold rwarmA
  rw [h]
  rfl
theorem rwarmB_of {x : GRow} {o : Int} {a b : GStill} (h : rok (ofTo x o) a b = rok x a b) : rwarmB (ofTo x o) a b = rwarmB x a b := by
  unfold rwarmB
  rw [h]
  rfl
/-- Some of the rows, by themselves. -/
structure Sub (l m : List GRow) (s : List GStill) (φ : Nat → Nat) : Prop where
  mono : ∀ i j, i < j → j < m.length → φ i < φ j
  lt : ∀ i, i < m.length → φ i < l.length
  row : ∀ i, i < m.length → getR l (φ i) = ofTo (getR m i) (getR l (φ i)).Of
  of_ : ∀ i, i < m.length → ((getR m i).Of < 0 ∧ (getR l (φ i)).Of < 0) ∨ (0 ≤ (getR m i).Of ∧ (getR l (φ i)).Of = (φ (getR m i).Of.toNat : Nat))
  apart : ∀ j, j < l.length → (∀ i, i < m.length → φ i ≠ j) → ∀ k : Int, 0 ≤ k → k < (s.length : Int) → ofAt k (getR l j) = true → m.any (ofAt k) = true → smoved (getS s k) = false
/-- How the stills stand to one another. -/
structure EmbS (l m : List GRow) (s t t' : List GStill) : Prop where
  len : t.length = s.length
  len' : t'.length = s.length
  st : ∀ k : Int, 0 ≤ k → k < (s.length : Int) → m.any (ofAt k) = true → getS t k = getS t' k
  un : ∀ k : Int, 0 ≤ k → k < (s.length : Int) → smoved (getS s k) = false → getS t k = getS s k ∧ getS t' k = getS s k
  out : ∀ k : Int, 0 ≤ k → k < (s.length : Int) → l.any (ofAt k) = false → getS t k = getS s k
def set2 (t : List GStill) (A B : Int) (x y : GStill) : List GStill := (t.set A.toNat x).set B.toNat y
theorem set2_len (t : List GStill) (A B : Int) (x y : GStill) : (set2 t A B x y).length = t.length := by simp [set2]
theorem getS_set2 (t : List GStill) {A B k : Int} (a0 : 0 ≤ A) (b0 : 0 ≤ B) (h1 : 0 ≤ k) (h2 : k < (t.length : Int)) (x y : GStill) : getS (set2 t A B x y) k = if B = k then y else if A = k then x else getS t k := by
  unfold set2
  rw [getS_set _ b0 h1, getS_set _ a0 h1, List.length_set]
  simp only [h2, and_true]
theorem any_row {l : List GRow} {j : Nat} (hj : j < l.length) {k : Int} (h : ofAt k (getR l j) = true) : l.any (ofAt k) = true := by
  rw [List.any_eq_true]
  exact ⟨_, List.mem_of_getElem? (getR_at hj), h⟩
theorem EmbS.both {l m : List GRow} {s t t' : List GStill} (h : EmbS l m s t t') {A B : Int} (a0 : 0 ≤ A) (a1 : A < (s.length : Int)) (b0 : 0 ≤ B) (b1 : B < (s.length : Int)) {x y : GStill}
    (hx : smoved (getS s A) = false → x = getS s A) (hy : smoved (getS s B) = false → y = getS s B) (la : l.any (ofAt A) = true) (lb : l.any (ofAt B) = true) : EmbS l m s (set2 t A B x y) (set2 t' A B x y) where
  len := (set2_len ..).trans h.len
  len' := (set2_len ..).trans h.len'
  st k k0 k1 hk := by
    rw [getS_set2 _ a0 b0 k0 (by rw [h.len]; exact k1), getS_set2 _ a0 b0 k0 (by rw [h.len']; exact k1), h.st k k0 k1 hk]
  un k k0 k1 hk := by
    rw [getS_set2 _ a0 b0 k0 (by rw [h.len]; exact k1), getS_set2 _ a0 b0 k0 (by rw [h.len']; exact k1)]
    by_cases eb : B = k
    · subst eb; simp [hy hk]
    · by_cases ea : A = k
      · subst ea; simp [eb, hx hk]
      · simp only [eb, ea, if_false]; exact h.un k k0 k1 hk
  out k k0 k1 hk := by
    rw [getS_set2 _ a0 b0 k0 (by rw [h.len]; exact k1)]
    by_cases eb : B = k
    · subst eb; rw [lb] at hk; cases hk
    · by_cases ea : A = k
      · subst ea; rw [la] at hk; cases hk
      · simp only [eb, ea, if_false]; exact h.out k k0 k1 hk
theorem EmbS.one {l m : List GRow} {s t t' : List GStill} (h : EmbS l m s t t') {A B : Int} (a0 : 0 ≤ A) (a1 : A < (s.length : Int)) (b0 : 0 ≤ B) (b1 : B < (s.length : Int)) {x y : GStill}
    (hx : smoved (getS s A) = false → x = getS s A) (hy : smoved (getS s B) = false → y = getS s B) (la : l.any (ofAt A) = true) (lb : l.any (ofAt B) = true)
    (ma : m.any (ofAt A) = true → smoved (getS s A) = false) (mb : m.any (ofAt B) = true → smoved (getS s B) = false) : EmbS l m s (set2 t A B x y) t' where
  len := (set2_len ..).trans h.len
  len' := h.len'
  st k k0 k1 hk := by
    rw [getS_set2 _ a0 b0 k0 (by rw [h.len]; exact k1)]
    by_cases eb : B = k
    · subst eb; rw [if_pos rfl, hy (mb hk), (h.un _ k0 k1 (mb hk)).2]
    · by_cases ea : A = k
      · subst ea; rw [if_neg eb, if_pos rfl, hx (ma hk), (h.un _ k0 k1 (ma hk)).2]
      · rw [if_neg eb, if_neg ea]; exact h.st k k0 k1 hk
  un k k0 k1 hk := by
    rw [getS_set2 _ a0 b0 k0 (by rw [h.len]; exact k1)]
    refine ⟨?_, (h.un k k0 k1 hk).2⟩
    by_cases eb : B = k
    · subst eb; rw [if_pos rfl, hy hk]
    · by_cases ea : A = k
      · subst ea; rw [if_neg eb, if_pos rfl, hx hk]
      · rw [if_neg eb, if_neg ea]; exact (h.un k k0 k1 hk).1
  out k k0 k1 hk := by
    rw [getS_set2 _ a0 b0 k0 (by rw [h.len]; exact k1)]
    by_cases eb : B = k
    · subst eb; rw [lb] at hk; cases hk
    · by_cases ea : A = k
      · subst ea; rw [la] at hk; cases hk
      · simp only [eb, ea, if_false]; exact h.out k k0 k1 hk
theorem ofAt_A (r : GRow) : ofAt r.A r = true := by unfold ofAt; simp
theorem ofAt_B (r : GRow) : ofAt r.B r = true := by unfold ofAt; simp
theorem fits_of {l : List GRow} (h : Fits l) {i : Nat} (hi : i < l.length) : -1 ≤ (getR l i).Of := by
  have f := h i hi
  unfold rfits at f
  simp only [Bool.and_eq_true, decide_eq_true_eq] at f
  exact f.2
section
variable {l m : List GRow} {s : List GStill} {φ : Nat → Nat}
theorem Sub.ab (h : Sub l m s φ) {i : Nat} (hi : i < m.length) : (getR l (φ i)).A = (getR m i).A ∧ (getR l (φ i)).B = (getR m i).B := by
  have := h.row i hi
  rw [this]
  exact ⟨rfl, rfl⟩
theorem warm_both (h : Sub l m s φ) (ha : Asked l s) (hb : Asked m s) {t t' : List GStill} (e : EmbS l m s t t') (ht : Rest t) (ht' : Rest t') {i : Nat} (hi : i < m.length) :
    EmbS l m s (warm1 l t (φ i)) (warm1 m t' i) ∧ Rest (warm1 l t (φ i)) ∧ Rest (warm1 m t' i) := by
  have hj := h.lt i hi
  obtain ⟨_, a0, a1, b0, b1, _⟩ := hb.fit i hi
  obtain ⟨k1, r1⟩ := warm1_rest (by rw [e.len]; exact ha.fit) ha.fits ht hj
  obtain ⟨k2, r2⟩ := warm1_rest (by rw [e.len']; exact hb.fit) hb.fits ht' hi
  refine ⟨?_, r1, r2⟩
  obtain ⟨eA, eB⟩ := h.ab hi
  have ho := fits_of ha.fits hj
  have ho' := fits_of hb.fits hi
  have mA : m.any (ofAt (getR m i).A) = true := any_row hi (ofAt_A _)
  have mB : m.any (ofAt (getR m i).B) = true := any_row hi (ofAt_B _)
  have lA : l.any (ofAt (getR m i).A) = true := any_row hj (by rw [← eA]; exact ofAt_A _)
  have lB : l.any (ofAt (getR m i).B) = true := any_row hj (by rw [← eB]; exact ofAt_B _)
  have sA := e.st _ a0 a1 mA
  have sB := e.st _ b0 b1 mB
  have key : warm1 l t (φ i) = set2 t (getR m i).A (getR m i).B (rwarmA (getR m i) (getS t' (getR m i).A) (getS t' (getR m i).B)) (rwarmB (getR m i) (getS t' (getR m i).A) (getS t' (getR m i).B)) := by
    unfold warm1 set2
    rw [eA, eB, sA, sB, h.row i hi, rwarmA_of (rok_of ho' ho _ _), rwarmB_of (rok_of ho' ho _ _)]
  rw [key]
  refine e.both a0 a1 b0 b1 (fun hu => ?_) (fun hu => ?_) lA lB
  · have g := (e.un _ a0 a1 hu).2
    rw [rwarmA_un k2 (by rw [g]; exact hu), g]
  · have g := (e.un _ b0 b1 hu).2
    rw [rwarmB_un k2 (by rw [g]; exact hu), g]
theorem warm_one (h : Sub l m s φ) (ha : Asked l s) {t t' : List GStill} (e : EmbS l m s t t') (ht : Rest t) {j : Nat} (hj : j < l.length) (hn : ∀ i, i < m.length → φ i ≠ j) :
    EmbS l m s (warm1 l t j) t' ∧ Rest (warm1 l t j) := by
  obtain ⟨_, a0, a1, b0, b1, _⟩ := ha.fit j hj
  obtain ⟨k1, r1⟩ := warm1_rest (by rw [e.len]; exact ha.fit) ha.fits ht hj
  refine ⟨?_, r1⟩
  show EmbS l m s (set2 t (getR l j).A (getR l j).B _ _) t'
  refine e.one a0 a1 b0 b1 (fun hu => ?_) (fun hu => ?_) (any_row hj (ofAt_A _)) (any_row hj (ofAt_B _)) (h.apart j hj hn _ a0 a1 (ofAt_A _)) (h.apart j hj hn _ b0 b1 (ofAt_B _))
  · have g := (e.un _ a0 a1 hu).1
    rw [rwarmA_un k1 (by rw [g]; exact hu), g]
  · have g := (e.un _ b0 b1 hu).1
    rw [rwarmB_un k1 (by rw [g]; exact hu), g]
theorem warm_sub (h : Sub l m s φ) (ha : Asked l s) (hb : Asked m s) : EmbS l m s (warmAll l s) (warmAll m s) := by
  have z : EmbS l m s s s := ⟨rfl, rfl, fun _ _ _ _ => rfl, fun _ _ _ _ => ⟨rfl, rfl⟩, fun _ _ _ _ => rfl⟩
  exact (fold_sub (R := fun t t' => EmbS l m s t t' ∧ Rest t ∧ Rest t') h.mono h.lt (fun t t' i hi ⟨e, r, r'⟩ => warm_both h ha hb e r r' hi)
    (fun t t' j hj hn ⟨e, r, r'⟩ => by
      obtain ⟨g1, g2⟩ := warm_one h ha e r hj hn
      exact ⟨g1, g2, r'⟩) ⟨z, ha.rest, ha.rest⟩).1
def SameAB (x y : GRow) : Prop := x.A = y.A ∧ x.B = y.B ∧ x.Of = y.Of
structure Emb (l m : List GRow) (s : List GStill) (φ : Nat → Nat) (q q' : List GRow × List GStill) : Prop where
  len : q.1.length = l.length
  len' : q'.1.length = m.length
  keep : ∀ j, SameAB (getR q.1 j) (getR l j)
  keep' : ∀ j, SameAB (getR q'.1 j) (getR m j)
  row : ∀ i, i < m.length → getR q.1 (φ i) = ofTo (getR q'.1 i) (getR l (φ i)).Of
  st : EmbS l m s q.2 q'.2
theorem SameAB.trans {x y z : GRow} (h : SameAB x y) (g : SameAB y z) : SameAB x z := ⟨h.1.trans g.1, h.2.1.trans g.2.1, h.2.2.trans g.2.2⟩
theorem turn1_eq (q : List GRow × List GStill) (i : Nat) : turn1 q i = bif rok (endsOf q.1 i) (getS q.2 (getR q.1 i).A) (getS q.2 (getR q.1 i).B) then
    (q.1.set i (rone (endsOf q.1 i) (getS q.2 (getR q.1 i).A) (getS q.2 (getR q.1 i).B)), set2 q.2 (getR q.1 i).A (getR q.1 i).B (roneA (endsOf q.1 i) (getS q.2 (getR q.1 i).A) (getS q.2 (getR q.1 i).B)) (roneB (endsOf q.1 i) (getS q.2 (getR q.1 i).A) (getS q.2 (getR q.1 i).B)))
    else (q.1.set i (endsOf q.1 i), q.2) := by
  obtain ⟨e1, e2, _⟩ := endsOf_keeps q.1 i
  unfold turn1 set2
  dsimp only
  rw [e1, e2]
theorem ends_sub (h : Sub l m s φ) (ha : Asked l s) (hb : Asked m s) {q q' : List GRow × List GStill} (e : Emb l m s φ q q') {i : Nat} (hi : i < m.length) : endsOf q.1 (φ i) = ofTo (endsOf q'.1 i) (getR l (φ i)).Of := by
  have hr := e.row i hi
  have h3 : (getR q.1 (φ i)).Of = (getR l (φ i)).Of := (e.keep _).2.2
  have h4 : (getR q'.1 i).Of = (getR m i).Of := (e.keep' _).2.2
  unfold endsOf
  rcases h.of_ i hi with ⟨g1, g2⟩ | ⟨g1, g2⟩
  · rw [h3, h4, decide_eq_false (by omega), decide_eq_false (by omega)]
    exact hr
  · have hx := (hb.fit i hi).of_
    rw [h3, h4, decide_eq_true (by omega), decide_eq_true (by omega), cond_true, cond_true, g2, Int.toNat_natCast]
    have hp : (getR q.1 (φ (getR m i).Of.toNat)).Push = (getR q'.1 (getR m i).Of.toNat).Push := by rw [e.row _ (by omega)]; rfl
    rw [hp, hr, ← g2]
    rfl
theorem turn_both (h : Sub l m s φ) (ha : Asked l s) (hb : Asked m s) {q q' : List GRow × List GStill} (e : Emb l m s φ q q') {i : Nat} (hi : i < m.length) : Emb l m s φ (turn1 q (φ i)) (turn1 q' i) := by
  have hj := h.lt i hi
  obtain ⟨_, a0, a1, b0, b1, _⟩ := hb.fit i hi
  obtain ⟨eA, eB⟩ := h.ab hi
  have ho := fits_of ha.fits hj
  have ho' := fits_of hb.fits hi
  have mA : m.any (ofAt (getR m i).A) = true := any_row hi (ofAt_A _)
  have mB : m.any (ofAt (getR m i).B) = true := any_row hi (ofAt_B _)
  have lA : l.any (ofAt (getR m i).A) = true := any_row hj (by rw [← eA]; exact ofAt_A _)
  have lB : l.any (ofAt (getR m i).B) = true := any_row hj (by rw [← eB]; exact ofAt_B _)
  have sA := e.st.st _ a0 a1 mA
  have sB := e.st.st _ b0 b1 mB
  have qA : (getR q.1 (φ i)).A = (getR m i).A := (e.keep _).1.trans eA
  have qB : (getR q.1 (φ i)).B = (getR m i).B := (e.keep _).2.1.trans eB
  have qA' : (getR q'.1 i).A = (getR m i).A := (e.keep' _).1
  have qB' : (getR q'.1 i).B = (getR m i).B := (e.keep' _).2.1
  have hO : (endsOf q'.1 i).Of = (getR m i).Of := (endsOf_keeps _ _).2.2.trans (e.keep' _).2.2
  have k1 := turn1_keeps q (φ i)
  have k2 := turn1_keeps q' i
  have hen := ends_sub h ha hb e hi
  have hrk := rok_of (x := endsOf q'.1 i) (o := (getR l (φ i)).Of) (by rw [hO]; exact ho') ho (getS q'.2 (getR m i).A) (getS q'.2 (getR m i).B)
  refine ⟨(turn1_len q (φ i)).1.trans e.len, (turn1_len q' i).1.trans e.len', fun j => SameAB.trans (k1 j) (e.keep j), fun j => SameAB.trans (k2 j) (e.keep' j), fun k hk => ?_, ?_⟩
  · have rows : ∀ y : GRow, getR (q.1.set (φ i) (ofTo y (getR l (φ i)).Of)) (φ k) = ofTo (getR (q'.1.set i y) k) (getR l (φ k)).Of := fun y => by
      rw [getR_set, getR_set, e.len, e.len']
      by_cases hik : i = k
      · subst hik
        rw [if_pos ⟨rfl, hj⟩, if_pos ⟨rfl, hi⟩]
      · have : φ i ≠ φ k := by
          rcases Nat.lt_or_gt_of_ne hik with g | g
          · have := h.mono i k g hk; omega
          · have := h.mono k i g hi; omega
        rw [if_neg (by omega), if_neg (by omega)]
        exact e.row k hk
    rw [turn1_eq, turn1_eq, qA, qB, qA', qB', sA, sB, hen, hrk]
    cases hc : rok (endsOf q'.1 i) (getS q'.2 (getR m i).A) (getS q'.2 (getR m i).B) with
    | true =>
      rw [cond_true, cond_true, rone_of hc (hrk.trans hc)]
      exact rows _
    | false =>
      exact rows _
  · rw [turn1_eq, turn1_eq, qA, qB, qA', qB', sA, sB, hen, hrk]
    cases hc : rok (endsOf q'.1 i) (getS q'.2 (getR m i).A) (getS q'.2 (getR m i).B) with
    | true =>
      rw [cond_true, cond_true, roneA_of hrk, roneB_of hrk]
      refine e.st.both a0 a1 b0 b1 (fun hu => ?_) (fun hu => ?_) lA lB
      · have g := (e.st.un _ a0 a1 hu).2
        rw [roneA_un hc (by rw [g]; exact hu), g]
      · have g := (e.st.un _ b0 b1 hu).2
        rw [roneB_un hc (by rw [g]; exact hu), g]
    | false => exact e.st
theorem turn_one (h : Sub l m s φ) (ha : Asked l s) {q q' : List GRow × List GStill} (e : Emb l m s φ q q') {j : Nat} (hj : j < l.length) (hn : ∀ i, i < m.length → φ i ≠ j) : Emb l m s φ (turn1 q j) q' := by
  obtain ⟨_, a0, a1, b0, b1, _⟩ := ha.fit j hj
  have k1 := turn1_keeps q j
  have qA : (getR q.1 j).A = (getR l j).A := (e.keep _).1
  have qB : (getR q.1 j).B = (getR l j).B := (e.keep _).2.1
  refine ⟨(turn1_len q j).1.trans e.len, e.len', fun k => SameAB.trans (k1 k) (e.keep k), e.keep', fun k hk => ?_, ?_⟩
  · have rows : ∀ y : GRow, getR (q.1.set j y) (φ k) = ofTo (getR q'.1 k) (getR l (φ k)).Of := fun y => by
      rw [getR_set, if_neg (fun g => hn k hk g.1.symm)]
      exact e.row k hk
    rw [turn1_eq]
    cases hc : rok (endsOf q.1 j) (getS q.2 (getR q.1 j).A) (getS q.2 (getR q.1 j).B) <;> exact rows _
  · rw [turn1_eq, qA, qB]
    cases hc : rok (endsOf q.1 j) (getS q.2 (getR l j).A) (getS q.2 (getR l j).B) with
    | true =>
      rw [cond_true]
      refine e.st.one a0 a1 b0 b1 (fun hu => ?_) (fun hu => ?_) (any_row hj (ofAt_A _)) (any_row hj (ofAt_B _)) (h.apart j hj hn _ a0 a1 (ofAt_A _)) (h.apart j hj hn _ b0 b1 (ofAt_B _))
      · have g := (e.st.un _ a0 a1 hu).1
        rw [roneA_un hc (by rw [g]; exact hu), g]
      · have g := (e.st.un _ b0 b1 hu).1
        rw [roneB_un hc (by rw [g]; exact hu), g]
    | false => exact e.st
theorem round_sub (h : Sub l m s φ) (ha : Asked l s) (hb : Asked m s) {q q' : List GRow × List GStill} (e : Emb l m s φ q q') : Emb l m s φ (round1 q) (round1 q') := by
  unfold round1
  rw [e.len, e.len']
  exact fold_sub (R := Emb l m s φ) h.mono h.lt (fun t t' i hi e => turn_both h ha hb e hi) (fun t t' j hj hn e => turn_one h ha e hj hn) e
theorem sub_solved (h : Sub l m s φ) (ha : Asked l s) (hb : Asked m s) (n : Nat) : Emb l m s φ (solved l s n) (solved m s n) := by
  unfold solved rounds
  have z : Emb l m s φ (l, warmAll l s) (m, warmAll m s) := ⟨rfl, rfl, fun _ => ⟨rfl, rfl, rfl⟩, fun _ => ⟨rfl, rfl, rfl⟩, h.row, warm_sub h ha hb⟩
  have main : ∀ (L : List Nat) (q q' : List GRow × List GStill), Emb l m s φ q q' → Emb l m s φ (L.foldl (fun q _ => round1 q) q) (L.foldl (fun q _ => round1 q) q') := by
    intro L
    induction L with
    | nil => intro q q' e; exact e
    | cons i L ih => intro q q' e; exact ih _ _ (round_sub h ha hb e)
  exact main _ _ _ z
end
end Go.SX

/- What the laws of solving ask of themselves: awake. No statement of the seat is proved here. -/
namespace Go.SX
open Go.Proofs
set_option maxRecDepth 20000
def st1 : GStill := ⟨4607182418800017408, 4602678819172646912, ⟨0, 13835058055282163712⟩, 0⟩
def sts : List GStill := [still0, st1]
def rws : List GRow := [rw86 0 1]
def x99 : dens [.l .row, .l .still] := (rws, sts, ())
def x37 : dens [.l .row, .l .i64] := ([rw86 0 1, rw86 2 3, rw86 3 0], [3], ())
def x35 : dens [.l .row, .l .row, .l .still] := (rws, rws, sts, ())
noncomputable def c37x : FC G := FC.at [.l .row, .l .i64] x37 (.tuple [.own 0 .row 2, .own 1 .i64 2, .int .i64 0]) [.rows .row [rw86 2 3, rw86 3 0], .rows .i64 [1, 2]]
noncomputable def L37x : Ctr := (37, c37x) :: L102
theorem L37xok : AllOk L37x := .cons (at_ok okr37 run37_at) L102ok
/-! ### held -/
def h99o : LH G := ⟨[1, 5, 13, 14, 15], [], [12]⟩
def h99i : LH G := ⟨[1, 5, 13, 14, 15, 23, 24], [], [12]⟩
def v99 (i : Int) : List (RV G) := [.rslice .still sts, .own 12 .bool 2, .rslice .row rws, .int .i64 1, .int .i64 i]
noncomputable def lp99 : List (Nat × LC G) := [(3, lcOf h99o (v99 0) [.rows .bool [false, false]] fun K => K (.exit 0) (v99 1) [.rows .bool [false, true]]), (6, ⟨h99i, iter (EV L37x []) h99i (lpBody Try.f99 1) 4⟩)]
noncomputable def run99 (x : dens [.l .row, .l .still]) (K : RV G → List (Blk G) → List (Blk G) → Ans G) : Ans G := xfn (EV L37x lp99) Try.f99 [] (encs [.l .row, .l .still] x) [] K
theorem okr99 : FcOk Try.prog 99 (FC.rn [.l .row, .l .still] run99) := rn_ok L37xok Try.func99 (by kernel_rfl) lp99 (lps2 (i := 3) (j := 6) (by kernel_rfl) rfl (lcOf_ok (by kernel_rfl) fun K => ⟨3, by kernel_rfl⟩) rfl (lpIter _ _ _ (by kernel_rfl) (by kernel_rfl))) (by kernel_rfl) fun x K o h => h
theorem run99_at (K) : run99 x99 K = K (.own 0 .bool 2) [] [.rows .bool [false, true]] :=
  (show run99 x99 K = gate (v99 0 = v99 0 ∧ ([.rows .bool [false, false]] : List (Blk G)) = [.rows .bool [false, false]]) (K (.own 0 .bool 2) [] [.rows .bool [false, true]]) from by kernel_rfl).trans (gate_pos ⟨rfl, rfl⟩ _)
noncomputable def c99x : FC G := FC.at [.l .row, .l .still] x99 (.own 0 .bool 2) [.rows .bool [false, true]]
noncomputable def L99x : Ctr := (99, c99x) :: L37x
theorem L99xok : AllOk L99x := .cons (at_ok okr99 run99_at) L37xok
/-! ### Apart -/
def h35a : LH G := ⟨[0, 1, 2, 6, 7, 17, 18], [], []⟩
def h35b : LH G := ⟨[11, 12, 13, 35, 36], [], [4126, 4129]⟩
noncomputable def lp35 : List (Nat × LC G) := [(2, ⟨h35a, iter (EV L99x []) h35a (lpBody Try.f35 0) 4⟩), (11, ⟨h35b, iter (EV L99x []) h35b (lpBody Try.f35 1) 4⟩)]
noncomputable def run35 (x : dens [.l .row, .l .row, .l .still]) (K : RV G → List (Blk G) → List (Blk G) → Ans G) : Ans G := xfn (EV L99x lp35) Try.f35 [] (encs [.l .row, .l .row, .l .still] x) [] K
theorem okr35 : FcOk Try.prog 35 (FC.rn [.l .row, .l .row, .l .still] run35) := rn_ok L99xok Try.func35 (by kernel_rfl) lp35 (lps2 (i := 2) (j := 11) (by kernel_rfl) rfl (lpIter _ _ _ (by kernel_rfl) (by kernel_rfl)) rfl (lpIter _ _ _ (by kernel_rfl) (by kernel_rfl))) (by kernel_rfl) fun x K o h => h
theorem run35_at (K) : run35 x35 K = K (.tuple [.bool false, .int .i64 0]) [] [] :=
  (show run35 x35 K = gate (x99 = x99) (gate (x99 = x99) (K (.tuple [.bool false, .int .i64 0]) [] [])) from by kernel_rfl).trans (by rw [gate_pos rfl, gate_pos rfl])
noncomputable def c35x : FC G := FC.at [.l .row, .l .row, .l .still] x35 (.tuple [.bool false, .int .i64 0]) []
noncomputable def L35x : Ctr := (35, c35x) :: L99x
theorem L35xok : AllOk L35x := .cons (at_ok okr35 run35_at) L99xok
/-! ### awake -/
theorem ok22 : FcOk Try.prog 22 (FC.sp [] fun _ => .bool true) := sp0 L35xok Try.func22 (by kernel_rfl) (by kernel_rfl) (by kernel_rfl) fun _ K => (show xfn (EV L35x []) Try.f22 [] [] [] K = gate (x35 = x35) (gate (x37 = x37) (K (.bool true) [] [])) from by kernel_rfl).trans (by rw [gate_pos rfl, gate_pos rfl])
end Go.SX

/- held, of any rows and stills. No statement of the seat is proved here. -/
namespace Go.SX
open Go.Proofs
set_option maxRecDepth 20000
/-- Which stills the rows hold that may move. -/
def heldL (l : List GRow) (b : List GStill) : List Bool := (List.range b.length).map fun (k : Nat) => l.any (ofAt (k : Int)) && smoved (getS b (k : Int))
def one99 (b : List GStill) (h : List Bool) (a : Int) (next : List Bool → Ans G) : Ans G :=
  (getI b a).bind fun s => bif flt 0 s.Mass then atN h.length h a (fun _ => next (h.set a.toNat true)) else (getI b a).bind fun s2 => atN h.length h a fun _ => next (h.set a.toNat (false || flt 0 s2.Inertia))
def V99 (l : List GRow) (b : List GStill) (h : List Bool) (i : Int) : List (RV G) := [.rslice .still b, .own 12 .bool h.length, .rslice .row l, .int .i64 l.length, .int .i64 i]
def BH (h : List Bool) : List (Blk G) := [.rows .bool h]
def no (b : List GStill) : List Bool := List.replicate b.length false
noncomputable def E99 (l : List GRow) (b : List GStill) : List (Nat × LC G) := [(3, lcOf h99o (V99 l b (no b) 0) (BH (no b)) fun K => K (.exit 0) (V99 l b (heldL l b) l.length) (BH (heldL l b))), (6, ⟨h99i, iter (EV LHas []) h99i (lpBody Try.f99 1) 4⟩)]
theorem step99 (l : List GRow) (b : List GStill) (h : List Bool) (n : Nat) (i : Int) (K) : iter (EV LHas (E99 l b)) h99o (lpBody Try.f99 0) (n + 1) (V99 l b h i) (BH h) K = bif decide (i < (l.length : Int)) then
    (getI l i).bind fun x => one99 b h x.A fun h1 => one99 b h1 x.B fun h2 => iter (EV LHas (E99 l b)) h99o (lpBody Try.f99 0) n (V99 l b h2 (IntKind.i64.wrap (i + 1))) (BH h2) K
  else K (.exit 0) (V99 l b h i) (BH h) := by kernel_rfl
theorem x99g (l : List GRow) (b : List GStill) (K) : xfn (EV LHas (E99 l b)) Try.f99 [] (encs [.l .row, .l .still] (l, b, ())) [] K =
    bif decide (0 ≤ (b.length : Int) ∧ (b.length : Int) * ((1 : Nat) : Int) ≤ 2 ^ 47 ∧ 0 < 1) then gate (V99 l b (no b) 0 = V99 l b (no b) 0 ∧ BH (no b) = BH (no b)) (K (.own 0 .bool (heldL l b).length) [] [.rows .bool (heldL l b)]) else none := by kernel_rfl
theorem one_at {b : List GStill} {h : List Bool} {a : Int} (hl : h.length = b.length) (a0 : 0 ≤ a) (a1 : a < (b.length : Int)) (next) : one99 b h a next = next (h.set a.toNat (smoved (getS b a))) := by
  unfold one99 smoved
  rw [getI_S a0 a1, Option.bind_some]
  cases flt 0 (getS b a).Mass with
  | true => exact atN_any a0 (by omega) (Nat.le_refl _)
  | false => exact atN_any a0 (by omega) (Nat.le_refl _)
def hold1 (l : List GRow) (b : List GStill) (h : List Bool) (i : Nat) : List Bool := (h.set (getR l i).A.toNat (smoved (getS b (getR l i).A))).set (getR l i).B.toNat (smoved (getS b (getR l i).B))
structure Held (l : List GRow) (b : List GStill) (i : Nat) (h : List Bool) : Prop where
  len : h.length = b.length
  is : ∀ k, k < b.length → h[k]? = some ((l.take i).any (ofAt k) && smoved (getS b k))
theorem Held.zero (l : List GRow) (b : List GStill) : Held l b 0 (no b) := ⟨by simp [no], fun k hk => by simp [no, hk]⟩
theorem Held.step {l : List GRow} {b : List GStill} {i : Nat} {h : List Bool} (hh : Held l b i h) (hf : Fit l b.length) (hi : i < l.length) : Held l b (i + 1) (hold1 l b h i) := by
  obtain ⟨_, a0, a1, b0, b1, _⟩ := hf i hi
  refine ⟨by simp [hold1, hh.len], fun k hk => ?_⟩
  have ht : l.take (i + 1) = l.take i ++ [getR l i] := by rw [List.take_add_one, getR_at hi]; rfl
  rw [ht, List.any_append]
  have hk' : k < h.length := by rw [hh.len]; exact hk
  unfold hold1
  rw [List.getElem?_set, List.getElem?_set, hh.is k hk]
  simp only [List.length_set, List.any_cons, List.any_nil, Bool.or_false]
  have e1 : ((getR l i).A == (k : Int)) = decide ((getR l i).A.toNat = k) := by rw [Bool.eq_iff_iff]; simp only [beq_iff_eq, decide_eq_true_eq]; omega
  have e2 : ((getR l i).B == (k : Int)) = decide ((getR l i).B.toNat = k) := by rw [Bool.eq_iff_iff]; simp only [beq_iff_eq, decide_eq_true_eq]; omega
  have g1 : (getR l i).A.toNat = k → getS b (getR l i).A = getS b (k : Int) := fun e => by unfold getS; rw [e]; rfl
  have g2 : (getR l i).B.toNat = k → getS b (getR l i).B = getS b (k : Int) := fun e => by unfold getS; rw [e]; rfl
  unfold ofAt
  rw [e1, e2]
  by_cases h2 : (getR l i).B.toNat = k
  · rw [if_pos h2, if_pos (by omega), g2 h2, decide_eq_true h2]; simp
  · rw [if_neg h2]
    by_cases h1 : (getR l i).A.toNat = k
    · rw [if_pos h1, if_pos (by omega), g1 h1, decide_eq_true h1]; simp
    · rw [if_neg h1, decide_eq_false h1, decide_eq_false h2]; simp
theorem Held.all {l : List GRow} {b : List GStill} {h : List Bool} (hh : Held l b l.length h) : h = heldL l b := by
  apply List.ext_getElem?
  intro k
  by_cases hk : k < b.length
  · rw [hh.is k hk, List.take_length]
    simp [heldL, hk]
  · rw [List.getElem?_eq_none (by rw [hh.len]; omega), List.getElem?_eq_none (by simp [heldL]; omega)]
theorem held_fold {l : List GRow} {b : List GStill} (hf : Fit l b.length) : (List.range l.length).foldl (hold1 l b) (no b) = heldL l b := by
  have main : ∀ d i h, i + d = l.length → Held l b i h → (List.range' i d).foldl (hold1 l b) h = heldL l b := by
    intro d
    induction d with
    | zero => intro i h hi hh; have : i = l.length := by omega
              subst this; exact hh.all
    | succ d ih => intro i h hi hh; rw [List.range'_succ, List.foldl_cons]; exact ih (i + 1) _ (by omega) (hh.step hf (by omega))
  rw [List.range_eq_range']
  exact main _ 0 _ (by omega) (Held.zero l b)
theorem lp99g (l : List GRow) (b : List GStill) (hl : l.length < 9223372036854775808) (hf : Fit l b.length) : LpOk (EV LHas (E99 l b)) [] (lpBody Try.f99 0) (lcOf h99o (V99 l b (no b) 0) (BH (no b)) fun K => K (.exit 0) (V99 l b (heldL l b) l.length) (BH (heldL l b))) :=
  lcOf_ok (by kernel_rfl) fun K => ⟨_, (fold_loop (N := l.length) (g := hold1 l b) (F := fun k i (h : List Bool) => iter (EV LHas (E99 l b)) h99o (lpBody Try.f99 0) k (V99 l b h i) (BH h) K) (X := fun (h : List Bool) => K (.exit 0) (V99 l b h l.length) (BH h)) (s0 := no b) (fun _ h => h.length = b.length) (by simp [no])
    (fun k i h hi hh => by
      obtain ⟨_, a0, a1, b0, b1, _⟩ := hf i hi
      rw [step99, decide_eq_true (by omega), cond_true, getI_R hi, Option.bind_some, one_at hh a0 a1, one_at (by simp [hh]) b0 b1, wrap_succ (by omega)]
      rfl)
    (fun i h _ hh => by simp [hold1, hh]) (fun k h _ => by rw [step99, decide_eq_false (by omega)]; rfl)).trans (by rw [held_fold hf])⟩
def HeldP (l : List GRow) (b : List GStill) : Prop := Fit l b.length ∧ b.length ≤ 1024
noncomputable def c99 : FC G := FC.rn [.l .row, .l .still] fun (l, b, _) K => gate (HeldP l b) (K (.own 0 .bool b.length) [] [.rows .bool (heldL l b)])
theorem ok99 : FcOk Try.prog 99 c99 := rn_lp LHasok Try.func99 (by kernel_rfl) (by kernel_rfl) (fun (l, b, _) K o h => ⟨_, _, _, (gate_some h).2⟩) fun (l, b, _) ⟨hx, _, _⟩ => by
  by_cases hp : HeldP l b
  · refine ⟨E99 l b, lps2 (i := 3) (j := 6) (by kernel_rfl) rfl (lp99g l b hx hp.1) rfl (lpIter _ _ _ (by kernel_rfl) (by kernel_rfl)), fun K o h => (x99g l b K).trans ?_⟩
    have hb : (b : List GStill).length ≤ 1024 := hp.2
    rw [decide_eq_true (by omega), cond_true, gate_pos ⟨rfl, rfl⟩, show (heldL l b).length = (b : List GStill).length by simp [heldL]]
    exact (gate_some h).2
  · exact ⟨[], LpsOk.of _ fun _ _ _ _ h => (by cases h), fun K o h => absurd (gate_some h).1 hp⟩
noncomputable def L99 : Ctr := (99, c99) :: LHas
theorem L99ok : AllOk L99 := .cons ok99 LHasok
end Go.SX

/- Apart, the program's and the reference's. No statement of the seat is proved here. -/
namespace Go.SX
open Go.Proofs
set_option maxRecDepth 20000
def both (l c : List GRow) (b : List GStill) (k : Nat) : Bool := (smoved (getS b (k : Int)) && l.any (ofAt (k : Int))) && c.any (ofAt (k : Int))
def rapart (l c : List GRow) (b : List GStill) : RV G := bif sasked l b != 0 then .tuple [.bool false, .int .i64 (sasked l b)] else bif sasked c b != 0 then .tuple [.bool false, .int .i64 (sasked c b)] else .tuple [.bool (!(List.range b.length).any (both l c b)), .int .i64 0]
theorem rapart_K (l c : List GRow) (b : List GStill) (K : RV G → List (Blk G) → List (Blk G) → Ans G) : K (rapart l c b) [] [] = bif sasked l b != 0 then K (.tuple [.bool false, .int .i64 (sasked l b)]) [] [] else bif sasked c b != 0 then K (.tuple [.bool false, .int .i64 (sasked c b)]) [] [] else
    bif (List.range b.length).any (both l c b) then K (.tuple [.bool false, .int .i64 0]) [] [] else K (.tuple [.bool true, .int .i64 0]) [] [] := by
  unfold rapart
  cases sasked l b != 0 <;> cases sasked c b != 0 <;> cases (List.range b.length).any (both l c b) <;> rfl
/-! ### the reference's -/
def hd36 : LH G := ⟨[0, 1, 2, 6, 7, 9], [], []⟩
def W36 (l c : List GRow) (b : List GStill) (i : Int) : List (RV G) := [.rslice .row l, .rslice .row c, .rslice .still b, .bool false, .int .i64 0, .int .i64 i]
def OUT36 (l c : List GRow) (b : List GStill) (K : XE → List (RV G) → List (Blk G) → Ans G) : Ans G := bif (List.range b.length).any (both l c b) then K .ret (W36 l c b ((List.range b.length).findIdx (both l c b) : Nat)) [] else K (.exit 0) (W36 l c b (b.length : Nat)) []
noncomputable def E36 (l c : List GRow) (b : List GStill) : List (Nat × LC G) := [(8, lcOf hd36 (W36 l c b 0) [] (OUT36 l c b))]
theorem step36 (l c : List GRow) (b : List GStill) (n : Nat) (i : Int) (K) : iter (EV L99 (E36 l c b)) hd36 (lpBody Try.f36 0) (n + 1) (W36 l c b i) [] K = bif decide (i < (b.length : Int)) then (getI b i).bind fun s =>
    bif ((smoved s && l.any (ofAt i)) && c.any (ofAt i)) then K .ret (W36 l c b i) [] else iter (EV L99 (E36 l c b)) hd36 (lpBody Try.f36 0) n (W36 l c b (IntKind.i64.wrap (i + 1))) [] K
  else K (.exit 0) (W36 l c b i) [] := by kernel_rfl
theorem getI_S' {b : List GStill} {k : Nat} (h : k < b.length) : getI b (k : Int) = some (getS b (k : Int)) := getI_S (by omega) (by omega)
theorem lp36 (l c : List GRow) (b : List GStill) (hx : b.length < 9223372036854775808) : LpOk (EV L99 (E36 l c b)) [] (lpBody Try.f36 0) (lcOf hd36 (W36 l c b 0) [] (OUT36 l c b)) := lcOf_ok (by kernel_rfl) fun K => ⟨_, idx_loop (N := b.length) (p := both l c b) (F := fun n i => iter (EV L99 (E36 l c b)) hd36 (lpBody Try.f36 0) n (W36 l c b i) [] K)
  (R := fun i => K .ret (W36 l c b i) []) (X := fun i => K (.exit 0) (W36 l c b i) [])
  (fun n i hi => by rw [step36, decide_eq_true (by omega), cond_true, getI_S' hi, Option.bind_some, wrap_succ (by omega)]; rfl) (fun n => by rw [step36, decide_eq_false (by omega)]; rfl)⟩
def c36 : FC G := FC.sp [.l .row, .l .row, .l .still] fun (l, c, b, _) => rapart l c b
theorem x36 (l c : List GRow) (b : List GStill) (K) : xfn (EV L99 (E36 l c b)) Try.f36 [] (encs [.l .row, .l .row, .l .still] (l, c, b, ())) [] K = K (rapart l c b) [] [] :=
  (show _ = (bif sasked l b != 0 then K (.tuple [.bool false, .int .i64 (sasked l b)]) [] [] else bif sasked c b != 0 then K (.tuple [.bool false, .int .i64 (sasked c b)]) [] [] else gate (W36 l c b 0 = W36 l c b 0 ∧ ([] : List (Blk G)) = [])
    (bif (List.range b.length).any (both l c b) then K (.tuple [.bool false, .int .i64 0]) [] [] else K (.tuple [.bool true, .int .i64 0]) [] [])) from by kernel_rfl).trans (by rw [gate_pos ⟨rfl, rfl⟩, rapart_K l c b K])
theorem ok36 : FcOk Try.prog 36 c36 := sp_lp L99ok Try.func36 (by kernel_rfl) (by kernel_rfl) fun (l, c, b, _) ⟨_, _, hx, _⟩ => ⟨E36 l c b, lps1 (i := 8) (by kernel_rfl) rfl (lp36 l c b hx), fun K => x36 l c b K⟩
noncomputable def L36 : Ctr := (36, c36) :: L99
theorem L36ok : AllOk L36 := .cons ok36 L99ok
/-! ### the program's -/
def W35 (b : List GStill) (h g : List Bool) (v : Bool) (i : Int) : List (RV G) := [.own 4126 .bool h.length, .own 4129 .bool g.length, .bool v, .int .i64 b.length, .int .i64 i]
def B35 (h g : List Bool) : List (Blk G) := [.rows .bool h, .rows .bool g]
def OUT35 (l c : List GRow) (b : List GStill) (K : XE → List (RV G) → List (Blk G) → Ans G) : Ans G :=
  bif (List.range b.length).any (both l c b) then K (.exit 2) (W35 b (heldL l b) (heldL c b) false ((List.range b.length).findIdx (both l c b) : Nat)) (B35 (heldL l b) (heldL c b)) else K (.exit 2) (W35 b (heldL l b) (heldL c b) true (b.length : Nat)) (B35 (heldL l b) (heldL c b))
noncomputable def E35 (l c : List GRow) (b : List GStill) : List (Nat × LC G) := [(2, ⟨h35a, iter (EV L36 []) h35a (lpBody Try.f35 0) 4⟩), (11, lcOf h35b (W35 b (heldL l b) (heldL c b) true 0) (B35 (heldL l b) (heldL c b)) (OUT35 l c b))]
theorem step35 (l c : List GRow) (b : List GStill) (h g : List Bool) (n : Nat) (i : Int) (K) : iter (EV L36 (E35 l c b)) h35b (lpBody Try.f35 1) (n + 1) (W35 b h g true i) (B35 h g) K = bif decide (i < (b.length : Int)) then
    atN h.length h i fun x => bif x then (atN g.length g i fun y => bif (true && y) then K (.exit 2) (W35 b h g false i) (B35 h g) else iter (EV L36 (E35 l c b)) h35b (lpBody Try.f35 1) n (W35 b h g true (IntKind.i64.wrap (i + 1))) (B35 h g) K) else iter (EV L36 (E35 l c b)) h35b (lpBody Try.f35 1) n (W35 b h g true (IntKind.i64.wrap (i + 1))) (B35 h g) K
  else K (.exit 2) (W35 b h g true i) (B35 h g) := by kernel_rfl
theorem heldL_len (l : List GRow) (b : List GStill) : (heldL l b).length = b.length := by simp [heldL]
theorem heldL_at {l : List GRow} {b : List GStill} {k : Nat} (h : k < b.length) : (heldL l b)[((k : Nat) : Int).toNat]? = some (l.any (ofAt (k : Int)) && smoved (getS b (k : Int))) := by simp [heldL, h]
theorem lp35b (l c : List GRow) (b : List GStill) (hx : b.length < 9223372036854775808) : LpOk (EV L36 (E35 l c b)) [] (lpBody Try.f35 1) (lcOf h35b (W35 b (heldL l b) (heldL c b) true 0) (B35 (heldL l b) (heldL c b)) (OUT35 l c b)) := lcOf_ok (by kernel_rfl) fun K => ⟨_, idx_loop (N := b.length) (p := both l c b) (F := fun n i => iter (EV L36 (E35 l c b)) h35b (lpBody Try.f35 1) n (W35 b (heldL l b) (heldL c b) true i) (B35 (heldL l b) (heldL c b)) K)
  (R := fun i => K (.exit 2) (W35 b (heldL l b) (heldL c b) false i) (B35 (heldL l b) (heldL c b))) (X := fun i => K (.exit 2) (W35 b (heldL l b) (heldL c b) true i) (B35 (heldL l b) (heldL c b)))
  (fun n i hi => by
    rw [step35, decide_eq_true (by omega), cond_true, atN_at (by omega) (by rw [heldL_len]; omega) (heldL_at hi), atN_at (by omega) (by rw [heldL_len]; omega) (heldL_at hi), wrap_succ (by omega)]
    unfold both
    cases l.any (ofAt (i : Int)) <;> cases c.any (ofAt (i : Int)) <;> cases smoved (getS b (i : Int)) <;> rfl)
  (fun n => by rw [step35, decide_eq_false (by omega)]; rfl)⟩
def c35 : FC G := FC.sp [.l .row, .l .row, .l .still] fun (l, c, b, _) => rapart l c b
theorem x35g (l c : List GRow) (b : List GStill) (K) : xfn (EV L36 (E35 l c b)) Try.f35 [] (encs [.l .row, .l .row, .l .still] (l, c, b, ())) [] K =
    bif sasked l b != 0 then K (.tuple [.bool false, .int .i64 (sasked l b)]) [] [] else bif sasked c b != 0 then K (.tuple [.bool false, .int .i64 (sasked c b)]) [] [] else gate (HeldP l b) (gate (HeldP c b) (gate (W35 b (heldL l b) (heldL c b) true 0 = W35 b (heldL l b) (heldL c b) true 0 ∧ B35 (heldL l b) (heldL c b) = B35 (heldL l b) (heldL c b))
    (bif (List.range b.length).any (both l c b) then K (.tuple [.bool false, .int .i64 0]) [] [] else K (.tuple [.bool true, .int .i64 0]) [] []))) := by kernel_rfl
theorem asked_held {l : List GRow} {b : List GStill} (h : (sasked l b != 0) = false) : HeldP l b := ⟨(sasked_ok h).fit, (sasked_ok h).bodies⟩
theorem ok35 : FcOk Try.prog 35 c35 := sp_lp L36ok Try.func35 (by kernel_rfl) (by kernel_rfl) fun (l, c, b, _) ⟨_, _, hx, _⟩ => ⟨E35 l c b, lps2 (i := 2) (j := 11) (by kernel_rfl) rfl (lpIter _ _ _ (by kernel_rfl) (by kernel_rfl)) rfl (lp35b l c b hx), fun K => (x35g l c b K).trans (by
  show _ = K (rapart l c b) [] []
  rw [rapart_K l c b K]
  cases h1 : (sasked (l : List GRow) (b : List GStill) != 0) with
  | true => rfl
  | false => cases h2 : (sasked (c : List GRow) (b : List GStill) != 0) with
    | true => rfl
    | false => exact (gate_pos (asked_held h1) _).trans ((gate_pos (asked_held h2) _).trans (gate_pos ⟨rfl, rfl⟩ _)))⟩
noncomputable def L35 : Ctr := (35, c35) :: L36
theorem L35ok : AllOk L35 := .cons ok35 L36ok
end Go.SX

/- Only: its loops. No statement of the seat is proved here. -/
namespace Go.SX
open Go.Proofs
set_option maxRecDepth 20000
def has (s : List Int) (a : Int) : Bool := s.any (fun y => a == y)
def inS (s : List Int) (r : GRow) : Bool := has s r.A || has s r.B
def W37a (l : List GRow) (s : List Int) (e i : Int) : List (RV G) := [.rslice .row l, .rslice .i64 s, .nilslice, .nilslice, .int .i64 e, .rslice .row l, .int .i64 l.length, .int .i64 i]
theorem step37a (lp : List (Nat × LC G)) (l : List GRow) (s : List Int) (n : Nat) (i : Int) (K) : iter (EV L35 lp) h37a (lpBody Try.f37 0) (n + 1) (W37a l s 0 i) [] K = bif decide (i < (l.length : Int)) then (getI l i).bind fun r =>
    bif rcheck r l.length 1024 != 0 then K .ret (W37a l s (rcheck r l.length 1024) i) [] else iter (EV L35 lp) h37a (lpBody Try.f37 0) n (W37a l s 0 (IntKind.i64.wrap (i + 1))) [] K
  else K (.exit 0) (W37a l s 0 i) [] := by kernel_rfl
def W37b (l : List GRow) (s p : List Int) (R : List GRow) (I : List Int) (i : Int) : List (RV G) := [.rslice .i64 s, .own 41 .i64 p.length, .rslice .row l, .int .i64 l.length, .int .i64 i, .own 900 .row R.length, .own 901 .i64 I.length]
def B37b (p : List Int) (R : List GRow) (I : List Int) : List (Blk G) := [.rows .i64 p, .rows .row R, .rows .i64 I]
theorem step37b (lp : List (Nat × LC G)) (l : List GRow) (s p : List Int) (R : List GRow) (I : List Int) (n : Nat) (i : Int) (K) : iter (EV L35 lp) h37b (lpBody Try.f37 1) (n + 1) (W37b l s p R I i) (B37b p R I) K = bif decide (i < (l.length : Int)) then (getI l i).bind fun x =>
    bif inS s x then bif decide ((R ++ [x]).length * 112 ≤ 2 ^ 47) then bif decide ((I ++ [i]).length * 8 ≤ 2 ^ 47) then
      atN p.length p i fun _ => iter (EV L35 lp) h37b (lpBody Try.f37 1) n (W37b l s (p.set i.toNat ((R ++ [x]).length : Int)) (R ++ [x]) (I ++ [i]) (IntKind.i64.wrap (i + 1))) (B37b (p.set i.toNat ((R ++ [x]).length : Int)) (R ++ [x]) (I ++ [i])) K
    else none else none
    else iter (EV L35 lp) h37b (lpBody Try.f37 1) n (W37b l s p R I (IntKind.i64.wrap (i + 1))) (B37b p R I) K
  else K (.exit 2) (W37b l s p R I i) (B37b p R I) := by kernel_rfl
def W37c (p : List Int) (R : List GRow) (I : List Int) (N j : Int) : List (RV G) := [.own 900 .row R.length, .own 901 .i64 I.length, .own 41 .i64 p.length, .int .i64 N, .int .i64 j]
def B37c (p : List Int) (R : List GRow) (I : List Int) : List (Blk G) := [.rows .row R, .rows .i64 I, .rows .i64 p]
theorem step37c (lp : List (Nat × LC G)) (p : List Int) (R : List GRow) (I : List Int) (N : Int) (n : Nat) (j : Int) (K) : iter (EV L35 lp) h37c (lpBody Try.f37 2) (n + 1) (W37c p R I N j) (B37c p R I) K = bif decide (j < N) then atN R.length R j fun x =>
    bif decide (x.Of ≥ 0) then atN p.length p x.Of fun v => atN R.length R j fun y => iter (EV L35 lp) h37c (lpBody Try.f37 2) n (W37c p (R.set j.toNat { y with Of := IntKind.i64.wrap (v - 1) }) I N (IntKind.i64.wrap (j + 1))) (B37c p (R.set j.toNat { y with Of := IntKind.i64.wrap (v - 1) }) I) K
    else iter (EV L35 lp) h37c (lpBody Try.f37 2) n (W37c p R I N (IntKind.i64.wrap (j + 1))) (B37c p R I) K
  else K (.exit 4) (W37c p R I N j) (B37c p R I) := by kernel_rfl
end Go.SX

/- The reference's Only: its loops. No statement of the seat is proved here. -/
namespace Go.SX
open Go.Proofs
set_option maxRecDepth 20000
def h38a : LH G := ⟨[0, 1, 4, 5, 6, 7], [], []⟩
def h38b : LH G := ⟨[0, 1, 10], [(8, .row, 900), (9, .i64, 901)], []⟩
def h38c : LH G := ⟨[0, 1, 8, 9, 10, 11, 12], [], [900, 901]⟩
def h38d : LH G := ⟨[8, 9, 13], [], [900, 901]⟩
def h38e : LH G := ⟨[8, 9, 13, 14, 15], [], [900, 901]⟩
def W38a (l : List GRow) (s : List Int) (e i : Int) : List (RV G) := [.rslice .row l, .rslice .i64 s, .nilslice, .nilslice, .int .i64 e, .int .i64 i]
theorem step38a (lp : List (Nat × LC G)) (l : List GRow) (s : List Int) (n : Nat) (i : Int) (K) : iter (EV L35 lp) h38a (lpBody Try.f38 0) (n + 1) (W38a l s 0 i) [] K = bif decide (i < (l.length : Int)) then (getI l i).bind fun r =>
    bif rcheck r l.length 1024 != 0 then K .ret (W38a l s 200 i) [] else iter (EV L35 lp) h38a (lpBody Try.f38 0) n (W38a l s 0 (IntKind.i64.wrap (i + 1))) [] K
  else K (.exit 0) (W38a l s 0 i) [] := by kernel_rfl
def W38c (l : List GRow) (s : List Int) (R : List GRow) (I : List Int) (i : Int) (v : Bool) (k : Int) : List (RV G) := [.rslice .row l, .rslice .i64 s, .own 900 .row R.length, .own 901 .i64 I.length, .int .i64 i, .bool v, .int .i64 k]
def B38 (R : List GRow) (I : List Int) : List (Blk G) := [.rows .row R, .rows .i64 I]
theorem step38c (lp : List (Nat × LC G)) (l : List GRow) (s : List Int) (R : List GRow) (I : List Int) (i : Int) (v : Bool) (n : Nat) (k : Int) (K) : iter (EV L35 lp) h38c (lpBody Try.f38 2) (n + 1) (W38c l s R I i v k) (B38 R I) K = bif decide (k < (s.length : Int)) then
    bif v then iter (EV L35 lp) h38c (lpBody Try.f38 2) n (W38c l s R I i true (IntKind.i64.wrap (k + 1))) (B38 R I) K
    else (getI l i).bind fun x => (getI s k).bind fun y => bif (false || (x.A == y)) then iter (EV L35 lp) h38c (lpBody Try.f38 2) n (W38c l s R I i true (IntKind.i64.wrap (k + 1))) (B38 R I) K
      else (getI l i).bind fun x2 => (getI s k).bind fun y2 => iter (EV L35 lp) h38c (lpBody Try.f38 2) n (W38c l s R I i (false || (x2.B == y2)) (IntKind.i64.wrap (k + 1))) (B38 R I) K
  else K (.exit 4) (W38c l s R I i v k) (B38 R I) := by kernel_rfl
def W38e (R : List GRow) (I : List Int) (j a k : Int) : List (RV G) := [.own 900 .row R.length, .own 901 .i64 I.length, .int .i64 j, .int .i64 a, .int .i64 k]
theorem step38e (lp : List (Nat × LC G)) (R : List GRow) (I : List Int) (j a : Int) (n : Nat) (k : Int) (K) : iter (EV L35 lp) h38e (lpBody Try.f38 4) (n + 1) (W38e R I j a k) (B38 R I) K = bif decide (k < (I.length : Int)) then
    atN I.length I k fun v => atN R.length R j fun x => bif v == x.Of then iter (EV L35 lp) h38e (lpBody Try.f38 4) n (W38e R I j k (IntKind.i64.wrap (k + 1))) (B38 R I) K else iter (EV L35 lp) h38e (lpBody Try.f38 4) n (W38e R I j a (IntKind.i64.wrap (k + 1))) (B38 R I) K
  else K (.exit 8) (W38e R I j a k) (B38 R I) := by kernel_rfl
/-! ### the inner loops, whole -/
theorem any_or (s : List Int) (x : GRow) : s.any (fun y => (x.A == y) || (x.B == y)) = inS s x := by
  unfold inS has
  induction s with
  | nil => rfl
  | cons y r ih => simp only [List.any_cons, ih]; cases x.A == y <;> cases x.B == y <;> cases r.any (fun y => x.A == y) <;> rfl
noncomputable def lc38c : LC G := ⟨h38c, fun vs bs K => match vs, bs with
  | [.rslice .row l, .rslice .i64 s, .own 900 .row a, .own 901 .i64 b, .int .i64 i, .bool v, .int .i64 k], [.rows .row R, .rows .i64 I] =>
    gate (a = R.length ∧ b = I.length ∧ v = false ∧ k = 0 ∧ 0 ≤ i ∧ i < (l.length : Int) ∧ s.length < 9223372036854775808) (K (.exit 4) (W38c l s R I i (inS s (getR l i.toNat)) s.length) (B38 R I))
  | _, _ => none⟩
def last (I : List Int) (o : Int) : Int := (List.range I.length).foldl (fun a k => bif I.getD k 0 == o then (k : Int) else a) (-1)
noncomputable def lc38e : LC G := ⟨h38e, fun vs bs K => match vs, bs with
  | [.own 900 .row a, .own 901 .i64 b, .int .i64 j, .int .i64 t, .int .i64 k], [.rows .row R, .rows .i64 I] =>
    gate (a = R.length ∧ b = I.length ∧ t = -1 ∧ k = 0 ∧ 0 ≤ j ∧ j < (R.length : Int) ∧ I.length < 9223372036854775808) (K (.exit 8) (W38e R I j (last I (getR R j.toNat).Of) I.length) (B38 R I))
  | _, _ => none⟩
theorem lp38e (lp : List (Nat × LC G)) : LpOk (EV L35 lp) [] (lpBody Try.f38 4) lc38e := lpOk_of (by kernel_rfl) fun vs bs K o h => by
  simp only [lc38e] at h
  split at h
  · rename_i a b j t k R I
    obtain ⟨⟨rfl, rfl, rfl, rfl, j0, j1, hI⟩, g⟩ := gate_some h
    exact ⟨_, (fold_loop (N := I.length) (g := fun a k => bif I.getD k 0 == (getR R j.toNat).Of then (k : Int) else a) (F := fun n k (a : Int) => iter (EV L35 lp) h38e (lpBody Try.f38 4) n (W38e R I j a k) (B38 R I) K) (X := fun (a : Int) => K (.exit 8) (W38e R I j a I.length) (B38 R I)) (s0 := -1) (fun _ _ => True) trivial
      (fun n k a hk _ => by
        have hv : I[((k : Nat) : Int).toNat]? = some (I.getD k 0) := by rw [Int.toNat_natCast, List.getD_eq_getElem?_getD, List.getElem?_eq_getElem hk]; rfl
        rw [step38e, decide_eq_true (by omega), cond_true, atN_at (by omega) (by omega) hv, atN_at j0 j1 (getR_at (by omega)), wrap_succ (by omega)]
        cases I.getD k 0 == (getR R j.toNat).Of <;> rfl)
      (fun _ _ _ _ => trivial) (fun n a _ => by rw [step38e, decide_eq_false (by omega)]; rfl)).trans g⟩
  · cases h
theorem lp38c (lp : List (Nat × LC G)) : LpOk (EV L35 lp) [] (lpBody Try.f38 2) lc38c := lpOk_of (by kernel_rfl) fun vs bs K o h => by
  simp only [lc38c] at h
  split at h
  · rename_i l s a b i v k R I
    obtain ⟨⟨rfl, rfl, rfl, rfl, i0, i1, hs⟩, g⟩ := gate_some h
    have hx : getI l i = some (getR l i.toNat) := by
      have := getI_R (l := l) (k := i.toNat) (by omega)
      rwa [Int.toNat_of_nonneg i0] at this
    exact ⟨_, (fold_loop (N := s.length) (g := fun v k => v || (((getR l i.toNat).A == s.getD k 0) || ((getR l i.toNat).B == s.getD k 0))) (F := fun n k (v : Bool) => iter (EV L35 lp) h38c (lpBody Try.f38 2) n (W38c l s R I i v k) (B38 R I) K) (X := fun (v : Bool) => K (.exit 4) (W38c l s R I i v s.length) (B38 R I)) (s0 := false) (fun _ _ => True) trivial
      (fun n k v hk _ => by
        have hv : getI s (k : Int) = some (s.getD k 0) := by unfold getI; rw [decide_eq_true (by omega), cond_true, Int.toNat_natCast, List.getD_eq_getElem?_getD, List.getElem?_eq_getElem hk]; rfl
        rw [step38c, decide_eq_true (by omega), cond_true, hx, Option.bind_some, hv, Option.bind_some, Option.bind_some, Option.bind_some, wrap_succ (by omega)]
        cases v <;> cases (getR l i.toNat).A == s.getD k 0 <;> rfl)
      (fun _ _ _ _ => trivial) (fun n v _ => by rw [step38c, decide_eq_false (by omega)]; rfl)).trans (by
        rw [show (List.range s.length).foldl (fun v k => v || (((getR l i.toNat).A == s.getD k 0) || ((getR l i.toNat).B == s.getD k 0))) false = inS s (getR l i.toNat) from ?_]
        · exact g
        · rw [← any_or]
          have main : ∀ (r : List Int) (v : Bool), (List.range r.length).foldl (fun v k => v || (((getR l i.toNat).A == r.getD k 0) || ((getR l i.toNat).B == r.getD k 0))) v = (v || r.any fun y => ((getR l i.toNat).A == y) || ((getR l i.toNat).B == y)) := by
            intro r
            induction r with
            | nil => intro v; simp
            | cons y r ih =>
              intro v
              rw [List.length_cons, List.range_succ_eq_map, List.foldl_cons, List.foldl_map]
              simp only [List.getD_cons_zero, List.getD_cons_succ, List.any_cons]
              rw [ih, Bool.or_assoc]
          rw [main, Bool.false_or])⟩
  · cases h
end Go.SX

/- Only: the outer loops, what it comes to. No statement of the seat is proved here. -/
namespace Go.SX
open Go.Proofs
set_option maxRecDepth 20000
def W38b (l : List GRow) (s : List Int) (R : List GRow) (I : List Int) (i : Int) : List (RV G) := [.rslice .row l, .rslice .i64 s, .int .i64 i, .own 900 .row R.length, .own 901 .i64 I.length]
theorem step38b (lp : List (Nat × LC G)) (l : List GRow) (s : List Int) (R : List GRow) (I : List Int) (n : Nat) (i : Int) (K) : iter (EV L35 ((15, lc38c) :: (26, lc38e) :: lp)) h38b (lpBody Try.f38 1) (n + 1) (W38b l s R I i) (B38 R I) K = bif decide (i < (l.length : Int)) then
    gate (R.length = R.length ∧ I.length = I.length ∧ false = false ∧ (0 : Int) = 0 ∧ 0 ≤ i ∧ i < (l.length : Int) ∧ s.length < 9223372036854775808)
      (bif inS s (getR l i.toNat) then (getI l i).bind fun x => bif decide ((R ++ [x]).length * 112 ≤ 2 ^ 47) then bif decide ((I ++ [i]).length * 8 ≤ 2 ^ 47) then iter (EV L35 ((15, lc38c) :: (26, lc38e) :: lp)) h38b (lpBody Try.f38 1) n (W38b l s (R ++ [x]) (I ++ [i]) (IntKind.i64.wrap (i + 1))) (B38 (R ++ [x]) (I ++ [i])) K else none else none
      else iter (EV L35 ((15, lc38c) :: (26, lc38e) :: lp)) h38b (lpBody Try.f38 1) n (W38b l s R I (IntKind.i64.wrap (i + 1))) (B38 R I) K)
  else K (.exit 2) (W38b l s R I i) (B38 R I) := by kernel_rfl
def W38d (R : List GRow) (I : List Int) (j : Int) : List (RV G) := [.own 900 .row R.length, .own 901 .i64 I.length, .int .i64 j]
theorem step38d (lp : List (Nat × LC G)) (R : List GRow) (I : List Int) (n : Nat) (j : Int) (K) : iter (EV L35 ((15, lc38c) :: (26, lc38e) :: lp)) h38d (lpBody Try.f38 3) (n + 1) (W38d R I j) (B38 R I) K = bif decide (j < (R.length : Int)) then
    gate (R.length = R.length ∧ I.length = I.length ∧ (-1 : Int) = -1 ∧ (0 : Int) = 0 ∧ 0 ≤ j ∧ j < (R.length : Int) ∧ I.length < 9223372036854775808)
      (atN R.length R j fun y => iter (EV L35 ((15, lc38c) :: (26, lc38e) :: lp)) h38d (lpBody Try.f38 3) n (W38d (R.set j.toNat { y with Of := last I (getR R j.toNat).Of }) I (IntKind.i64.wrap (j + 1))) (B38 (R.set j.toNat { y with Of := last I (getR R j.toNat).Of }) I) K)
  else K (.exit 6) (W38d R I j) (B38 R I) := by kernel_rfl
end Go.SX

/- Only: which rows are kept, and where they hang. No statement of the seat is proved here. -/
namespace Go.SX
open Go.Proofs
set_option maxRecDepth 20000
theorem foldl_same {β : Type} {f g : β → Nat → β} : ∀ (r : List Nat) (a : β), (∀ a k, k ∈ r → f a k = g a k) → r.foldl f a = r.foldl g a
  | [], _, _ => rfl
  | k :: r, a, h => by
    rw [List.foldl_cons, List.foldl_cons, h a k List.mem_cons_self]
    exact foldl_same r _ fun a k hk => h a k (List.mem_cons_of_mem _ hk)
theorem last_append (I : List Int) (v o : Int) : last (I ++ [v]) o = bif v == o then (I.length : Int) else last I o := by
  unfold last
  rw [List.length_append, List.length_singleton, List.range_succ, List.foldl_append]
  have e : (List.range I.length).foldl (fun a k => bif (I ++ [v]).getD k 0 == o then (k : Int) else a) (-1) = (List.range I.length).foldl (fun a k => bif I.getD k 0 == o then (k : Int) else a) (-1) := by
    refine foldl_same _ _ fun a k hk => ?_
    rw [List.mem_range] at hk
    rw [List.getD_eq_getElem?_getD, List.getD_eq_getElem?_getD, List.getElem?_append_left hk]
  rw [e]
  simp
theorem last_bounds (I : List Int) (o : Int) : -1 ≤ last I o ∧ last I o < (I.length : Int) := by
  unfold last
  have main : ∀ n, n ≤ I.length → -1 ≤ (List.range n).foldl (fun a k => bif I.getD k 0 == o then (k : Int) else a) (-1) ∧ (List.range n).foldl (fun a k => bif I.getD k 0 == o then (k : Int) else a) (-1) < (n : Int) := by
    intro n
    induction n with
    | zero => intro _; simp
    | succ n ih =>
      intro hn
      have := ih (by omega)
      rw [List.range_succ, List.foldl_append]
      simp only [List.foldl_cons, List.foldl_nil]
      cases I.getD n 0 == o with
      | true => simp only [cond_true]; omega
      | false => simp only [cond_false]; omega
  exact main _ (Nat.le_refl _)
/-- The rows kept so far, with where they stood. -/
def keep1 (l : List GRow) (s : List Int) (q : List GRow × List Int) (i : Nat) : List GRow × List Int := bif inS s (getR l i) then (q.1 ++ [getR l i], q.2 ++ [(i : Int)]) else q
def keep2 (l : List GRow) (s : List Int) (t : List Int × List GRow × List Int) (i : Nat) : List Int × List GRow × List Int := bif inS s (getR l i) then (t.1.set i (t.2.1.length + 1 : Nat), t.2.1 ++ [getR l i], t.2.2 ++ [(i : Int)]) else t
structure Kept (l : List GRow) (i : Nat) (p : List Int) (R : List GRow) (I : List Int) : Prop where
  len : p.length = l.length
  same : R.length = I.length
  few : I.length ≤ i
  at_ : ∀ o, o < l.length → p[o]? = some (last I (o : Int) + 1)
  nn : ∀ v ∈ I, 0 ≤ v
  rows : ∀ x ∈ R, x ∈ l
theorem Kept.zero (l : List GRow) : Kept l 0 (List.replicate l.length 0) [] [] := ⟨by simp, rfl, Nat.le_refl _, fun o ho => by simp [ho, last], fun v hv => by simp at hv, fun x hx => by simp at hx⟩
theorem Kept.step {l : List GRow} {s : List Int} {i : Nat} {t : List Int × List GRow × List Int} (h : Kept l i t.1 t.2.1 t.2.2) (hi : i < l.length) : Kept l (i + 1) (keep2 l s t i).1 (keep2 l s t i).2.1 (keep2 l s t i).2.2 := by
  unfold keep2
  cases inS s (getR l i) with
  | false => exact ⟨h.len, h.same, Nat.le_succ_of_le h.few, h.at_, h.nn, h.rows⟩
  | true =>
    refine ⟨by simp [h.len], by simp [h.same], by simp; exact h.few, fun o ho => ?_, fun v hv => ?_, fun x hx => ?_⟩
    · simp only [cond_true]
      rw [List.getElem?_set, last_append]
      by_cases e : i = o
      · subst e
        rw [if_pos rfl, if_pos (by rw [h.len]; exact hi)]
        simp [h.same]
      · rw [if_neg e, h.at_ o ho]
        have : ((i : Int) == (o : Int)) = false := by simp; omega
        rw [this]
        rfl
    · simp only [cond_true, List.mem_append, List.mem_singleton] at hv
      rcases hv with hv | rfl
      · exact h.nn v hv
      · omega
    · simp only [cond_true, List.mem_append, List.mem_singleton] at hx
      rcases hx with hx | rfl
      · exact h.rows x hx
      · exact List.mem_of_getElem? (getR_at hi)
theorem last_neg {I : List Int} (h : ∀ v ∈ I, 0 ≤ v) : last I (-1) = -1 := by
  unfold last
  have main : ∀ n, n ≤ I.length → (List.range n).foldl (fun a k => bif I.getD k 0 == (-1 : Int) then (k : Int) else a) (-1) = -1 := by
    intro n
    induction n with
    | zero => intro _; rfl
    | succ n ih =>
      intro hn
      rw [List.range_succ, List.foldl_append, ih (by omega)]
      simp only [List.foldl_cons, List.foldl_nil]
      have hv : I.getD n 0 = I[n] := by rw [List.getD_eq_getElem?_getD, List.getElem?_eq_getElem (by omega)]; rfl
      have := h I[n] (List.getElem_mem _)
      rw [hv, show (I[n] == (-1 : Int)) = false by simp; omega]
      rfl
  exact main _ (Nat.le_refl _)
end Go.SX

/- Only: its rows linked anew. No statement of the seat is proved here. -/
namespace Go.SX
open Go.Proofs
set_option maxRecDepth 20000
def link1 (I : List Int) (R : List GRow) (j : Nat) : List GRow := R.set j { getR R j with Of := last I (getR R j).Of }
def linked (I : List Int) (R : List GRow) : List GRow := (List.range R.length).foldl (link1 I) R
theorem link1_len (I : List Int) (R : List GRow) (j : Nat) : (link1 I R j).length = R.length := by simp [link1]
theorem linked_len (I : List Int) (R : List GRow) : (linked I R).length = R.length := fold_inv (P := fun t : List GRow => t.length = R.length) (fun j t _ h => (link1_len I t j).trans h) rfl
theorem lp38d (lp : List (Nat × LC G)) (R : List GRow) (I : List Int) (hR : R.length < 9223372036854775808) (hI : I.length < 9223372036854775808) : LpOk (EV L35 ((15, lc38c) :: (26, lc38e) :: lp)) [] (lpBody Try.f38 3) (lcOf h38d (W38d R I 0) (B38 R I) fun K => K (.exit 6) (W38d (linked I R) I R.length) (B38 (linked I R) I)) :=
  lcOf_ok (by kernel_rfl) fun K => ⟨_, fold_loop (N := R.length) (g := link1 I) (F := fun n j (t : List GRow) => iter (EV L35 ((15, lc38c) :: (26, lc38e) :: lp)) h38d (lpBody Try.f38 3) n (W38d t I j) (B38 t I) K) (X := fun (t : List GRow) => K (.exit 6) (W38d t I R.length) (B38 t I)) (s0 := R) (fun _ t => t.length = R.length) rfl
    (fun n j t hj ht => by
      rw [step38d, decide_eq_true (by omega), cond_true, gate_pos ⟨rfl, rfl, rfl, rfl, by omega, by omega, hI⟩, atN_at (by omega) (by omega) (getR_at (by omega)), wrap_succ (by omega)]
      rfl)
    (fun j t _ ht => (link1_len I t j).trans ht) (fun n t ht => by rw [step38d, decide_eq_false (by omega)]; rfl)⟩
/-- What the list of places must say. -/
structure Placed (p : List Int) (I : List Int) : Prop where
  at_ : ∀ o, o < p.length → p[o]? = some (last I (o : Int) + 1)
  nn : ∀ v ∈ I, 0 ≤ v
  lt : I.length < 9223372036854775807
theorem wrap_back {v : Int} (h0 : -1 ≤ v) (h1 : v < 9223372036854775807) : IntKind.i64.wrap (v + 1 - 1) = v := by
  rw [IntKind.wrap_i64]; omega
theorem lp37c (lp : List (Nat × LC G)) (p : List Int) (R : List GRow) (I : List Int) (hR : R.length < 9223372036854775808) (hp : Placed p I) (ho : ∀ k, k < R.length → -1 ≤ (getR R k).Of ∧ (getR R k).Of < (p.length : Int)) : LpOk (EV L35 lp) [] (lpBody Try.f37 2) (lcOf h37c (W37c p R I R.length 0) (B37c p R I) fun K => K (.exit 4) (W37c p (linked I R) I R.length R.length) (B37c p (linked I R) I)) :=
  lcOf_ok (by kernel_rfl) fun K => ⟨_, fold_loop (N := R.length) (g := link1 I) (F := fun n j (t : List GRow) => iter (EV L35 lp) h37c (lpBody Try.f37 2) n (W37c p t I R.length j) (B37c p t I) K) (X := fun (t : List GRow) => K (.exit 4) (W37c p t I R.length R.length) (B37c p t I)) (s0 := R) (fun j t => t.length = R.length ∧ ∀ k, j ≤ k → getR t k = getR R k) ⟨rfl, fun _ _ => rfl⟩
    (fun n j t hj ht => by
      obtain ⟨ht, hk⟩ := ht
      obtain ⟨o0, o1⟩ := ho j hj
      rw [← hk j (Nat.le_refl _)] at o0 o1
      have hx : t[((j : Nat) : Int).toNat]? = some (getR t j) := by rw [Int.toNat_natCast]; exact getR_at (by omega)
      rw [step37c, decide_eq_true (by omega), cond_true, atN_at (by omega) (by omega) hx, wrap_succ (by omega)]
      unfold link1
      by_cases hof : (getR t j).Of ≥ 0
      · have hv : p[(getR t j).Of.toNat]? = some (last I (getR t j).Of + 1) := by
          rw [hp.at_ _ (by omega), Int.toNat_of_nonneg hof]
        have hb := last_bounds I (getR t j).Of
        have := hp.lt
        rw [decide_eq_true hof, cond_true, atN_at hof o1 hv, atN_at (by omega) (by omega) hx, wrap_back hb.1 (by omega), Int.toNat_natCast]
      · have e : (getR t j).Of = -1 := by omega
        have hs : t.set j { getR t j with Of := last I (getR t j).Of } = t := by
          rw [e, last_neg hp.nn]
          apply List.ext_getElem?
          intro m
          by_cases hm : j = m
          · subst hm
            rw [List.getElem?_set_self (by omega), getR_at (by omega)]
            generalize getR t j = x at *
            cases x
            simp_all
          · rw [List.getElem?_set_ne hm]
        rw [decide_eq_false hof, cond_false, hs])
    (fun j t hj ht => ⟨(link1_len I t j).trans ht.1, fun k hk => by
      unfold link1
      rw [getR_set, if_neg (by omega)]
      exact ht.2 k (by omega)⟩) (fun n t ht => by rw [step37c, decide_eq_false (by omega)]; rfl)⟩
end Go.SX

/- Only: its rows gathered. No statement of the seat is proved here. -/
namespace Go.SX
open Go.Proofs
set_option maxRecDepth 20000
def nought (l : List GRow) : List Int := List.replicate l.length 0
def gather2 (l : List GRow) (s : List Int) : List Int × List GRow × List Int := (List.range l.length).foldl (keep2 l s) (nought l, [], [])
def gather1 (l : List GRow) (s : List Int) : List GRow × List Int := (List.range l.length).foldl (keep1 l s) ([], [])
theorem gather_fold (l : List GRow) (s : List Int) : ∀ (r : List Nat) (t : List Int × List GRow × List Int), (r.foldl (keep2 l s) t).2 = r.foldl (keep1 l s) t.2
  | [], _ => rfl
  | i :: r, t => by
    rw [List.foldl_cons, List.foldl_cons, gather_fold l s r]
    congr 1
    unfold keep1 keep2
    cases inS s (getR l i) <;> rfl
theorem gather_same (l : List GRow) (s : List Int) : (gather2 l s).2 = gather1 l s := gather_fold l s _ _
theorem gather_kept (l : List GRow) (s : List Int) : Kept l l.length (gather2 l s).1 (gather2 l s).2.1 (gather2 l s).2.2 := by
  have main : ∀ n, n ≤ l.length → Kept l n ((List.range n).foldl (keep2 l s) (nought l, [], [])).1 ((List.range n).foldl (keep2 l s) (nought l, [], [])).2.1 ((List.range n).foldl (keep2 l s) (nought l, [], [])).2.2 := by
    intro n
    induction n with
    | zero => intro _; exact Kept.zero l
    | succ n ih =>
      intro hn
      rw [List.range_succ, List.foldl_append]
      exact (ih (by omega)).step (by omega)
  exact main _ (Nat.le_refl _)
theorem lp37b (lp : List (Nat × LC G)) (l : List GRow) (s : List Int) (hl : l.length ≤ 1048576) : LpOk (EV L35 lp) [] (lpBody Try.f37 1) (lcOf h37b (W37b l s (nought l) [] [] 0) (B37b (nought l) [] []) fun K => K (.exit 2) (W37b l s (gather2 l s).1 (gather2 l s).2.1 (gather2 l s).2.2 l.length) (B37b (gather2 l s).1 (gather2 l s).2.1 (gather2 l s).2.2)) :=
  lcOf_ok (by kernel_rfl) fun K => ⟨_, fold_loop (N := l.length) (g := keep2 l s) (F := fun n i (t : List Int × List GRow × List Int) => iter (EV L35 lp) h37b (lpBody Try.f37 1) n (W37b l s t.1 t.2.1 t.2.2 i) (B37b t.1 t.2.1 t.2.2) K) (X := fun (t : List Int × List GRow × List Int) => K (.exit 2) (W37b l s t.1 t.2.1 t.2.2 l.length) (B37b t.1 t.2.1 t.2.2)) (s0 := (nought l, [], [])) (fun i t => Kept l i t.1 t.2.1 t.2.2) (Kept.zero l)
    (fun n i t hi ht => by
      have h1 := ht.same
      have h2 := ht.few
      have h3 := ht.len
      rw [step37b, decide_eq_true (by omega), cond_true, getI_R hi, Option.bind_some, wrap_succ (by omega)]
      unfold keep2
      cases inS s (getR l i) with
      | false => rfl
      | true =>
        simp only [cond_true]
        rw [decide_eq_true (by rw [List.length_append]; simp; omega), cond_true, decide_eq_true (by rw [List.length_append]; simp; omega), cond_true, atN_any (by omega) (by omega) (Nat.le_refl _), Int.toNat_natCast, List.length_append, List.length_singleton])
    (fun i t hi ht => ht.step hi) (fun n t _ => by rw [step37b, decide_eq_false (by omega)]; rfl)⟩
theorem lp38b (lp : List (Nat × LC G)) (l : List GRow) (s : List Int) (hl : l.length ≤ 1048576) (hs : s.length < 9223372036854775808) : LpOk (EV L35 ((15, lc38c) :: (26, lc38e) :: lp)) [] (lpBody Try.f38 1) (lcOf h38b (W38b l s [] [] 0) (B38 [] []) fun K => K (.exit 2) (W38b l s (gather1 l s).1 (gather1 l s).2 l.length) (B38 (gather1 l s).1 (gather1 l s).2)) :=
  lcOf_ok (by kernel_rfl) fun K => ⟨_, fold_loop (N := l.length) (g := keep1 l s) (F := fun n i (t : List GRow × List Int) => iter (EV L35 ((15, lc38c) :: (26, lc38e) :: lp)) h38b (lpBody Try.f38 1) n (W38b l s t.1 t.2 i) (B38 t.1 t.2) K) (X := fun (t : List GRow × List Int) => K (.exit 2) (W38b l s t.1 t.2 l.length) (B38 t.1 t.2)) (s0 := ([], [])) (fun i t => t.1.length ≤ i ∧ t.2.length ≤ i) ⟨Nat.le_refl _, Nat.le_refl _⟩
    (fun n i t hi ht => by
      obtain ⟨h1, h2⟩ := ht
      rw [step38b, decide_eq_true (by omega), cond_true, gate_pos ⟨rfl, rfl, rfl, rfl, by omega, by omega, hs⟩, getI_R hi, Option.bind_some, wrap_succ (by omega), Int.toNat_natCast]
      unfold keep1
      cases inS s (getR l i) with
      | false => rfl
      | true =>
        simp only [cond_true]
        rw [decide_eq_true (by rw [List.length_append]; simp; omega), cond_true, decide_eq_true (by rw [List.length_append]; simp; omega), cond_true])
    (fun i t hi ht => by
      unfold keep1
      cases inS s (getR l i) <;> simp <;> omega) (fun n t _ => by rw [step38b, decide_eq_false (by omega)]; rfl)⟩
end Go.SX

/- Only, whole: trees. No statement of the seat is proved here. -/
namespace Go.SX
open Go.Proofs
set_option maxRecDepth 20000
def g1 (l : List GRow) (s : List Int) : List Int := (gather2 l s).1
def OUT37a (l : List GRow) (s : List Int) (K : XE → List (RV G) → List (Blk G) → Ans G) : Ans G := bif l.any (rbad l.length 1024) then K .ret (W37a l s 200 (l.findIdx (rbad l.length 1024) : Nat)) [] else K (.exit 0) (W37a l s 0 (l.length : Nat)) []
noncomputable def E37 (l : List GRow) (s : List Int) : List (Nat × LC G) :=
  [(4, lcOf h37a (W37a l s 0 0) [] (OUT37a l s)), (14, lcOf h37b (W37b l s (nought l) [] [] 0) (B37b (nought l) [] []) fun K => K (.exit 2) (W37b l s (gather2 l s).1 (gather2 l s).2.1 (gather2 l s).2.2 l.length) (B37b (gather2 l s).1 (gather2 l s).2.1 (gather2 l s).2.2)),
   (21, lcOf h37c (W37c (gather2 l s).1 (gather2 l s).2.1 (gather2 l s).2.2 (gather2 l s).2.1.length 0) (B37c (gather2 l s).1 (gather2 l s).2.1 (gather2 l s).2.2) fun K => K (.exit 4) (W37c (gather2 l s).1 (linked (gather2 l s).2.2 (gather2 l s).2.1) (gather2 l s).2.2 (gather2 l s).2.1.length (gather2 l s).2.1.length) (B37c (gather2 l s).1 (linked (gather2 l s).2.2 (gather2 l s).2.1) (gather2 l s).2.2))]
theorem x37g (l : List GRow) (s : List Int) (K) : xfn (EV L35 (E37 l s)) Try.f37 [] (encs [.l .row, .l .i64] (l, s, ())) [] K =
    bif decide ((l.length : Int) > 1048576) || decide ((s.length : Int) > 1024) then K (.tuple [.nilslice, .nilslice, .int .i64 4]) [] [] else
    gate (W37a l s 0 0 = W37a l s 0 0 ∧ ([] : List (Blk G)) = []) (bif l.any (rbad l.length 1024) then K (.tuple [.nilslice, .nilslice, .int .i64 200]) [] [] else
      bif decide (0 ≤ (l.length : Int) ∧ (l.length : Int) * ((8 : Nat) : Int) ≤ 2 ^ 47 ∧ 0 < 8) then
        gate (W37b l s (nought l) [] [] 0 = W37b l s (nought l) [] [] 0 ∧ B37b (nought l) [] [] = B37b (nought l) [] []) (gate (W37c (gather2 l s).1 (gather2 l s).2.1 (gather2 l s).2.2 (gather2 l s).2.1.length 0 = W37c (gather2 l s).1 (gather2 l s).2.1 (gather2 l s).2.2 (gather2 l s).2.1.length 0 ∧ B37c (gather2 l s).1 (gather2 l s).2.1 (gather2 l s).2.2 = B37c (gather2 l s).1 (gather2 l s).2.1 (gather2 l s).2.2)
          (K (.tuple [.own 0 .row (linked (gather2 l s).2.2 (gather2 l s).2.1).length, .own 1 .i64 (gather2 l s).2.2.length, .int .i64 0]) [] [.rows .row (linked (gather2 l s).2.2 (gather2 l s).2.1), .rows .i64 (gather2 l s).2.2])) else none) := by kernel_rfl
end Go.SX

/- Only, whole. No statement of the seat is proved here. -/
namespace Go.SX
open Go.Proofs
set_option maxRecDepth 20000
def tooMany (l : List GRow) (s : List Int) : Bool := decide ((l.length : Int) > 1048576) || decide ((s.length : Int) > 1024)
def runOnly (l : List GRow) (s : List Int) (K : RV G → List (Blk G) → List (Blk G) → Ans G) : Ans G :=
  bif tooMany l s then K (.tuple [.nilslice, .nilslice, .int .i64 4]) [] [] else bif l.any (rbad l.length 1024) then K (.tuple [.nilslice, .nilslice, .int .i64 200]) [] [] else
    K (.tuple [.own 0 .row (linked (gather1 l s).2 (gather1 l s).1).length, .own 1 .i64 (gather1 l s).2.length, .int .i64 0]) [] [.rows .row (linked (gather1 l s).2 (gather1 l s).1), .rows .i64 (gather1 l s).2]
theorem runOnly_K (l : List GRow) (s : List Int) (K) (o) (h : runOnly l s K = some o) : ∃ r bs fr, K r bs fr = some o := by
  unfold runOnly at h
  cases h1 : tooMany l s with
  | true => rw [h1] at h; exact ⟨_, _, _, h⟩
  | false => cases h2 : l.any (rbad l.length 1024) with
    | true => rw [h1, h2] at h; exact ⟨_, _, _, h⟩
    | false => rw [h1, h2] at h; exact ⟨_, _, _, h⟩
noncomputable def E37m (l : List GRow) (s : List Int) : List (Nat × LC G) := [(4, lcOf h37a (W37a l s 0 0) [] (OUT37a l s))]
theorem lp37a (lp : List (Nat × LC G)) (l : List GRow) (s : List Int) (hx : l.length < 9223372036854775808) : LpOk (EV L35 lp) [] (lpBody Try.f37 0) (lcOf h37a (W37a l s 0 0) [] (OUT37a l s)) := lcOf_ok (by kernel_rfl) fun K => ⟨_, find_loop (xs := l) (p := rbad l.length 1024) (F := fun n i => iter (EV L35 lp) h37a (lpBody Try.f37 0) n (W37a l s 0 i) [] K)
  (R := fun i => K .ret (W37a l s 200 i) []) (X := fun i => K (.exit 0) (W37a l s 0 i) []) (fun n i => by
    rw [step37a]
    congr 1
    congr 1
    funext r
    exact rbad_K r _ _ (fun e => K .ret (W37a l s e i) []) _) hx⟩
theorem bad_of {l : List GRow} (h : l.any (rbad l.length 1024) = false) {x : GRow} (hx : x ∈ l) : -1 ≤ x.Of ∧ x.Of < (l.length : Int) := by
  rw [List.any_eq_false] at h
  have hm := h x hx
  unfold rbad rcheck at hm
  cases e : (rfits x && !(decide (x.A ≥ (1024 : Int)) || decide (x.B ≥ (1024 : Int)))) && !decide (x.Of ≥ (l.length : Int)) with
  | false => rw [e] at hm; exact absurd rfl hm
  | true =>
    simp only [Bool.and_eq_true, Bool.not_eq_true', decide_eq_false_iff_not] at e
    obtain ⟨⟨f, _⟩, o⟩ := e
    unfold rfits at f
    simp only [Bool.and_eq_true, decide_eq_true_eq] at f
    exact ⟨f.2, by omega⟩
end Go.SX

/- Two lists one behind the other; the rows of some: both are rows among all. No statement of the seat is proved here. -/
namespace Go.SX
open Go.Proofs
set_option maxRecDepth 20000
/-! ### what both give -/
theorem both_free {l c : List GRow} {b : List GStill} (h : (List.range b.length).any (both l c b) = false) {k : Int} (k0 : 0 ≤ k) (k1 : k < (b.length : Int)) (h1 : l.any (ofAt k) = true) (h2 : c.any (ofAt k) = true) : smoved (getS b k) = false := by
  rw [List.any_eq_false] at h
  have := h k.toNat (by rw [List.mem_range]; omega)
  unfold both at this
  rw [Int.toNat_of_nonneg k0, h1, h2] at this
  simpa using this
/-! ### one behind the other -/
def behind (n : Nat) (r : GRow) : GRow := bif decide (r.Of ≥ 0) then ofTo r (r.Of + (n : Int)) else r
def joined2 (x y : List GRow) : List GRow := x ++ y.map (behind x.length)
theorem joined2_len (x y : List GRow) : (joined2 x y).length = x.length + y.length := by simp [joined2]
theorem getR_app1 {x y : List GRow} {i : Nat} (h : i < x.length) : getR (x ++ y) i = getR x i := by
  unfold getR
  rw [List.getD_eq_getElem?_getD, List.getD_eq_getElem?_getD, List.getElem?_append_left h]
theorem getR_app2 {x y : List GRow} {i : Nat} : getR (x ++ y) (x.length + i) = getR y i := by
  unfold getR
  rw [List.getD_eq_getElem?_getD, List.getD_eq_getElem?_getD, List.getElem?_append_right (by omega), Nat.add_sub_cancel_left]
theorem getR_map {y : List GRow} {f : GRow → GRow} {i : Nat} (h : i < y.length) : getR (y.map f) i = f (getR y i) := by
  unfold getR
  rw [List.getD_eq_getElem?_getD, List.getD_eq_getElem?_getD, List.getElem?_map, List.getElem?_eq_getElem h]
  rfl
theorem joined_1 {x y : List GRow} {i : Nat} (h : i < x.length) : getR (joined2 x y) i = getR x i := getR_app1 h
theorem joined_2 {x y : List GRow} {i : Nat} (h : i < y.length) : getR (joined2 x y) (x.length + i) = behind x.length (getR y i) := by
  unfold joined2
  rw [getR_app2, getR_map h]
theorem behind_ab (n : Nat) (r : GRow) : (behind n r).A = r.A ∧ (behind n r).B = r.B := by
  unfold behind
  cases decide (r.Of ≥ 0) <;> exact ⟨rfl, rfl⟩
theorem ofAt_behind (n : Nat) (k : Int) (r : GRow) : ofAt k (behind n r) = ofAt k r := by
  unfold ofAt
  rw [(behind_ab n r).1, (behind_ab n r).2]
theorem any_joined (k : Int) (x y : List GRow) : (joined2 x y).any (ofAt k) = (x.any (ofAt k) || y.any (ofAt k)) := by
  unfold joined2
  rw [List.any_append, List.any_map]
  congr 2
  funext r
  exact ofAt_behind _ k r
theorem behind_of (n : Nat) (r : GRow) : behind n r = ofTo r (behind n r).Of := by
  unfold behind
  cases decide (r.Of ≥ 0) <;> rfl
section
variable {a c : List GRow} {b : List GStill}
theorem sub_1 (ha : Asked a b) (h : (List.range b.length).any (both a c b) = false) : Sub (joined2 a c) a b (fun i => i) where
  mono i j h _ := h
  lt i h := by rw [joined2_len]; omega
  row i h := by rw [joined_1 h]; rfl
  of_ i h := by
    rw [joined_1 h]
    rcases Int.lt_or_le (getR a i).Of 0 with g | g
    · exact .inl ⟨g, g⟩
    · exact .inr ⟨g, by omega⟩
  apart j hj hn k k0 k1 h1 h2 := by
    rw [joined2_len] at hj
    have : a.length ≤ j := by
      rcases Nat.lt_or_ge j a.length with g | g
      · exact absurd rfl (hn j g)
      · exact g
    obtain ⟨i, rfl⟩ := Nat.exists_eq_add_of_le this
    rw [joined_2 (by omega), ofAt_behind] at h1
    exact both_free h k0 k1 h2 (any_row (by omega) h1)
theorem sub_2 (hc : Asked c b) (h : (List.range b.length).any (both a c b) = false) : Sub (joined2 a c) c b (fun i => a.length + i) where
  mono i j h _ := by omega
  lt i h := by rw [joined2_len]; omega
  row i h := by
    rw [joined_2 h]
    exact behind_of _ _
  of_ i h := by
    rw [joined_2 h]
    unfold behind
    rcases Int.lt_or_le (getR c i).Of 0 with g | g
    · rw [decide_eq_false (by omega)]
      exact .inl ⟨g, g⟩
    · rw [decide_eq_true g]
      refine .inr ⟨g, ?_⟩
      show (getR c i).Of + (a.length : Int) = ((a.length + (getR c i).Of.toNat : Nat) : Int)
      omega
  apart j hj hn k k0 k1 h1 h2 := by
    have : j < a.length := by
      rcases Nat.lt_or_ge j a.length with g | g
      · exact g
      · rw [joined2_len] at hj
        exact absurd (show a.length + (j - a.length) = j by omega) (hn (j - a.length) (by omega))
    rw [joined_1 this] at h1
    exact both_free h k0 k1 (any_row this h1) h2
theorem rfits_of {r : GRow} {o : Int} (h : rfits r = true) (ho : -1 ≤ o) : rfits (ofTo r o) = true := by
  unfold rfits ofTo at *
  simp only [Bool.and_eq_true] at h ⊢
  exact ⟨h.1, decide_eq_true ho⟩
theorem asked_of {l : List GRow} {b : List GStill} (h1 : l.length ≤ 1048576) (h2 : b.length ≤ 1024) (h3 : Rest b)
    (h : ∀ k, k < l.length → rfits (getR l k) = true ∧ (getR l k).A < (b.length : Int) ∧ (getR l k).B < (b.length : Int) ∧ (getR l k).Of < (l.length : Int)) : (sasked l b != 0) = false := by
  unfold sasked
  have e1 : (decide ((l.length : Int) > 1048576) || decide ((b.length : Int) > 1024)) = false := by
    rw [decide_eq_false (by omega), decide_eq_false (by omega)]; rfl
  have e2 : l.any (rbad l.length b.length) = false := by
    rw [List.any_eq_false]
    intro r hr
    obtain ⟨k, hk, rfl⟩ := List.mem_iff_getElem.1 hr
    have e : l[k] = getR l k := by
      have := getR_at hk
      rw [List.getElem?_eq_getElem hk] at this
      exact Option.some.inj this
    obtain ⟨f, g1, g2, g3⟩ := h k hk
    rw [e]
    unfold rbad rcheck
    rw [f, decide_eq_false (by omega), decide_eq_false (by omega), decide_eq_false (by omega)]
    simp
  have e3 : b.any (fun s => !smay s) = false := by
    rw [List.any_eq_false]
    intro s hs
    rw [smay_rests, h3 s hs]
    simp
  rw [e1, e2, e3]
  rfl
theorem joined_asked (ha : Asked a b) (hc : Asked c b) (hl : a.length + c.length ≤ 1048576) : (sasked (joined2 a c) b != 0) = false := by
  refine asked_of (by rw [joined2_len]; exact hl) ha.bodies ha.rest fun k hk => ?_
  rw [joined2_len] at hk ⊢
  rcases Nat.lt_or_ge k a.length with g | g
  · obtain ⟨_, a0, a1, b0, b1, o⟩ := ha.fit k g
    rw [joined_1 g]
    exact ⟨ha.fits k g, a1, b1, by omega⟩
  · obtain ⟨i, rfl⟩ := Nat.exists_eq_add_of_le g
    obtain ⟨_, a0, a1, b0, b1, o⟩ := hc.fit i (by omega)
    have hf := hc.fits i (by omega)
    rw [joined_2 (by omega), (behind_ab _ _).1, (behind_ab _ _).2]
    refine ⟨?_, a1, b1, ?_⟩
    · unfold behind
      rcases Int.lt_or_le (getR c i).Of 0 with g | g
      · rw [decide_eq_false (by omega)]; exact hf
      · rw [decide_eq_true g]; exact rfits_of hf (by omega)
    · unfold behind
      rcases Int.lt_or_le (getR c i).Of 0 with g | g
      · rw [decide_eq_false (by omega)]; show (getR c i).Of < _; omega
      · rw [decide_eq_true g]; show (getR c i).Of + (a.length : Int) < _; omega
/-- What the joined rows come to. -/
theorem joined_rows (ha : Asked a b) (hc : Asked c b) (hl : a.length + c.length ≤ 1048576) (h : (List.range b.length).any (both a c b) = false) (n : Nat) : (solved (joined2 a c) b n).1 = joined2 (solved a b n).1 (solved c b n).1 := by
  have hj := sasked_ok (joined_asked ha hc hl)
  have e1 := sub_solved (sub_1 ha h) hj ha n
  have e2 := sub_solved (sub_2 hc h) hj hc n
  have l1 := e1.len
  have l2 := e1.len'
  have l3 := e2.len'
  rw [joined2_len] at l1
  apply List.ext_getElem?
  intro k
  by_cases hk : k < a.length + c.length
  · rw [getR_at (by omega), getR_at (by rw [joined2_len]; omega)]
    congr 1
    rcases Nat.lt_or_ge k a.length with g | g
    · rw [e1.row k g, joined_1 g, joined_1 (by omega), ← (e1.keep' k).2.2]
      rfl
    · obtain ⟨i, rfl⟩ := Nat.exists_eq_add_of_le g
      have hr := e2.row i (by omega)
      have hw : getR (joined2 (solved a b n).1 (solved c b n).1) (a.length + i) = behind a.length (getR (solved c b n).1 i) := by
        rw [← l2]; exact joined_2 (by omega)
      rw [hr, hw, joined_2 (by omega)]
      have ho : (getR (solved c b n).1 i).Of = (getR c i).Of := (e2.keep' i).2.2
      unfold behind
      rw [ho]
      rcases Int.lt_or_le (getR c i).Of 0 with g | g
      · rw [decide_eq_false (by omega)]
        show ofTo _ (getR c i).Of = _
        rw [← ho]
        rfl
      · rw [decide_eq_true g]
        rfl
  · rw [List.getElem?_eq_none (by omega), List.getElem?_eq_none (by rw [joined2_len]; omega)]
/-- What the joined rows' stills come to. -/
theorem joined_stills (ha : Asked a b) (hc : Asked c b) (hl : a.length + c.length ≤ 1048576) (h : (List.range b.length).any (both a c b) = false) (n : Nat) (k : Int) (k0 : 0 ≤ k) (k1 : k < (b.length : Int)) :
    getS (solved (joined2 a c) b n).2 k = bif smoved (getS b k) && a.any (ofAt k) then getS (solved a b n).2 k else bif smoved (getS b k) && c.any (ofAt k) then getS (solved c b n).2 k else getS b k := by
  have hj := sasked_ok (joined_asked ha hc hl)
  have e1 := (sub_solved (sub_1 ha h) hj ha n).st
  have e2 := (sub_solved (sub_2 hc h) hj hc n).st
  cases hm : smoved (getS b k) with
  | false => exact (e1.un k k0 k1 hm).1
  | true =>
    rw [Bool.true_and, Bool.true_and]
    cases h1 : a.any (ofAt k) with
    | true => exact e1.st k k0 k1 h1
    | false =>
      cases h2 : c.any (ofAt k) with
      | true => exact e2.st k k0 k1 h2
      | false => exact e1.out k k0 k1 (by rw [any_joined, h1, h2]; rfl)
end
/-! ### the rows of some -/
structure Gathered (l : List GRow) (i : Nat) (R : List GRow) (I : List Int) : Prop where
  same : R.length = I.length
  at_ : ∀ k, k < I.length → ∃ j : Nat, I[k]? = some (j : Int) ∧ j < i ∧ getR R k = getR l j
  mono : ∀ p q, p < q → q < I.length → I.getD p 0 < I.getD q 0
theorem Gathered.step {l : List GRow} {s : List Int} {i : Nat} {q : List GRow × List Int} (h : Gathered l i q.1 q.2) : Gathered l (i + 1) (keep1 l s q i).1 (keep1 l s q i).2 := by
  unfold keep1
  cases inS s (getR l i) with
  | false => exact ⟨h.same, fun k hk => by obtain ⟨j, h1, h2, h3⟩ := h.at_ k hk; exact ⟨j, h1, by omega, h3⟩, h.mono⟩
  | true =>
    have hs := h.same
    have hget : ∀ k, k < q.2.length → (q.2 ++ [(i : Int)])[k]? = q.2[k]? := fun k hk => List.getElem?_append_left hk
    have hlast : (q.2 ++ [(i : Int)])[q.2.length]? = some (i : Int) := by simp
    refine ⟨by simp [hs], fun k hk => ?_, fun a b hab hb => ?_⟩
    · simp only [cond_true, List.length_append, List.length_singleton] at hk ⊢
      rcases Nat.lt_or_ge k q.2.length with g | g
      · obtain ⟨j, h1, h2, h3⟩ := h.at_ k g
        exact ⟨j, (hget k g).trans h1, by omega, (getR_app1 (by omega)).trans h3⟩
      · have : k = q.2.length := by omega
        subst this
        refine ⟨i, hlast, by omega, ?_⟩
        have := getR_app2 (x := q.1) (y := [getR l i]) (i := 0)
        rw [Nat.add_zero, hs] at this
        exact this
    · simp only [cond_true, List.length_append, List.length_singleton] at hb ⊢
      rw [List.getD_eq_getElem?_getD, List.getD_eq_getElem?_getD]
      rcases Nat.lt_or_ge b q.2.length with g | g
      · rw [hget a (by omega), hget b g, ← List.getD_eq_getElem?_getD, ← List.getD_eq_getElem?_getD]
        exact h.mono a b hab g
      · have : b = q.2.length := by omega
        subst this
        obtain ⟨j, h1, h2, _⟩ := h.at_ a hab
        rw [hget a hab, hlast, h1]
        simp; omega
theorem gathered (l : List GRow) (s : List Int) : Gathered l l.length (gather1 l s).1 (gather1 l s).2 := by
  have main : ∀ n, Gathered l n ((List.range n).foldl (keep1 l s) ([], [])).1 ((List.range n).foldl (keep1 l s) ([], [])).2 := by
    intro n
    induction n with
    | zero => exact ⟨rfl, fun k hk => by simp at hk, fun p q _ hq => by simp at hq⟩
    | succ n ih =>
      rw [List.range_succ, List.foldl_append]
      exact ih.step
  exact main _
theorem linked_at (I : List Int) (R : List GRow) {k : Nat} (hk : k < R.length) : getR (linked I R) k = ofTo (getR R k) (last I (getR R k).Of) := by
  have main : ∀ n, n ≤ R.length → ((List.range n).foldl (link1 I) R).length = R.length ∧ ∀ k, k < R.length → getR ((List.range n).foldl (link1 I) R) k = bif decide (k < n) then ofTo (getR R k) (last I (getR R k).Of) else getR R k := by
    intro n
    induction n with
    | zero => intro _; exact ⟨rfl, fun k _ => rfl⟩
    | succ n ih =>
      intro hn
      obtain ⟨g1, g2⟩ := ih (by omega)
      rw [List.range_succ, List.foldl_append]
      refine ⟨(link1_len _ _ _).trans g1, fun k hk => ?_⟩
      generalize hT : (List.range n).foldl (link1 I) R = T at g1 g2
      show getR (T.set n { getR T n with Of := last I (getR T n).Of }) k = _
      rw [getR_set, g1]
      by_cases e : n = k
      · subst e
        rw [if_pos ⟨rfl, hk⟩, g2 n hk, decide_eq_false (by omega), decide_eq_true (by omega)]
        rfl
      · rw [if_neg (fun h => e h.1), g2 k hk]
        by_cases h : k < n
        · rw [decide_eq_true h, decide_eq_true (by omega)]
        · rw [decide_eq_false h, decide_eq_false (by omega)]
  have := (main R.length (Nat.le_refl _)).2 k hk
  rw [decide_eq_true hk] at this
  exact this
theorem last_is (I : List Int) (o : Int) (h : 0 ≤ last I o) : I.getD (last I o).toNat 0 = o := by
  unfold last at *
  have main : ∀ n, n ≤ I.length → 0 ≤ (List.range n).foldl (fun a k => bif I.getD k 0 == o then (k : Int) else a) (-1) → I.getD ((List.range n).foldl (fun a k => bif I.getD k 0 == o then (k : Int) else a) (-1)).toNat 0 = o := by
    intro n
    induction n with
    | zero => intro _ h; simp at h
    | succ n ih =>
      intro hn h
      rw [List.range_succ, List.foldl_append] at h ⊢
      simp only [List.foldl_cons, List.foldl_nil] at h ⊢
      cases e : I.getD n 0 == o with
      | true =>
        rw [cond_true, Int.toNat_natCast]
        simpa using e
      | false =>
        rw [e, cond_false] at h
        rw [cond_false]
        exact ih (by omega) h
  exact main _ (Nat.le_refl _) h
end Go.SX

/- The law SolveAll answers true. No statement of the seat is proved here. -/
namespace Go.SX
open Go.Proofs
set_option maxRecDepth 20000
theorem sp_rn {f : Nat} {ks : List AK} {res : dens ks → RV G} (h : FcOk Try.prog f (FC.sp ks res)) : FcOk Try.prog f (FC.rn ks fun x K => K (res x) [] []) := h.sub rfl (fun _ => rfl) fun a bs K o e => by
  simp only [FC.rn, FC.ofRun, FC.sp, FC.ofPure] at e ⊢
  split at e
  · rename_i x hx
    exact e
  · cases e
/-- What All comes to, with the rows and stills that it makes. -/
inductive AllRes where
  | fails (e : Int)
  | solves (R : List GRow) (S : List GStill)
def AllRes.r : AllRes → RV G
  | .fails e => .tuple [.nilslice, .nilslice, .int .i64 e]
  | .solves R S => .tuple [.own 0 .row R.length, .own 1 .still S.length, .int .i64 0]
def AllRes.fr : AllRes → List (Blk G)
  | .fails _ => []
  | .solves R S => [.rows .row R, .rows .still S]
theorem solved_len (l : List GRow) (s : List GStill) (n : Nat) : (solved l s n).1.length = l.length ∧ (solved l s n).2.length = s.length := by
  have := rounds_keeps n (l, warmAll l s)
  exact ⟨this.1, this.2.1.trans (warmAll_keeps l s)⟩
theorem runAll_res (l : List GRow) (b : List GStill) (n : Int) : ∃ q : AllRes, (∀ R S, q = .solves R S → R.length ≤ 1048576 ∧ S.length ≤ 1048576) ∧ ∀ K, runAll l b n K = K q.r [] q.fr := by
  unfold runAll
  cases h1 : sasked l b != 0 with
  | true => exact ⟨.fails (sasked l b), fun R S h => (by cases h), fun K => rfl⟩
  | false => cases h2 : decide (n < 0) || decide (n > 64) with
    | true => exact ⟨.fails 210, fun R S h => (by cases h), fun K => rfl⟩
    | false =>
      refine ⟨.solves (solved l b n.toNat).1 (solved l b n.toNat).2, fun R S h => ?_, fun K => rfl⟩
      cases h
      obtain ⟨e1, e2⟩ := solved_len l b n.toNat
      have ha := sasked_ok h1
      have := ha.rows
      have := ha.bodies
      omega
theorem rleft_res (l : List GRow) (b : List GStill) : ∃ (m : Nat) (e : Int), rleft l b = .tuple [.flt m, .int .i64 e] := by
  unfold rleft
  cases sasked l b != 0 with
  | true => exact ⟨_, _, rfl⟩
  | false => exact ⟨_, _, rfl⟩
theorem run24_at (l : List GRow) (h : (l.length + 1) * 112 ≤ 2 ^ 47) (K : RV G → List (Blk G) → List (Blk G) → Ans G) : (bif decide (l.length * 112 ≤ 2 ^ 47) then bif decide ((l ++ [mark24]).length * 112 ≤ 2 ^ 47) then bif decide ((0 : Int) ≤ 0 ∧ (0 : Int) ≤ (l.length : Int) ∧ (l.length : Int) ≤ ((l ++ [mark24]).length : Int)) then K (.slice 0 .row 0 ((l.length : Int) - 0).toNat) [] [.rows .row (l ++ [mark24])] else none else none else none) = K (.slice 0 .row 0 l.length) [] [.rows .row (l ++ [mark24])] := by
  rw [decide_eq_true (by omega), cond_true, decide_eq_true (by rw [List.length_append]; simp; omega), cond_true, decide_eq_true (by rw [List.length_append]; simp; omega), cond_true]
  simp
theorem run25_at (l : List GStill) (h : (l.length + 1) * 40 ≤ 2 ^ 47) (K : RV G → List (Blk G) → List (Blk G) → Ans G) : (bif decide (l.length * 40 ≤ 2 ^ 47) then bif decide ((l ++ [mark25]).length * 40 ≤ 2 ^ 47) then bif decide ((0 : Int) ≤ 0 ∧ (0 : Int) ≤ (l.length : Int) ∧ (l.length : Int) ≤ ((l ++ [mark25]).length : Int)) then K (.slice 0 .still 0 ((l.length : Int) - 0).toNat) [] [.rows .still (l ++ [mark25])] else none else none else none) = K (.slice 0 .still 0 l.length) [] [.rows .still (l ++ [mark25])] := by
  rw [decide_eq_true (by omega), cond_true, decide_eq_true (by rw [List.length_append]; simp; omega), cond_true, decide_eq_true (by rw [List.length_append]; simp; omega), cond_true]
  simp
def Fits47 (l : List GRow) (b : List GStill) : Prop := (l.length + 1) * 112 ≤ 2 ^ 47 ∧ (b.length + 1) * 40 ≤ 2 ^ 47
abbrev kA : List AK := [.l .row, .l .still, .s .i64]
abbrev kB : List AK := [.l .row, .l .still]
abbrev kK : List AK := [.ct .row, .l .row, .ct .still, .l .still]
def lentK (l : List GRow) (b : List GStill) : dens kK := ((l ++ [mark24], l.length), l, (b ++ [mark25], b.length), b, ())
noncomputable def LS : Ctr := (23, c23) :: (22, FC.sp [] fun _ => .bool true) :: L35x
theorem LS_ok : AllOk LS := .cons ok23 (.cons ok22 L35xok)
noncomputable def LA (l : List GRow) (b : List GStill) (n : Int) (q : AllRes) (m : Nat) (e : Int) : Ctr :=
  (24, FC.at [.l .row] (l, ()) (.slice 0 .row 0 l.length) [.rows .row (l ++ [mark24])]) :: (25, FC.at [.l .still] (b, ()) (.slice 0 .still 0 b.length) [.rows .still (b ++ [mark25])]) ::
  (26, FC.at kA (l, b, n, ()) q.r q.fr) :: (27, FC.at kA (l, b, n, ()) q.r q.fr) :: (28, FC.at kB (l, b, ()) (.tuple [.flt m, .int .i64 e]) []) :: (29, FC.at kB (l, b, ()) (.tuple [.flt m, .int .i64 e]) []) ::
  (34, FC.at kK (lentK l b) (.bool true) []) :: LS
theorem LA_ok {l : List GRow} {b : List GStill} {n : Int} {q : AllRes} {m : Nat} {e : Int} (hb : Fits47 l b) (hq : ∀ K, runAll l b n K = K q.r [] q.fr) (he : rleft l b = .tuple [.flt m, .int .i64 e]) : AllOk (LA l b n q m e) :=
  .cons (at_ok ok24 (run24_at l hb.1)) (.cons (at_ok ok25 (run25_at b hb.2)) (.cons (at_ok ok26 hq) (.cons (at_ok ok27 hq) (.cons (at_ok (sp_rn ok28) fun K => by show K (rleft l b) [] [] = _; rw [he]) (.cons (at_ok (sp_rn ok29) fun K => by show K (rleft l b) [] [] = _; rw [he])
    (.cons (at_ok ok34 (run34_at l b (by have := hb.1; omega) (by have := hb.2; omega))) LS_ok))))))
def lentR (l : List GRow) : List GRow := ((l ++ [mark24]).drop 0).take l.length
def lentS (b : List GStill) : List GStill := ((b ++ [mark25]).drop 0).take b.length
theorem lentR_eq (l : List GRow) : lentR l = l := by unfold lentR; simp
theorem lentS_eq (b : List GStill) : lentS b = b := by unfold lentS; simp
theorem x4f (l : List GRow) (b : List GStill) (n : Int) (x : Int) (m : Nat) (e : Int) (K) : xfn (EV (LA l b n (.fails x) m e) []) Try.f4 [] (encs kA (l, b, n, ())) [] K =
    bif large l b then K (.bool true) [] [] else
      gate ((l, ()) = (l, ())) (gate ((b, ()) = (b, ())) (gate ((lentR l, lentS b, n, ()) = (l, b, n, ())) (gate ((l, b, n, ()) = (l, b, n, ())) (gate ((lentR l, lentS b, ()) = (l, b, ())) (gate ((l, b, ()) = (l, b, ()))
        (gate (Ok33 [.nilslice, .nilslice] []) (gate ((lentR l, lentS b, n, ()) = (l, b, n, ()))
          (bif true && ((((lsame r2same [] [] && lsame stsame [] []) && (x == x)) && fis m m) && (e == e)) then
            gate (lentK l b = lentK l b) (K (.bool ((true && lsame r2same [] []) && lsame stsame [] [])) [] [])
          else K (.bool false) [] [])))))))) := by kernel_rfl
theorem x4s (l : List GRow) (b : List GStill) (n : Int) (R : List GRow) (S : List GStill) (m : Nat) (e : Int) (K) : xfn (EV (LA l b n (.solves R S) m e) []) Try.f4 [] (encs kA (l, b, n, ())) [] K =
    bif large l b then K (.bool true) [] [] else
      gate ((l, ()) = (l, ())) (gate ((b, ()) = (b, ())) (gate ((lentR l, lentS b, n, ()) = (l, b, n, ())) (gate ((l, b, n, ()) = (l, b, n, ())) (gate ((lentR l, lentS b, ()) = (l, b, ())) (gate ((l, b, ()) = (l, b, ()))
        (gate (Ok33 [.own 0 .row R.length, .own 1 .still S.length] [.rows .row R, .rows .still S]) (gate ((lentR l, lentS b, n, ()) = (l, b, n, ()))
          (bif true && ((((lsame r2same R R && lsame stsame S S) && ((0 : Int) == 0)) && fis m m) && (e == e)) then
            gate (lentK l b = lentK l b) (K (.bool ((true && lsame r2same R R) && lsame stsame S S)) [] [])
          else K (.bool false) [] [])))))))) := by kernel_rfl
noncomputable def LT : Ctr := (23, c23) :: (22, FC.sp [] fun _ => .bool true) :: []
theorem LT_ok : AllOk LT := .cons ok23 (.cons ok22 fun x hx => by simp at hx)
theorem x4n (l : List GRow) (b : List GStill) (n : Int) (K) : xfn (EV LT []) Try.f4 [] (encs kA (l, b, n, ())) [] K = bif large l b then K (.bool true) [] [] else none := by kernel_rfl
section
variable {f : Nat} {fn : Func} (hf : Try.prog.funcs[f]? = some fn) (ho : fnOK fn = true)
include hf ho
/-- A contract proved input by input, of inputs that keep to something. -/
theorem gate_any {ks : List AK} {P : dens ks → Prop} {r : RV G} (hn : Nat.ble ks.length fn.ntmps = true)
    (h : ∀ (x : dens ks), wfs ks x → P x → ∃ L lp, AllOk L ∧ LpsOk (EV L lp) [] (bodyD fn) ∧ ∀ K, xfn (EV L lp) fn [] (encs ks x) [] K = K r [] []) : FcOk Try.prog f (FC.rn ks fun x K => gate (P x) (K r [] [])) where
  pure _ _ h := by cases h
  run vs bs K o hr := by
    simp only [FC.rn, FC.ofRun] at hr
    split at hr
    · rename_i x hx
      obtain ⟨hp, hr⟩ := gate_some hr
      by_cases hw : wfs ks x
      · obtain ⟨L, lp, hL, hlp, h⟩ := h x hw hp
        have h1 : FcOk Try.prog f (FC.at ks x r []) := rn_ok hL hf ho lp hlp hn fun y K o hk => by
          obtain ⟨rfl, hk2⟩ := gate_some hk
          rw [h]
          exact hk2
        refine h1.run vs bs K o ?_
        simp only [FC.at, FC.rn, FC.ofRun, hx]
        rw [gate_pos trivial]
        exact hr
      · refine ⟨_, _, _, hr, fun cx w us ids hids hl ha hal hi => absurd ?_ hw⟩
        obtain ⟨g1, g2⟩ := decs'_rel hx ha
        exact wfs_rel (vs := us.toList) (by rw [Array.length_toList, g1, encs_len]) fun j u r hu hr => g2 j u r (by simpa using hu) hr
    · cases hr
end
theorem ok4 : FcOk Try.prog 4 (FC.rn kA fun x K => gate (Fits47 x.1 x.2.1) (K (.bool true) [] [])) := gate_any Try.func4 (by kernel_rfl) (by kernel_rfl) fun (l, b, n, _) _ hb => by
  have hb : Fits47 l b := hb
  cases hl : large l b with
  | true => exact ⟨LT, [], LT_ok, LpsOk.of _ fun i b lc _ hi => (by cases hi), fun K => (x4n l b n K).trans (by rw [hl]; rfl)⟩
  | false =>
    obtain ⟨q, hq1, hq2⟩ := runAll_res l b n
    obtain ⟨m, e, he⟩ := rleft_res l b
    cases q with
    | fails x =>
      refine ⟨LA l b n (.fails x) m e, [], LA_ok hb hq2 he, LpsOk.of _ fun i b lc _ hi => (by cases hi), fun K => (x4f l b n x m e K).trans ?_⟩
      rw [hl, cond_false, gate_pos rfl, gate_pos rfl, lentR_eq, lentS_eq, gate_pos rfl, gate_pos rfl, gate_pos rfl, gate_pos rfl, gate_pos .nil, gate_pos rfl, lsame_self r2same_self, lsame_self stsame_self, fis_self, gate_pos rfl]
      simp
    | solves R S =>
      obtain ⟨h1, h2⟩ := hq1 R S rfl
      refine ⟨LA l b n (.solves R S) m e, [], LA_ok hb hq2 he, LpsOk.of _ fun i b lc _ hi => (by cases hi), fun K => (x4s l b n R S m e K).trans ?_⟩
      rw [hl, cond_false, gate_pos rfl, gate_pos rfl, lentR_eq, lentS_eq, gate_pos rfl, gate_pos rfl, gate_pos rfl, gate_pos rfl, gate_pos (.own R S h1 h2), gate_pos rfl, lsame_self r2same_self, lsame_self stsame_self, fis_self, gate_pos rfl]
      simp
end Go.SX

/- What the law SolveApart calls: All where it takes its rows, Apart, joined. No statement of the seat is proved here. -/
namespace Go.SX
open Go.Proofs
set_option maxRecDepth 20000
/-- All where nothing is wrong. -/
noncomputable def c26g : FC G := FC.rn kA fun (l, b, n, _) K => gate ((sasked l b != 0) = false ∧ (decide ((n : Int) < 0) || decide ((n : Int) > 64)) = false)
  (K (.tuple [.own 0 .row (solved l b (n : Int).toNat).1.length, .own 1 .still (solved l b (n : Int).toNat).2.length, .int .i64 0]) [] [.rows .row (solved l b (n : Int).toNat).1, .rows .still (solved l b (n : Int).toNat).2])
theorem rn_sub {f : Nat} {ks : List AK} {run run' : dens ks → (RV G → List (Blk G) → List (Blk G) → Ans G) → Ans G} (h : FcOk Try.prog f (FC.rn ks run)) (hs : ∀ x K o, run' x K = some o → run x K = some o) : FcOk Try.prog f (FC.rn ks run') := h.sub rfl (fun _ => rfl) fun a bs K o e => by
  simp only [FC.rn, FC.ofRun] at e ⊢
  split at e
  · exact hs _ K o e
  · cases e
theorem ok26g : FcOk Try.prog 26 c26g := rn_sub ok26 fun (l, b, n, _) K o e => by
  obtain ⟨⟨h1, h2⟩, e2⟩ := gate_some e
  show runAll l b n K = some o
  unfold runAll
  rw [h1, h2]
  exact e2
def apB (l c : List GRow) (b : List GStill) : Bool := bif sasked l b != 0 then false else bif sasked c b != 0 then false else !(List.range b.length).any (both l c b)
def apE (l c : List GRow) (b : List GStill) : Int := bif sasked l b != 0 then sasked l b else sasked c b
theorem rapart_eq (l c : List GRow) (b : List GStill) : rapart l c b = .tuple [.bool (apB l c b), .int .i64 (apE l c b)] := by
  unfold rapart apB apE
  cases h1 : sasked l b != 0 with
  | true => rfl
  | false => cases h2 : sasked c b != 0 with
    | true => rfl
    | false =>
      have : sasked c b = 0 := by simpa using h2
      rw [this]; rfl
def c35h : FC G := FC.sp [.l .row, .l .row, .l .still] fun (l, c, b, _) => .tuple [.bool (apB l c b), .int .i64 (apE l c b)]
theorem ok35h : FcOk Try.prog 35 c35h := by
  have e : c35h = c35 := by
    unfold c35h c35
    congr 1
    funext ⟨l, c, b, _⟩
    exact (rapart_eq l c b).symm
  rw [e]; exact ok35
/-! ### joined -/
def h39 : LH G := ⟨[0, 1, 6], [(5, .row, 900)], []⟩
def V39 (x y o : List GRow) (i : Int) : List (RV G) := [.rslice .row x, .rslice .row y, .int .i64 i, .own 900 .row o.length]
def B39 (o : List GRow) : List (Blk G) := [.rows .row o]
noncomputable def E39 (x y : List GRow) : List (Nat × LC G) := [(4, lcOf h39 (V39 x y x 0) (B39 x) fun K => K (.exit 0) (V39 x y (joined2 x y) y.length) (B39 (joined2 x y)))]
def put39 (o : List GRow) (r : GRow) (next : List GRow → Ans G) : Ans G := bif decide ((o ++ [r]).length * 112 ≤ 2 ^ 47) then next (o ++ [r]) else none
theorem step39 (x y o : List GRow) (n : Nat) (i : Int) (K) : iter (EV L35 (E39 x y)) h39 (lpBody Try.f39 0) (n + 1) (V39 x y o i) (B39 o) K = bif decide (i < (y.length : Int)) then
    (getI y i).bind fun r => bif decide (r.Of ≥ 0) then put39 o { r with Of := IntKind.i64.wrap (r.Of + (x.length : Int)) } fun o' => iter (EV L35 (E39 x y)) h39 (lpBody Try.f39 0) n (V39 x y o' (IntKind.i64.wrap (i + 1))) (B39 o') K
      else put39 o r fun o' => iter (EV L35 (E39 x y)) h39 (lpBody Try.f39 0) n (V39 x y o' (IntKind.i64.wrap (i + 1))) (B39 o') K
  else K (.exit 0) (V39 x y o i) (B39 o) := by kernel_rfl
theorem x39 (x y : List GRow) (K) : xfn (EV L35 (E39 x y)) Try.f39 [] (encs [.l .row, .l .row] (x, y, ())) [] K = bif decide (x.length * 112 ≤ 2 ^ 47) then
    gate (V39 x y x 0 = V39 x y x 0 ∧ B39 x = B39 x) (K (.own 0 .row (joined2 x y).length) [] [.rows .row (joined2 x y)]) else none := by kernel_rfl
theorem fold_snoc (y : List GRow) (f : GRow → GRow) : ∀ n, n ≤ y.length → ∀ x : List GRow, (List.range n).foldl (fun o i => o ++ [f (getR y i)]) x = x ++ (y.take n).map f := by
  intro n
  induction n with
  | zero => intro _ x; simp
  | succ n ih =>
    intro hn x
    rw [List.range_succ, List.foldl_append, ih (by omega), List.take_add_one, getR_at (by omega)]
    simp
structure Joins (x y : List GRow) : Prop where
  few : x.length + y.length ≤ 1048576
  of_ : ∀ k, k < y.length → (getR y k).Of ≤ 1048576
theorem lp39 (x y : List GRow) (h : Joins x y) : LpOk (EV L35 (E39 x y)) [] (lpBody Try.f39 0) (lcOf h39 (V39 x y x 0) (B39 x) fun K => K (.exit 0) (V39 x y (joined2 x y) y.length) (B39 (joined2 x y))) :=
  lcOf_ok (by kernel_rfl) fun K => ⟨_, (fold_loop (N := y.length) (g := fun o i => o ++ [behind x.length (getR y i)]) (F := fun n i (o : List GRow) => iter (EV L35 (E39 x y)) h39 (lpBody Try.f39 0) n (V39 x y o i) (B39 o) K) (X := fun (o : List GRow) => K (.exit 0) (V39 x y o y.length) (B39 o)) (s0 := x) (fun i o => o.length = x.length + i) rfl
    (fun n i o hi ho => by
      have h1 := h.few
      have h2 := h.of_ i hi
      have hp : ∀ r next, put39 o r next = next (o ++ [r]) := fun r next => by
        unfold put39
        rw [decide_eq_true (by rw [List.length_append, List.length_singleton]; omega), cond_true]
      rw [step39, decide_eq_true (by omega), cond_true, getI_R hi, Option.bind_some, wrap_succ (by omega), hp, hp]
      unfold behind
      by_cases hof : (getR y i).Of ≥ 0
      · have hw : IntKind.i64.wrap ((getR y i).Of + (x.length : Int)) = (getR y i).Of + (x.length : Int) := by rw [IntKind.wrap_i64]; omega
        rw [decide_eq_true hof, hw]
        rfl
      · rw [decide_eq_false hof]; rfl)
    (fun i o _ ho => by rw [List.length_append, List.length_singleton, ho]; rfl) (fun n o _ => by rw [step39, decide_eq_false (by omega)]; rfl)).trans (by
      rw [fold_snoc y _ _ (Nat.le_refl _), List.take_length]
      rfl)⟩
noncomputable def c39 : FC G := FC.rn [.l .row, .l .row] fun (x, y, _) K => gate (Joins x y) (K (.own 0 .row (joined2 x y).length) [] [.rows .row (joined2 x y)])
theorem ok39 : FcOk Try.prog 39 c39 := rn_lp L35ok Try.func39 (by kernel_rfl) (by kernel_rfl) (fun (x, y, _) K o h => ⟨_, _, _, (gate_some h).2⟩) fun (x, y, _) _ => by
  by_cases hp : Joins x y
  · refine ⟨E39 x y, lps1 (i := 4) (by kernel_rfl) rfl (lp39 x y hp), fun K o h => (x39 x y K).trans ?_⟩
    have := hp.few
    rw [decide_eq_true (by omega), cond_true, gate_pos ⟨rfl, rfl⟩]
    exact (gate_some h).2
  · exact ⟨[], LpsOk.of _ fun _ _ _ _ h => (by cases h), fun K o h => absurd (gate_some h).1 hp⟩
end Go.SX

/- The rows of some, solved by themselves: what the law SolveOnly needs. No statement of the seat is proved here. -/
namespace Go.SX
open Go.Proofs
set_option maxRecDepth 20000
/-- A loop that may end early. -/
theorem exit_loop {κ β σ : Type} {N : Nat} {p : σ → Nat → Bool} {g : σ → Nat → σ} {F : κ → Nat → Int → σ → Option β} {R : κ → Nat → σ → Option β} {X : κ → σ → Option β} {s0 : σ} (I : Nat → σ → Prop) (h0 : I 0 s0)
    (hs : ∀ K n i s, i < N → I i s → F K (n + 1) (i : Int) s = bif p s i then R K i s else F K n ((i + 1 : Nat) : Int) (g s i)) (hI : ∀ i s, i < N → I i s → p s i = false → I (i + 1) (g s i)) (hx : ∀ K n s, I N s → F K (n + 1) (N : Int) s = X K s) :
    (∃ i s, i < N ∧ I i s ∧ p s i = true ∧ ∀ K, F K (N + 1) 0 s0 = R K i s) ∨ ∃ s, I N s ∧ ∀ K, F K (N + 1) 0 s0 = X K s := by
  have main : ∀ d i s, i + d = N → I i s → (∃ i' s', i' < N ∧ I i' s' ∧ p s' i' = true ∧ ∀ K, F K (d + 1) (i : Int) s = R K i' s') ∨ ∃ s', I N s' ∧ ∀ K, F K (d + 1) (i : Int) s = X K s' := by
    intro d
    induction d with
    | zero =>
      intro i s hi h
      have : i = N := by omega
      subst this
      exact .inr ⟨s, h, fun K => hx K 0 s h⟩
    | succ d ih =>
      intro i s hi h
      cases hp : p s i with
      | true => exact .inl ⟨i, s, by omega, h, hp, fun K => by rw [hs K _ i s (by omega) h, hp]; rfl⟩
      | false =>
        rcases ih (i + 1) (g s i) (by omega) (hI i s (by omega) h hp) with ⟨i', s', a1, a2, a3, a4⟩ | ⟨s', a1, a2⟩
        · exact .inl ⟨i', s', a1, a2, a3, fun K => by rw [hs K _ i s (by omega) h, hp]; exact a4 K⟩
        · exact .inr ⟨s', a1, fun K => by rw [hs K _ i s (by omega) h, hp]; exact a2 K⟩
  exact main N 0 s0 (by omega) h0
/-- The place of a row of some among all. -/
def placeOf (I : List Int) (i : Nat) : Nat := (I.getD i 0).toNat
section
variable {l : List GRow} {R : List GRow} {I : List Int}
theorem Gathered.place (h : Gathered l l.length R I) {k : Nat} (hk : k < I.length) : I.getD k 0 = (placeOf I k : Int) ∧ placeOf I k < l.length ∧ getR R k = getR l (placeOf I k) := by
  obtain ⟨j, h1, h2, h3⟩ := h.at_ k hk
  have e : I.getD k 0 = (j : Int) := by rw [List.getD_eq_getElem?_getD, h1]; rfl
  have : placeOf I k = j := by unfold placeOf; rw [e, Int.toNat_natCast]
  rw [this]
  exact ⟨e, h2, h3⟩
/-- The rows that are not among some. -/
structure Rest7 (l : List GRow) (I : List Int) (Q : List GRow) : Prop where
  few : Q.length ≤ l.length
  from_ : ∀ x ∈ Q, x ∈ l ∧ x.Of < 0
  has_ : ∀ j, j < l.length → (∀ m, m < I.length → placeOf I m ≠ j) → getR l j ∈ Q ∧ (getR l j).Of < 0
theorem rest_asked {b : List GStill} (hl : Asked l b) {Q : List GRow} (h : Rest7 l I Q) : (sasked Q b != 0) = false :=
  asked_of (by have := h.few; have := hl.rows; omega) hl.bodies hl.rest fun k hk => by
    obtain ⟨h1, h2⟩ := h.from_ _ (List.mem_of_getElem? (getR_at hk))
    obtain ⟨j, hj, e⟩ := List.mem_iff_getElem.1 h1
    have e2 : getR l j = getR Q k := by
      have := getR_at hj
      rw [List.getElem?_eq_getElem hj] at this
      rw [← e]; exact (Option.some.inj this).symm
    obtain ⟨_, a0, a1, b0, b1, o⟩ := hl.fit j hj
    have f := hl.fits j hj
    rw [e2] at a0 a1 b0 b1 o f
    exact ⟨f, a1, b1, by omega⟩
theorem only_asked {b : List GStill} (hl : Asked l b) (h : Gathered l l.length R I) (hI : I.length ≤ l.length) : (sasked (linked I R) b != 0) = false :=
  asked_of (by rw [linked_len, h.same]; have := hl.rows; omega) hl.bodies hl.rest fun k hk => by
    rw [linked_len] at hk ⊢
    obtain ⟨g1, g2, g3⟩ := h.place (k := k) (by rw [← h.same]; exact hk)
    obtain ⟨_, a0, a1, b0, b1, o⟩ := hl.fit _ g2
    have f := hl.fits _ g2
    have lb := last_bounds I (getR R k).Of
    rw [linked_at I R hk, g3] at *
    rw [g3] at lb
    exact ⟨rfits_of f lb.1, a1, b1, by rw [h.same]; exact lb.2⟩
/-- The rows of some are rows among all, where nothing else hangs together with them. -/
theorem only_sub {b : List GStill} (h : Gathered l l.length R I) {Q : List GRow} (hq : Rest7 l I Q) (ho : ∀ k, k < R.length → (getR (linked I R) k).Of < 0 → (getR l (placeOf I k)).Of < 0)
    (hb : (List.range b.length).any (both (linked I R) Q b) = false) : Sub l (linked I R) b (placeOf I) where
  mono i j hij hj := by
    rw [linked_len, h.same] at hj
    have := h.mono i j hij hj
    rw [(h.place (by omega)).1, (h.place hj).1] at this
    omega
  lt i hi := by
    rw [linked_len, h.same] at hi
    exact (h.place hi).2.1
  row i hi := by
    rw [linked_len] at hi
    rw [linked_at I R hi, (h.place (by rw [← h.same]; exact hi)).2.2]
    rfl
  of_ i hi := by
    rw [linked_len] at hi
    have g := (h.place (k := i) (by rw [← h.same]; exact hi)).2.2
    have e := linked_at I R hi
    rcases Int.lt_or_le (getR (linked I R) i).Of 0 with p | p
    · exact .inl ⟨p, ho i hi p⟩
    · refine .inr ⟨p, ?_⟩
      have e2 : (getR (linked I R) i).Of = last I (getR R i).Of := by rw [e]; rfl
      rw [e2] at p ⊢
      have hk := last_is I _ p
      have lb := last_bounds I (getR R i).Of
      rw [(h.place (k := (last I (getR R i).Of).toNat) (by omega)).1] at hk
      rw [← g]
      exact hk.symm
  apart j hj hn k k0 k1 h1 h2 := by
    have hm := (hq.has_ j hj fun m hm => hn m (by rw [linked_len, h.same]; exact hm)).1
    refine both_free hb k0 k1 h2 ?_
    rw [List.any_eq_true]
    exact ⟨_, hm, h1⟩
end
end Go.SX

/- The law SolveApart answers true. No statement of the seat is proved here. -/
namespace Go.SX
open Go.Proofs
set_option maxRecDepth 20000
noncomputable def L6 : Ctr := (22, FC.sp [] fun _ => .bool true) :: (26, c26g) :: (39, c39) :: (35, c35h) :: L35
theorem L6ok : AllOk L6 := .cons ok22 (.cons ok26g (.cons ok39 (.cons ok35h L35ok)))
abbrev k6 : List AK := [.l .row, .l .row, .l .still, .s .i64]
def h6 : LH G := ⟨[0, 1, 2, 8, 9, 14, 15, 16, 17, 18, 19, 21], [], [4185, 8281, 4193, 8289, 4201, 8297]⟩
structure Six where
  a : List GRow
  c : List GRow
  b : List GStill
  R : List GRow
  S : List GStill
  X : List GRow
  T : List GStill
  Y : List GRow
  U : List GStill
def V6 (q : Six) (i : Int) : List (RV G) := [.rslice .row q.a, .rslice .row q.c, .rslice .still q.b, .bool false, .bool true, .own 4185 .row q.R.length, .own 8281 .still q.S.length, .own 4193 .row q.X.length, .own 8289 .still q.T.length, .own 4201 .row q.Y.length, .own 8297 .still q.U.length, .int .i64 i]
def B6 (q : Six) : List (Blk G) := [.rows .row q.R, .rows .still q.S, .rows .row q.X, .rows .still q.T, .rows .row q.Y, .rows .still q.U]
noncomputable def E6 (q : Six) : List (Nat × LC G) := [(20, lcOf h6 (V6 q 0) (B6 q) fun K => K (.exit 0) (V6 q q.b.length) (B6 q))]
def chk6 (q : Six) (i : Int) (w : GStill) (K : XE → List (RV G) → List (Blk G) → Ans G) (next : Ans G) : Ans G := atN q.S.length q.S i fun s => bif !stsame s w then K .ret (V6 q i) (B6 q) else next
theorem step6 (q : Six) (n : Nat) (i : Int) (K) : iter (EV L6 (E6 q)) h6 (lpBody Try.f6 0) (n + 1) (V6 q i) (B6 q) K = bif decide (i < (q.b.length : Int)) then
    (getI q.b i).bind fun w => (getI q.b i).bind fun s1 => bif (smoved s1 && q.a.any (ofAt i)) then
      atN q.T.length q.T i fun t => chk6 q i t K (iter (EV L6 (E6 q)) h6 (lpBody Try.f6 0) n (V6 q (IntKind.i64.wrap (i + 1))) (B6 q) K)
    else (getI q.b i).bind fun s2 => bif (smoved s2 && q.c.any (ofAt i)) then
      atN q.U.length q.U i fun t => chk6 q i t K (iter (EV L6 (E6 q)) h6 (lpBody Try.f6 0) n (V6 q (IntKind.i64.wrap (i + 1))) (B6 q) K)
    else chk6 q i w K (iter (EV L6 (E6 q)) h6 (lpBody Try.f6 0) n (V6 q (IntKind.i64.wrap (i + 1))) (B6 q) K)
  else K (.exit 0) (V6 q i) (B6 q) := by kernel_rfl
def sixOf (a c : List GRow) (b : List GStill) (n : Int) : Six :=
  ⟨a, c, b, (solved (joined2 a c) b n.toNat).1, (solved (joined2 a c) b n.toNat).2, (solved a b n.toNat).1, (solved a b n.toNat).2, (solved c b n.toNat).1, (solved c b n.toNat).2⟩
def G26 (l : List GRow) (b : List GStill) (n : Int) : Prop := (sasked l b != 0) = false ∧ (decide (n < 0) || decide (n > 64)) = false
theorem x6 (a c : List GRow) (b : List GStill) (n : Int) (K) : xfn (EV L6 (E6 (sixOf a c b n))) Try.f6 [] (encs k6 (a, c, b, n, ())) [] K =
    bif (decide ((a.length : Int) > 60) || decide ((c.length : Int) > 60)) || decide ((b.length : Int) > 60) then K (.bool true) [] [] else
    bif (!((apE a c b == 0) == (apE c a b == 0))) || (!(apB a c b == apB c a b)) then K (.bool false) [] [] else
    bif ((apE a c b != 0) || decide (n < 0)) || decide (n > 64) then K (.bool (true && !(apB a c b && (apE a c b != 0)))) [] [] else
    gate (Joins a c) (gate (G26 (joined2 a c) b n) (gate (G26 a b n) (gate (G26 c b n)
      (bif (((((((0 : Int) != 0) || ((0 : Int) != 0)) || ((0 : Int) != 0)) || (((sixOf a c b n).S.length : Int) != (b.length : Int))) || (((sixOf a c b n).T.length : Int) != (b.length : Int))) || (((sixOf a c b n).U.length : Int) != (b.length : Int))) then K (.bool false) [] [] else
        bif !apB a c b then K (.bool true) [] [] else
        gate (V6 (sixOf a c b n) 0 = V6 (sixOf a c b n) 0 ∧ B6 (sixOf a c b n) = B6 (sixOf a c b n))
          (gate (Joins (sixOf a c b n).X (sixOf a c b n).Y) (K (.bool (true && lsame r2same (sixOf a c b n).R (joined2 (sixOf a c b n).X (sixOf a c b n).Y))) [] [])))))) := by kernel_rfl
theorem getD_S {l : List GStill} {k : Nat} (h : k < l.length) : l[((k : Nat) : Int).toNat]? = some (getS l (k : Int)) := getS_at (by omega) (by omega)
theorem lp6 (q : Six) (hx : q.b.length < 9223372036854775808) (hS : q.S.length = q.b.length) (hT : q.T.length = q.b.length) (hU : q.U.length = q.b.length)
    (h : ∀ k : Int, 0 ≤ k → k < (q.b.length : Int) → getS q.S k = bif smoved (getS q.b k) && q.a.any (ofAt k) then getS q.T k else bif smoved (getS q.b k) && q.c.any (ofAt k) then getS q.U k else getS q.b k) :
    LpOk (EV L6 (E6 q)) [] (lpBody Try.f6 0) (lcOf h6 (V6 q 0) (B6 q) fun K => K (.exit 0) (V6 q q.b.length) (B6 q)) :=
  lcOf_ok (by kernel_rfl) fun K => ⟨_, fold_loop (N := q.b.length) (g := fun (_ : Unit) _ => ()) (F := fun n i _ => iter (EV L6 (E6 q)) h6 (lpBody Try.f6 0) n (V6 q i) (B6 q) K) (X := fun _ => K (.exit 0) (V6 q q.b.length) (B6 q)) (s0 := ()) (fun _ _ => True) trivial
    (fun n i _ hi _ => by
      have hc : ∀ w next, getS q.S (i : Int) = w → chk6 q (i : Int) w K next = next := fun w next hw => by
        unfold chk6
        rw [atN_at (by omega) (by omega) (getD_S (by omega)), hw, stsame_self]
        rfl
      have hk := h (i : Int) (by omega) (by omega)
      rw [step6, decide_eq_true (by omega), cond_true, getI_S' hi, Option.bind_some, Option.bind_some, Option.bind_some, wrap_succ (by omega)]
      cases h1 : smoved (getS q.b (i : Int)) && q.a.any (ofAt (i : Int)) with
      | true =>
        rw [h1] at hk
        rw [cond_true, atN_at (by omega) (by omega) (getD_S (by omega))]
        exact hc _ _ hk
      | false =>
        rw [h1, cond_false] at hk
        rw [cond_false]
        cases h2 : smoved (getS q.b (i : Int)) && q.c.any (ofAt (i : Int)) with
        | true =>
          rw [h2] at hk
          rw [cond_true, atN_at (by omega) (by omega) (getD_S (by omega))]
          exact hc _ _ hk
        | false =>
          rw [h2] at hk
          exact hc _ _ hk)
    (fun _ _ _ _ => trivial) (fun n _ _ => by rw [step6, decide_eq_false (by omega)]; rfl)⟩
theorem both_comm (a c : List GRow) (b : List GStill) : (List.range b.length).any (both a c b) = (List.range b.length).any (both c a b) := by
  congr 1
  funext k
  unfold both
  ac_rfl
theorem apB_comm (a c : List GRow) (b : List GStill) : apB a c b = apB c a b := by
  unfold apB
  rw [both_comm]
  cases sasked a b != 0 <;> cases sasked c b != 0 <;> rfl
theorem apE_zero (a c : List GRow) (b : List GStill) : (apE a c b == 0) = ((!(sasked a b != 0)) && !(sasked c b != 0)) := by
  unfold apE
  cases h : sasked a b != 0 with
  | true =>
    rw [cond_true]
    simp only [bne_iff_ne, ne_eq] at h
    simp [h]
  | false =>
    rw [cond_false]
    simp [bne]
theorem apB_err (a c : List GRow) (b : List GStill) (h : (apE a c b != 0) = true) : apB a c b = false := by
  have h2 : (apE a c b == 0) = false := by rw [bne] at h; simpa using h
  rw [apE_zero] at h2
  unfold apB
  cases h3 : sasked a b != 0 with
  | true => rfl
  | false =>
    rw [h3] at h2
    cases h4 : sasked c b != 0 with
    | true => rfl
    | false => rw [h4] at h2; cases h2
theorem asked_joins {a c : List GRow} {b : List GStill} (hl : a.length + c.length ≤ 120) (hc : Asked c b) {x y : List GRow} (h1 : x.length = a.length) (h2 : y.length = c.length) (h3 : ∀ j, (getR y j).Of = (getR c j).Of) : Joins x y := by
  refine ⟨by omega, fun k hk => ?_⟩
  have := (hc.fit k (by omega)).of_
  rw [h3]
  omega
theorem x6n (a c : List GRow) (b : List GStill) (n : Int) (K) : xfn (EV L6 []) Try.f6 [] (encs k6 (a, c, b, n, ())) [] K =
    bif (decide ((a.length : Int) > 60) || decide ((c.length : Int) > 60)) || decide ((b.length : Int) > 60) then K (.bool true) [] [] else
    bif (!((apE a c b == 0) == (apE c a b == 0))) || (!(apB a c b == apB c a b)) then K (.bool false) [] [] else
    bif ((apE a c b != 0) || decide (n < 0)) || decide (n > 64) then K (.bool (true && !(apB a c b && (apE a c b != 0)))) [] [] else
    gate (Joins a c) (gate (G26 (joined2 a c) b n) (gate (G26 a b n) (gate (G26 c b n)
      (bif (((((((0 : Int) != 0) || ((0 : Int) != 0)) || ((0 : Int) != 0)) || (((sixOf a c b n).S.length : Int) != (b.length : Int))) || (((sixOf a c b n).T.length : Int) != (b.length : Int))) || (((sixOf a c b n).U.length : Int) != (b.length : Int))) then K (.bool false) [] [] else
        bif !apB a c b then K (.bool true) [] [] else none)))) := by kernel_rfl
theorem second6 (a c : List GRow) (b : List GStill) : ((!((apE a c b == 0) == (apE c a b == 0))) || (!(apB a c b == apB c a b))) = false := by
  rw [apE_zero, apE_zero, apB_comm c a b]
  cases sasked a b != 0 <;> cases sasked c b != 0 <;> simp
theorem law6 (a c : List GRow) (b : List GStill) (n : Int) (hx : b.length < 9223372036854775808) : ∃ L lp, AllOk L ∧ LpsOk (EV L lp) [] (bodyD Try.f6) ∧ ∀ K, xfn (EV L lp) Try.f6 [] (encs k6 (a, c, b, n, ())) [] K = K (.bool true) [] [] := by
  have nolp : LpsOk (EV L6 []) [] (bodyD Try.f6) := LpsOk.of _ fun _ _ _ _ h => (by cases h)
  cases h1 : (decide ((a.length : Int) > 60) || decide ((c.length : Int) > 60)) || decide ((b.length : Int) > 60) with
  | true => exact ⟨L6, [], L6ok, nolp, fun K => by rw [x6n, h1]; rfl⟩
  | false =>
    simp only [Bool.or_eq_false_iff, decide_eq_false_iff_not] at h1
    have h1' : ((decide ((a.length : Int) > 60) || decide ((c.length : Int) > 60)) || decide ((b.length : Int) > 60)) = false := by
      simp only [Bool.or_eq_false_iff, decide_eq_false_iff_not]; exact h1
    have h2 := second6 a c b
    cases h3 : ((apE a c b != 0) || decide (n < 0)) || decide (n > 64) with
    | true =>
      have e : (apB a c b && (apE a c b != 0)) = false := by
        cases h4 : apE a c b != 0 with
        | true => rw [apB_err a c b h4]; rfl
        | false => simp
      exact ⟨L6, [], L6ok, nolp, fun K => by rw [x6n, h1', h2, h3, e]; rfl⟩
    | false =>
      have h3' := h3
      simp only [Bool.or_eq_false_iff] at h3'
      obtain ⟨⟨g1, g2⟩, g3⟩ := h3'
      have hz : (apE a c b == 0) = true := by rw [bne] at g1; simpa using g1
      rw [apE_zero] at hz
      simp only [Bool.and_eq_true, Bool.not_eq_true'] at hz
      obtain ⟨ea, ec⟩ := hz
      have ha := sasked_ok ea
      have hc := sasked_ok ec
      have hn : (decide (n < 0) || decide (n > 64)) = false := by rw [g2, g3]; rfl
      have hl : a.length + c.length ≤ 1048576 := by omega
      have ej := joined_asked ha hc hl
      have j0 : Joins a c := asked_joins (by omega) hc rfl rfl fun _ => rfl
      have l1 := (solved_len (joined2 a c) b n.toNat).2
      have l2 := (solved_len a b n.toNat).2
      have l3 := (solved_len c b n.toNat).2
      have hlen : (((((((0 : Int) != 0) || ((0 : Int) != 0)) || ((0 : Int) != 0)) || (((sixOf a c b n).S.length : Int) != (b.length : Int))) || (((sixOf a c b n).T.length : Int) != (b.length : Int))) || (((sixOf a c b n).U.length : Int) != (b.length : Int))) = false := by
        show (((((((0 : Int) != 0) || ((0 : Int) != 0)) || ((0 : Int) != 0)) || (((solved (joined2 a c) b n.toNat).2.length : Int) != (b.length : Int))) || (((solved a b n.toNat).2.length : Int) != (b.length : Int))) || (((solved c b n.toNat).2.length : Int) != (b.length : Int))) = false
        rw [l1, l2, l3]; simp
      cases h4 : apB a c b with
      | false =>
        exact ⟨L6, [], L6ok, nolp, fun K => by
          rw [x6n, h1', h2, h3, cond_false, cond_false, cond_false, gate_pos j0, gate_pos ⟨ej, hn⟩, gate_pos ⟨ea, hn⟩, gate_pos ⟨ec, hn⟩, hlen, h4]
          rfl⟩
      | true =>
        have hb : (List.range b.length).any (both a c b) = false := by
          unfold apB at h4
          rw [ea, ec] at h4
          simpa using h4
        have hr := joined_rows ha hc hl hb n.toNat
        have hs := joined_stills ha hc hl hb n.toNat
        have e1 := (sub_solved (sub_1 ha hb) (sasked_ok ej) ha n.toNat)
        have e2 := (sub_solved (sub_2 hc hb) (sasked_ok ej) hc n.toNat)
        have j1 : Joins (sixOf a c b n).X (sixOf a c b n).Y := asked_joins (by omega) hc e1.len' e2.len' fun j => (e2.keep' j).2.2
        refine ⟨L6, E6 (sixOf a c b n), L6ok, lps1 (i := 20) (by kernel_rfl) rfl (lp6 (sixOf a c b n) hx l1 l2 l3 hs), fun K => ?_⟩
        have hrr : lsame r2same (sixOf a c b n).R (joined2 (sixOf a c b n).X (sixOf a c b n).Y) = true := by
          show lsame r2same (solved (joined2 a c) b n.toNat).1 (joined2 (solved a b n.toNat).1 (solved c b n.toNat).1) = true
          rw [hr]
          exact lsame_self r2same_self _
        rw [x6, h1', h2, h3, cond_false, cond_false, cond_false, gate_pos j0, gate_pos ⟨ej, hn⟩, gate_pos ⟨ea, hn⟩, gate_pos ⟨ec, hn⟩, hlen, h4, cond_false, Bool.not_true, cond_false, gate_pos ⟨rfl, rfl⟩, gate_pos j1, hrr]
        rfl
theorem ok6 : FcOk Try.prog 6 (FC.sp k6 fun _ => .bool true) := sp_any Try.func6 (by kernel_rfl) (by kernel_rfl) fun (a, c, b, n, _) ⟨_, _, hx, _⟩ => law6 a c b n hx
end Go.SX

/- Only's contract. No statement of the seat is proved here. -/
namespace Go.SX
open Go.Proofs
set_option maxRecDepth 20000
theorem x37n (l : List GRow) (s : List Int) (h : tooMany l s = true) (K) : xfn (EV L35 []) Try.f37 [] (encs [.l .row, .l .i64] (l, s, ())) [] K = K (.tuple [.nilslice, .nilslice, .int .i64 4]) [] [] :=
  (show _ = (bif tooMany l s then K (.tuple [.nilslice, .nilslice, .int .i64 4]) [] [] else none) from by kernel_rfl).trans (by rw [h]; rfl)
theorem lp37_all (l : List GRow) (s : List Int) (h1 : tooMany l s = false) (h2 : l.any (rbad l.length 1024) = false) : LpsOk (EV L35 (E37 l s)) [] (bodyD Try.f37) := by
  unfold tooMany at h1
  simp only [Bool.or_eq_false_iff, decide_eq_false_iff_not] at h1
  have hk := gather_kept l s
  have k1 := hk.same
  have k2 := hk.few
  have k3 := hk.len
  exact lps3 (i := 4) (j := 14) (k := 21) (by kernel_rfl) rfl (lp37a _ l s (by omega)) rfl (lp37b _ l s (by omega)) rfl (lp37c _ _ _ _ (by omega) ⟨fun o ho => hk.at_ o (by omega), hk.nn, by omega⟩ fun k hk' => by
    have := bad_of h2 (hk.rows _ (List.mem_of_getElem? (getR_at hk')))
    omega)
theorem x37m (l : List GRow) (s : List Int) (h1 : tooMany l s = false) (h2 : l.any (rbad l.length 1024) = true) (K) : xfn (EV L35 (E37m l s)) Try.f37 [] (encs [.l .row, .l .i64] (l, s, ())) [] K = K (.tuple [.nilslice, .nilslice, .int .i64 200]) [] [] :=
  (show _ = (bif tooMany l s then K (.tuple [.nilslice, .nilslice, .int .i64 4]) [] [] else gate (W37a l s 0 0 = W37a l s 0 0 ∧ ([] : List (Blk G)) = []) (bif l.any (rbad l.length 1024) then K (.tuple [.nilslice, .nilslice, .int .i64 200]) [] [] else
    bif decide (0 ≤ (l.length : Int) ∧ (l.length : Int) * ((8 : Nat) : Int) ≤ 2 ^ 47 ∧ 0 < 8) then none else none)) from by kernel_rfl).trans (by rw [h1, cond_false, gate_pos ⟨rfl, rfl⟩, h2]; rfl)
theorem lps37m (l : List GRow) (s : List Int) (hx : l.length < 9223372036854775808) : LpsOk (EV L35 (E37m l s)) [] (bodyD Try.f37) := LpsOk.of _ fun i b lc hb hi => by
  have hl : loops (bodyD Try.f37) = [(some 4, lpBody Try.f37 0), (some 14, lpBody Try.f37 1), (some 21, lpBody Try.f37 2)] := by kernel_rfl
  rw [hl] at hb
  simp only [List.mem_cons, Prod.mk.injEq, Option.some.injEq, List.not_mem_nil, or_false] at hb
  rcases hb with ⟨rfl, rfl⟩ | ⟨rfl, rfl⟩ | ⟨rfl, rfl⟩
  · cases hi
    exact lp37a _ l s hx
  · cases hi
  · cases hi
theorem only_at (l : List GRow) (s : List Int) (hx : l.length < 9223372036854775808) : ∃ lp, LpsOk (EV L35 lp) [] (bodyD Try.f37) ∧ ∀ K o, runOnly l s K = some o → xfn (EV L35 lp) Try.f37 [] (encs [.l .row, .l .i64] (l, s, ())) [] K = some o := by
  cases h1 : tooMany l s with
  | true => exact ⟨[], LpsOk.of _ fun _ _ _ _ h => (by cases h), fun K o h => by unfold runOnly at h; rw [h1] at h; rw [x37n l s h1]; exact h⟩
  | false => cases h2 : l.any (rbad l.length 1024) with
    | true => exact ⟨E37m l s, lps37m l s hx, fun K o h => by unfold runOnly at h; rw [h1, h2] at h; rw [x37m l s h1 h2]; exact h⟩
    | false =>
      have hb : l.length ≤ 1048576 := by
        unfold tooMany at h1
        simp only [Bool.or_eq_false_iff, decide_eq_false_iff_not] at h1
        omega
      exact ⟨E37 l s, lp37_all l s h1 h2, fun K o h => by
        unfold runOnly at h
        rw [h1, h2, ← gather_same] at h
        rw [x37g, show (decide ((l.length : Int) > 1048576) || decide ((s.length : Int) > 1024)) = false from h1, cond_false, gate_pos ⟨rfl, rfl⟩, h2, cond_false, decide_eq_true (by omega), cond_true, gate_pos ⟨rfl, rfl⟩, gate_pos ⟨rfl, rfl⟩]
        exact h⟩
noncomputable def c37 : FC G := FC.rn [.l .row, .l .i64] fun (l, s, _) K => runOnly l s K
theorem ok37 : FcOk Try.prog 37 c37 := rn_lp L35ok Try.func37 (by kernel_rfl) (by kernel_rfl) (fun (l, s, _) K o h => runOnly_K l s K o h) fun (l, s, _) ⟨hx, _⟩ => only_at l s hx
end Go.SX

/- The reference's Only, whole. No statement of the seat is proved here. -/
namespace Go.SX
open Go.Proofs
set_option maxRecDepth 20000
def OUT38a (l : List GRow) (s : List Int) (K : XE → List (RV G) → List (Blk G) → Ans G) : Ans G := bif l.any (rbad l.length 1024) then K .ret (W38a l s 200 (l.findIdx (rbad l.length 1024) : Nat)) [] else K (.exit 0) (W38a l s 0 (l.length : Nat)) []
noncomputable def E38r (l : List GRow) (s : List Int) : List (Nat × LC G) :=
  [(4, lcOf h38a (W38a l s 0 0) [] (OUT38a l s)), (11, lcOf h38b (W38b l s [] [] 0) (B38 [] []) fun K => K (.exit 2) (W38b l s (gather1 l s).1 (gather1 l s).2 l.length) (B38 (gather1 l s).1 (gather1 l s).2)),
   (22, lcOf h38d (W38d (gather1 l s).1 (gather1 l s).2 0) (B38 (gather1 l s).1 (gather1 l s).2) fun K => K (.exit 6) (W38d (linked (gather1 l s).2 (gather1 l s).1) (gather1 l s).2 (gather1 l s).1.length) (B38 (linked (gather1 l s).2 (gather1 l s).1) (gather1 l s).2))]
theorem x38g (l : List GRow) (s : List Int) (K) : xfn (EV L35 ((15, lc38c) :: (26, lc38e) :: E38r l s)) Try.f38 [] (encs [.l .row, .l .i64] (l, s, ())) [] K =
    bif decide ((l.length : Int) > 1048576) || decide ((s.length : Int) > 1024) then K (.tuple [.nilslice, .nilslice, .int .i64 4]) [] [] else
    gate (W38a l s 0 0 = W38a l s 0 0 ∧ ([] : List (Blk G)) = []) (bif l.any (rbad l.length 1024) then K (.tuple [.nilslice, .nilslice, .int .i64 200]) [] [] else
      gate (W38b l s [] [] 0 = W38b l s [] [] 0 ∧ B38 [] [] = B38 [] []) (gate (W38d (gather1 l s).1 (gather1 l s).2 0 = W38d (gather1 l s).1 (gather1 l s).2 0 ∧ B38 (gather1 l s).1 (gather1 l s).2 = B38 (gather1 l s).1 (gather1 l s).2)
        (K (.tuple [.own 0 .row (linked (gather1 l s).2 (gather1 l s).1).length, .own 1 .i64 (gather1 l s).2.length, .int .i64 0]) [] [.rows .row (linked (gather1 l s).2 (gather1 l s).1), .rows .i64 (gather1 l s).2]))) := by kernel_rfl
theorem lp38a (lp : List (Nat × LC G)) (l : List GRow) (s : List Int) (hx : l.length < 9223372036854775808) : LpOk (EV L35 lp) [] (lpBody Try.f38 0) (lcOf h38a (W38a l s 0 0) [] (OUT38a l s)) := lcOf_ok (by kernel_rfl) fun K => ⟨_, find_loop (xs := l) (p := rbad l.length 1024) (F := fun n i => iter (EV L35 lp) h38a (lpBody Try.f38 0) n (W38a l s 0 i) [] K)
  (R := fun i => K .ret (W38a l s 200 i) []) (X := fun i => K (.exit 0) (W38a l s 0 i) []) (fun n i => by rw [step38a]; rfl) hx⟩
theorem lp38_all (l : List GRow) (s : List Int) (h1 : tooMany l s = false) : LpsOk (EV L35 ((15, lc38c) :: (26, lc38e) :: E38r l s)) [] (bodyD Try.f38) := LpsOk.of _ fun i b lc hb hi => by
  unfold tooMany at h1
  simp only [Bool.or_eq_false_iff, decide_eq_false_iff_not] at h1
  have hk := gather_kept l s
  rw [gather_same] at hk
  have k1 := hk.same
  have k2 := hk.few
  have hl : loops (bodyD Try.f38) = [(some 4, lpBody Try.f38 0), (some 11, lpBody Try.f38 1), (some 15, lpBody Try.f38 2), (some 22, lpBody Try.f38 3), (some 26, lpBody Try.f38 4)] := by kernel_rfl
  rw [hl] at hb
  simp only [List.mem_cons, Prod.mk.injEq, Option.some.injEq, List.not_mem_nil, or_false] at hb
  rcases hb with ⟨rfl, rfl⟩ | ⟨rfl, rfl⟩ | ⟨rfl, rfl⟩ | ⟨rfl, rfl⟩ | ⟨rfl, rfl⟩
  · cases hi; exact lp38a _ l s (by omega)
  · cases hi; exact lp38b _ l s (by omega) (by omega)
  · cases hi; exact lp38c _
  · cases hi; exact lp38d _ _ _ (by omega) (by omega)
  · cases hi; exact lp38e _
theorem x38n (l : List GRow) (s : List Int) (h : tooMany l s = true) (K) : xfn (EV L35 []) Try.f38 [] (encs [.l .row, .l .i64] (l, s, ())) [] K = K (.tuple [.nilslice, .nilslice, .int .i64 4]) [] [] :=
  (show _ = (bif tooMany l s then K (.tuple [.nilslice, .nilslice, .int .i64 4]) [] [] else none) from by kernel_rfl).trans (by rw [h]; rfl)
theorem only_at38 (l : List GRow) (s : List Int) : ∃ lp, LpsOk (EV L35 lp) [] (bodyD Try.f38) ∧ ∀ K o, runOnly l s K = some o → xfn (EV L35 lp) Try.f38 [] (encs [.l .row, .l .i64] (l, s, ())) [] K = some o := by
  cases h1 : tooMany l s with
  | true => exact ⟨[], LpsOk.of _ fun _ _ _ _ h => (by cases h), fun K o h => by unfold runOnly at h; rw [h1] at h; rw [x38n l s h1]; exact h⟩
  | false =>
    exact ⟨_, lp38_all l s h1, fun K o h => by
      unfold runOnly at h
      rw [h1, cond_false] at h
      rw [x38g, show (decide ((l.length : Int) > 1048576) || decide ((s.length : Int) > 1024)) = false from h1, cond_false, gate_pos ⟨rfl, rfl⟩, gate_pos ⟨rfl, rfl⟩, gate_pos ⟨rfl, rfl⟩]
      exact h⟩
noncomputable def c38 : FC G := FC.rn [.l .row, .l .i64] fun (l, s, _) K => runOnly l s K
theorem ok38 : FcOk Try.prog 38 c38 := rn_lp L35ok Try.func38 (by kernel_rfl) (by kernel_rfl) (fun (l, s, _) K o h => runOnly_K l s K o h) fun (l, s, _) _ => only_at38 l s
end Go.SX

/- spoil, of rows and no stills. No statement of the seat is proved here. -/
namespace Go.SX
open Go.Proofs
set_option maxRecDepth 20000
def h33p : LH G := ⟨[0, 1, 4], [], [0]⟩
def h33q : LH G := ⟨[0, 1, 5], [], [0]⟩
def W33p (r : List GRow) (i : Int) : List (RV G) := [.own 0 .row r.length, .nilslice, .int .i64 i]
noncomputable def E33p (r : List GRow) : List (Nat × LC G) := [(1, lcOf h33p (W33p r 0) [.rows .row r] fun K => K (.exit 0) (W33p (over r) r.length) [.rows .row (over r)]), (5, lcOf h33q (W33p (over r) 0) [.rows .row (over r)] fun K => K (.exit 2) (W33p (over r) 0) [.rows .row (over r)]), (9, lc33c (over r) [])]
theorem step33p (r0 r : List GRow) (n : Nat) (i : Int) (K) : iter (EV L29 (E33p r0)) h33p (lpBody Try.f33 0) (n + 1) (W33p r i) [.rows .row r] K = bif decide (i < (r.length : Int)) then
    atN r.length r i fun _ => iter (EV L29 (E33p r0)) h33p (lpBody Try.f33 0) n (W33p (r.set i.toNat row98) (IntKind.i64.wrap (i + 1))) [.rows .row (r.set i.toNat row98)] K
  else K (.exit 0) (W33p r i) [.rows .row r] := by kernel_rfl
theorem step33q (r0 r : List GRow) (n : Nat) (K) : iter (EV L29 (E33p r0)) h33q (lpBody Try.f33 1) (n + 1) (W33p r 0) [.rows .row r] K = K (.exit 2) (W33p r 0) [.rows .row r] := by kernel_rfl
theorem x33p (r : List GRow) : xcode (EV L29 (E33p r)) (bodyD Try.f33) ⟨startT [.own 0 .row r.length, .nilslice], startM (muIds [0, 1] [(.own 0 .row r.length : RV G), .nilslice]) [.rows .row r]⟩ end33 =
    gate (W33p r 0 = W33p r 0 ∧ ([.rows .row r] : List (Blk G)) = [.rows .row r]) (gate (W33p (over r) 0 = W33p (over r) 0 ∧ ([.rows .row (over r)] : List (Blk G)) = [.rows .row (over r)]) (gate (V33 (over r) [] 0 = V33 (over r) [] 0 ∧ Bq (over r, []) = Bq (over r, [])) (tail33 (more4 (over r, []))))) := by kernel_rfl
theorem lp33p (r : List GRow) (hr : r.length ≤ 1048576) : LpOk (EV L29 (E33p r)) [] (lpBody Try.f33 0) (lcOf h33p (W33p r 0) [.rows .row r] fun K => K (.exit 0) (W33p (over r) r.length) [.rows .row (over r)]) :=
  lcOf_ok (by kernel_rfl) fun K => ⟨_, fold_loop (N := r.length) (g := fun r i => r.set i row98) (F := fun k i (t : List GRow) => iter (EV L29 (E33p r)) h33p (lpBody Try.f33 0) k (W33p t i) [.rows .row t] K) (X := fun (t : List GRow) => K (.exit 0) (W33p t r.length) [.rows .row t]) (s0 := r) (fun _ t => t.length = r.length) rfl
    (fun k i t hi ht => by rw [step33p, decide_eq_true (by omega), cond_true, atN_any (by omega) (by omega) (Nat.le_refl _), wrap_succ (by omega), Int.toNat_natCast])
    (fun i t _ ht => by simp [ht]) (fun k t ht => by rw [step33p, decide_eq_false (by omega)]; rfl)⟩
/-- What spoil is handed of rows alone. -/
inductive Ok33b : List (RV G) → List (Blk G) → Prop where
  | own (r : List GRow) (hr : r.length ≤ 1048576) : Ok33b [.own 0 .row r.length, .nilslice] [.rows .row r]
  | nil : Ok33b [.nilslice, .nilslice] []
noncomputable def c33b : FC G := FC.ofRun [0, 1] fun vs bs K => gate (Ok33b vs bs) (K (.tuple []) (bs.map fun _ => .dead) [])
theorem ok33b : FcOk Try.prog 33 c33b := dead_lp L29ok Try.func33 (by kernel_rfl) (by kernel_rfl) (ok := Ok33b) (fun vs bs h => by
    cases h with
    | own r hr => exact ⟨Nat.le_of_ble_eq_true (by kernel_rfl), E33p r, lps3 (i := 1) (j := 5) (k := 9) (by kernel_rfl) rfl (lp33p r hr) rfl (lcOf_ok (by kernel_rfl) fun K => ⟨_, step33q r (over r) 0 K⟩) rfl (lp33c _ _ _ (by rw [over_len]; exact hr) (by decide)), (.tuple [], [], []), (x33p r).trans (by
        rw [gate_pos ⟨rfl, rfl⟩, gate_pos ⟨rfl, rfl⟩, gate_pos ⟨rfl, rfl⟩, tail33_done (by rw [(more4_len _).1]; omega)]
        rfl)⟩
    | nil => exact ⟨Nat.le_of_ble_eq_true (by kernel_rfl), E33n, lps3 (i := 1) (j := 5) (k := 9) (by kernel_rfl) rfl (lcOf_ok (by kernel_rfl) fun K => ⟨_, step33x 0 K⟩) rfl (lcOf_ok (by kernel_rfl) fun K => ⟨_, step33y 0 K⟩) rfl (lp33c _ _ _ (by decide) (by decide)), (.tuple [], [], []), x33n.trans (by
        rw [gate_pos ⟨rfl, rfl⟩, gate_pos ⟨rfl, rfl⟩, gate_pos ⟨rfl, rfl⟩, tail33_done (by rw [(more4_len _).1]; omega)]
        rfl)⟩)
  fun vs bs K o h => by
    obtain ⟨h0, h1⟩ := gate_some h
    refine ⟨h0, ?_, h1⟩
    cases h0 <;> rfl
end Go.SX

/- The law SolveParts: its loop. No statement of the seat is proved here. -/
namespace Go.SX
open Go.Proofs
set_option maxRecDepth 20000
inductive OnlyRes where
  | fails (e : Int)
  | keeps (R : List GRow) (I : List Int)
def OnlyRes.r : OnlyRes → RV G
  | .fails e => .tuple [.nilslice, .nilslice, .int .i64 e]
  | .keeps R I => .tuple [.own 0 .row R.length, .own 1 .i64 I.length, .int .i64 0]
def OnlyRes.fr : OnlyRes → List (Blk G)
  | .fails _ => []
  | .keeps R I => [.rows .row R, .rows .i64 I]
theorem runOnly_res (l : List GRow) (s : List Int) : ∃ q : OnlyRes, (∀ R I, q = .keeps R I → R.length ≤ 1048576 ∧ I.length ≤ 1048576) ∧ ∀ K, runOnly l s K = K q.r [] q.fr := by
  unfold runOnly
  cases h1 : tooMany l s with
  | true => exact ⟨.fails 4, fun R I h => (by cases h), fun K => rfl⟩
  | false => cases h2 : l.any (rbad l.length 1024) with
    | true => exact ⟨.fails 200, fun R I h => (by cases h), fun K => rfl⟩
    | false =>
      refine ⟨.keeps _ _, fun R I h => ?_, fun K => rfl⟩
      cases h
      have hk := gather_kept l s
      rw [gather_same] at hk
      have k1 := hk.same
      have k2 := hk.few
      unfold tooMany at h1
      simp only [Bool.or_eq_false_iff, decide_eq_false_iff_not] at h1
      rw [linked_len]
      omega
theorem rapart_res (l c : List GRow) (b : List GStill) : ∃ (v : Bool) (e : Int), rapart l c b = .tuple [.bool v, .int .i64 e] := by
  unfold rapart
  cases sasked l b != 0 <;> cases sasked c b != 0 <;> exact ⟨_, _, rfl⟩
abbrev kP : List AK := [.l .row, .l .row, .l .still, .l .i64]
noncomputable def LP (l c : List GRow) (b : List GStill) (s : List Int) (q : OnlyRes) (v : Bool) (e : Int) : Ctr :=
  (24, FC.at [.l .row] (l, ()) (.slice 0 .row 0 l.length) [.rows .row (l ++ [mark24])]) :: (25, FC.at [.l .still] (b, ()) (.slice 0 .still 0 b.length) [.rows .still (b ++ [mark25])]) ::
  (35, FC.at [.l .row, .l .row, .l .still] (l, c, b, ()) (.tuple [.bool v, .int .i64 e]) []) :: (36, FC.at [.l .row, .l .row, .l .still] (l, c, b, ()) (.tuple [.bool v, .int .i64 e]) []) ::
  (37, FC.at [.l .row, .l .i64] (l, s, ()) q.r q.fr) :: (38, FC.at [.l .row, .l .i64] (l, s, ()) q.r q.fr) :: (33, c33b) ::
  (34, FC.at kK (lentK l b) (.bool true) []) :: LS
theorem LP_ok {l c : List GRow} {b : List GStill} {s : List Int} {q : OnlyRes} {v : Bool} {e : Int} (hb : Fits47 l b) (hq : ∀ K, runOnly l s K = K q.r [] q.fr) (he : rapart l c b = .tuple [.bool v, .int .i64 e]) : AllOk (LP l c b s q v e) :=
  .cons (at_ok ok24 (run24_at l hb.1)) (.cons (at_ok ok25 (run25_at b hb.2)) (.cons (at_ok (sp_rn ok35) fun K => by show K (rapart l c b) [] [] = _; rw [he]) (.cons (at_ok (sp_rn ok36) fun K => by show K (rapart l c b) [] [] = _; rw [he])
    (.cons (at_ok ok37 hq) (.cons (at_ok ok38 hq) (.cons ok33b (.cons (at_ok ok34 (run34_at l b (by have := hb.1; omega) (by have := hb.2; omega))) LS_ok)))))))
end Go.SX

/- The law SolveOnly: its walk. No statement of the seat is proved here. -/
namespace Go.SX
open Go.Proofs
set_option maxRecDepth 20000
abbrev k7 : List AK := [.l .row, .l .still, .l .i64, .s .i64]
def big7 (l : List GRow) (b : List GStill) (n : Int) : Bool := ((decide ((l.length : Int) > 60) || decide ((b.length : Int) > 60)) || decide (n < 0)) || decide (n > 64)
noncomputable def L7n : Ctr := (22, FC.sp [] fun _ => .bool true) :: []
theorem L7n_ok : AllOk L7n := .cons ok22 fun x hx => by simp at hx
noncomputable def L7f (l : List GRow) (s : List Int) (q : OnlyRes) : Ctr := (37, FC.at [.l .row, .l .i64] (l, s, ()) q.r q.fr) :: L7n
theorem L7f_ok {l : List GRow} {s : List Int} {q : OnlyRes} (hq : ∀ K, runOnly l s K = K q.r [] q.fr) : AllOk (L7f l s q) := .cons (at_ok ok37 hq) L7n_ok
noncomputable def L7g (l : List GRow) (b : List GStill) (n : Int) (s : List Int) (q : OnlyRes) (e : Int) : Ctr := (26, FC.at kA (l, b, n, ()) (.tuple [.nilslice, .nilslice, .int .i64 e]) []) :: L7f l s q
noncomputable def L7 (l : List GRow) (s : List Int) (R : List GRow) (I : List Int) : Ctr := (37, FC.at [.l .row, .l .i64] (l, s, ()) (OnlyRes.keeps R I).r (OnlyRes.keeps R I).fr) :: L6
theorem L7_ok {l : List GRow} {s : List Int} {R : List GRow} {I : List Int} (hq : ∀ K, runOnly l s K = K (OnlyRes.keeps R I).r [] (OnlyRes.keeps R I).fr) : AllOk (L7 l s R I) := .cons (at_ok ok37 hq) L6ok
theorem x7n (l : List GRow) (b : List GStill) (s : List Int) (n : Int) (K) : xfn (EV L7n []) Try.f7 [] (encs k7 (l, b, s, n, ())) [] K = bif big7 l b n then K (.bool true) [] [] else none := by kernel_rfl
theorem x7f (l : List GRow) (b : List GStill) (s : List Int) (n : Int) (e : Int) (K) : xfn (EV (L7f l s (.fails e)) []) Try.f7 [] (encs k7 (l, b, s, n, ())) [] K =
    bif big7 l b n then K (.bool true) [] [] else gate ((l, s, ()) = (l, s, ())) (bif e != 0 then K (.bool true) [] [] else none) := by kernel_rfl
theorem x7g (l : List GRow) (b : List GStill) (s : List Int) (n : Int) (R : List GRow) (I : List Int) (e : Int) (K) : xfn (EV (L7g l b n s (.keeps R I) e) []) Try.f7 [] (encs k7 (l, b, s, n, ())) [] K =
    bif big7 l b n then K (.bool true) [] [] else gate ((l, s, ()) = (l, s, ())) (gate ((l, b, n, ()) = (l, b, n, ())) (bif e != 0 then K (.bool true) [] [] else none)) := by kernel_rfl
structure Seven where
  l : List GRow
  b : List GStill
  n : Int
  s : List Int
  R : List GRow
  I : List Int
  P : List GRow
  S : List GStill
  X : List GRow
  T : List GStill
noncomputable def Seven.L (q : Seven) : Ctr := L7 q.l q.s q.R q.I
/-! ### loop 1 -/
def h7a : LH G := ⟨[0, 1, 3, 8, 9, 10, 11, 13, 14, 16, 17], [(15, .row, 900)], [4146, 8242, 4167, 8263]⟩
def V7a (q : Seven) (Q : List GRow) (k i : Int) : List (RV G) := [.rslice .row q.l, .rslice .still q.b, .int .i64 q.n, .bool false, .bool true, .own 4146 .row q.R.length, .own 8242 .i64 q.I.length, .own 4167 .row q.P.length, .own 8263 .still q.S.length, .int .i64 k, .int .i64 i, .own 900 .row Q.length]
def V7ar (q : Seven) (Q : List GRow) (k i : Int) : List (RV G) := [.rslice .row q.l, .rslice .still q.b, .int .i64 q.n, .bool true, .bool true, .own 4146 .row q.R.length, .own 8242 .i64 q.I.length, .own 4167 .row q.P.length, .own 8263 .still q.S.length, .int .i64 k, .int .i64 i, .own 900 .row Q.length]
def B7a (q : Seven) (Q : List GRow) : List (Blk G) := [.rows .row q.R, .rows .i64 q.I, .rows .row q.P, .rows .still q.S, .rows .row Q]
def put7 (q : Seven) (Q : List GRow) (k i : Int) (K : XE → List (RV G) → List (Blk G) → Ans G) (next : List GRow → Ans G) : Ans G :=
  (getI q.l i).bind fun x => bif decide (x.Of ≥ 0) then K .ret (V7ar q Q k i) (B7a q Q) else (getI q.l i).bind fun y => bif decide ((Q ++ [y]).length * 112 ≤ 2 ^ 47) then next (Q ++ [y]) else none
theorem step7a (lp : List (Nat × LC G)) (q : Seven) (Q : List GRow) (n : Nat) (k i : Int) (K) : iter (EV q.L lp) h7a (lpBody Try.f7 0) (n + 1) (V7a q Q k i) (B7a q Q) K = bif decide (i < (q.l.length : Int)) then
    bif decide (k < (q.I.length : Int)) then atN q.I.length q.I k fun v => bif v == i then iter (EV q.L lp) h7a (lpBody Try.f7 0) n (V7a q Q (IntKind.i64.wrap (k + 1)) (IntKind.i64.wrap (i + 1))) (B7a q Q) K
      else put7 q Q k i K fun Q' => iter (EV q.L lp) h7a (lpBody Try.f7 0) n (V7a q Q' k (IntKind.i64.wrap (i + 1))) (B7a q Q') K
    else put7 q Q k i K fun Q' => iter (EV q.L lp) h7a (lpBody Try.f7 0) n (V7a q Q' k (IntKind.i64.wrap (i + 1))) (B7a q Q') K
  else K (.exit 0) (V7a q Q k i) (B7a q Q) := by kernel_rfl
/-! ### loop 2 -/
def h7b : LH G := ⟨[0, 1, 3, 8, 9, 10, 11, 13, 14, 15, 18], [], [4146, 8242, 4167, 8263, 900]⟩
def V7b (q : Seven) (Q : List GRow) (i : Int) : List (RV G) := [.rslice .row q.l, .rslice .still q.b, .int .i64 q.n, .bool false, .bool true, .own 4146 .row q.R.length, .own 8242 .i64 q.I.length, .own 4167 .row q.P.length, .own 8263 .still q.S.length, .own 900 .row Q.length, .int .i64 i]
def V7br (q : Seven) (Q : List GRow) (i : Int) : List (RV G) := [.rslice .row q.l, .rslice .still q.b, .int .i64 q.n, .bool true, .bool true, .own 4146 .row q.R.length, .own 8242 .i64 q.I.length, .own 4167 .row q.P.length, .own 8263 .still q.S.length, .own 900 .row Q.length, .int .i64 i]
theorem step7b (lp : List (Nat × LC G)) (q : Seven) (Q : List GRow) (n : Nat) (i : Int) (K) : iter (EV q.L lp) h7b (lpBody Try.f7 1) (n + 1) (V7b q Q i) (B7a q Q) K = bif decide (i < (q.R.length : Int)) then
    atN q.R.length q.R i fun x => bif decide (x.Of < 0) then atN q.I.length q.I i fun v => (getI q.l v).bind fun y => bif decide (y.Of ≥ 0) then K .ret (V7br q Q i) (B7a q Q) else iter (EV q.L lp) h7b (lpBody Try.f7 1) n (V7b q Q (IntKind.i64.wrap (i + 1))) (B7a q Q) K
      else iter (EV q.L lp) h7b (lpBody Try.f7 1) n (V7b q Q (IntKind.i64.wrap (i + 1))) (B7a q Q) K
  else K (.exit 2) (V7b q Q i) (B7a q Q) := by kernel_rfl
/-! ### loop 3 -/
def h7c : LH G := ⟨[8, 9, 10, 11, 13, 14, 20, 21, 23], [], [4146, 8242, 4167, 8263, 4243, 8339]⟩
def h7d : LH G := ⟨[8, 9, 10, 11, 13, 14, 20, 21, 23, 25], [], [4146, 8242, 4167, 8263, 4243, 8339]⟩
def V7c (q : Seven) (i : Int) : List (RV G) := [.bool false, .bool true, .own 4146 .row q.R.length, .own 8242 .i64 q.I.length, .own 4167 .row q.P.length, .own 8263 .still q.S.length, .own 4243 .row q.X.length, .own 8339 .still q.T.length, .int .i64 i]
def B7c (q : Seven) : List (Blk G) := [.rows .row q.R, .rows .i64 q.I, .rows .row q.P, .rows .still q.S, .rows .row q.X, .rows .still q.T]
noncomputable def in7 (q : Seven) : Nat × LC G := (41, ⟨h7d, iter (EV q.L []) h7d (lpBody Try.f7 3) 4⟩)
def two7 (q : Seven) (a : Int) (i : Int) (K : XE → List (RV G) → List (Blk G) → Ans G) (next : Ans G) : Ans G := atN q.T.length q.T a fun t => atN q.S.length q.S a fun s => bif !stsame t s then K .ret (V7c q i) (B7c q) else next
theorem step7c (q : Seven) (lp : List (Nat × LC G)) (n : Nat) (i : Int) (K) : iter (EV q.L (in7 q :: lp)) h7c (lpBody Try.f7 2) (n + 1) (V7c q i) (B7c q) K = bif decide (i < (q.R.length : Int)) then
    atN q.I.length q.I i fun v => atN q.P.length q.P v fun w => atN q.R.length q.R i fun m => atN q.X.length q.X i fun x => bif !r2same x { w with Of := m.Of } then K .ret (V7c q i) (B7c q) else
      atN q.R.length q.R i fun m0 => two7 q m0.A i K (atN q.R.length q.R i fun _ => atN q.R.length q.R i fun m2 => two7 q m2.B i K
        (iter (EV q.L (in7 q :: lp)) h7c (lpBody Try.f7 2) n (V7c q (IntKind.i64.wrap (i + 1))) (B7c q) K))
  else K (.exit 4) (V7c q i) (B7c q) := by kernel_rfl
end Go.SX

/- The law SolveOnly answers true. No statement of the seat is proved here. -/
namespace Go.SX
open Go.Proofs
set_option maxRecDepth 20000
def sevenOf (l : List GRow) (b : List GStill) (n : Int) (s : List Int) (R : List GRow) (I : List Int) : Seven := ⟨l, b, n, s, R, I, (solved l b n.toNat).1, (solved l b n.toNat).2, (solved R b n.toNat).1, (solved R b n.toNat).2⟩
noncomputable def lc7a (q : Seven) (e : XE) (vs : List (RV G)) (bs : List (Blk G)) : Nat × LC G := (15, lcOf h7a (V7a q [] 0 0) (B7a q []) fun K => K e vs bs)
noncomputable def lc7b (q : Seven) (Q : List GRow) (e : XE) (vs : List (RV G)) (bs : List (Blk G)) : Nat × LC G := (23, lcOf h7b (V7b q Q 0) (B7a q Q) fun K => K e vs bs)
noncomputable def lc7c (q : Seven) : Nat × LC G := (34, lcOf h7c (V7c q 0) (B7c q) fun K => K (.exit 4) (V7c q q.R.length) (B7c q))
section
variable (l : List GRow) (b : List GStill) (s : List Int) (n : Int) (R : List GRow) (I : List Int) (K : RV G → List (Blk G) → List (Blk G) → Ans G)
theorem x7a (Q : List GRow) (k i : Int) : xfn (EV (sevenOf l b n s R I).L [lc7a (sevenOf l b n s R I) .ret (V7ar (sevenOf l b n s R I) Q k i) (B7a (sevenOf l b n s R I) Q)]) Try.f7 [] (encs k7 (l, b, s, n, ())) [] K =
    bif big7 l b n then K (.bool true) [] [] else gate ((l, s, ()) = (l, s, ())) (gate (G26 l b n) (gate (V7a (sevenOf l b n s R I) [] 0 0 = V7a (sevenOf l b n s R I) [] 0 0 ∧ B7a (sevenOf l b n s R I) [] = B7a (sevenOf l b n s R I) [])
      (K (.bool true) [] []))) := by kernel_rfl
theorem x7b (Q : List GRow) (k i : Int) : xfn (EV (sevenOf l b n s R I).L [lc7a (sevenOf l b n s R I) (.exit 0) (V7a (sevenOf l b n s R I) Q k l.length) (B7a (sevenOf l b n s R I) Q), lc7b (sevenOf l b n s R I) Q .ret (V7br (sevenOf l b n s R I) Q i) (B7a (sevenOf l b n s R I) Q)]) Try.f7 [] (encs k7 (l, b, s, n, ())) [] K =
    bif big7 l b n then K (.bool true) [] [] else gate ((l, s, ()) = (l, s, ())) (gate (G26 l b n) (gate (V7a (sevenOf l b n s R I) [] 0 0 = V7a (sevenOf l b n s R I) [] 0 0 ∧ B7a (sevenOf l b n s R I) [] = B7a (sevenOf l b n s R I) [])
      (gate (V7b (sevenOf l b n s R I) Q 0 = V7b (sevenOf l b n s R I) Q 0 ∧ B7a (sevenOf l b n s R I) Q = B7a (sevenOf l b n s R I) Q) (K (.bool true) [] [])))) := by kernel_rfl
theorem x7c (Q : List GRow) (k : Int) : xfn (EV (sevenOf l b n s R I).L [lc7a (sevenOf l b n s R I) (.exit 0) (V7a (sevenOf l b n s R I) Q k l.length) (B7a (sevenOf l b n s R I) Q), lc7b (sevenOf l b n s R I) Q (.exit 2) (V7b (sevenOf l b n s R I) Q R.length) (B7a (sevenOf l b n s R I) Q)]) Try.f7 [] (encs k7 (l, b, s, n, ())) [] K =
    bif big7 l b n then K (.bool true) [] [] else gate ((l, s, ()) = (l, s, ())) (gate (G26 l b n) (gate (V7a (sevenOf l b n s R I) [] 0 0 = V7a (sevenOf l b n s R I) [] 0 0 ∧ B7a (sevenOf l b n s R I) [] = B7a (sevenOf l b n s R I) [])
      (gate (V7b (sevenOf l b n s R I) Q 0 = V7b (sevenOf l b n s R I) Q 0 ∧ B7a (sevenOf l b n s R I) Q = B7a (sevenOf l b n s R I) Q) (gate (G26 R b n)
        (bif ((apE R Q b != 0) || ((0 : Int) != 0)) then K (.bool false) [] [] else bif !apB R Q b then K (.bool true) [] [] else none))))) := by kernel_rfl
theorem x7d (Q : List GRow) (k : Int) : xfn (EV (sevenOf l b n s R I).L [in7 (sevenOf l b n s R I), lc7a (sevenOf l b n s R I) (.exit 0) (V7a (sevenOf l b n s R I) Q k l.length) (B7a (sevenOf l b n s R I) Q), lc7b (sevenOf l b n s R I) Q (.exit 2) (V7b (sevenOf l b n s R I) Q R.length) (B7a (sevenOf l b n s R I) Q), lc7c (sevenOf l b n s R I)]) Try.f7 [] (encs k7 (l, b, s, n, ())) [] K =
    bif big7 l b n then K (.bool true) [] [] else gate ((l, s, ()) = (l, s, ())) (gate (G26 l b n) (gate (V7a (sevenOf l b n s R I) [] 0 0 = V7a (sevenOf l b n s R I) [] 0 0 ∧ B7a (sevenOf l b n s R I) [] = B7a (sevenOf l b n s R I) [])
      (gate (V7b (sevenOf l b n s R I) Q 0 = V7b (sevenOf l b n s R I) Q 0 ∧ B7a (sevenOf l b n s R I) Q = B7a (sevenOf l b n s R I) Q) (gate (G26 R b n)
        (bif ((apE R Q b != 0) || ((0 : Int) != 0)) then K (.bool false) [] [] else bif !apB R Q b then K (.bool true) [] [] else
          gate (V7c (sevenOf l b n s R I) 0 = V7c (sevenOf l b n s R I) 0 ∧ B7c (sevenOf l b n s R I) = B7c (sevenOf l b n s R I)) (K (.bool true) [] [])))))) := by kernel_rfl
end
/-! ### the first loop -/
def mine7 (I : List Int) (k i : Nat) : Bool := decide ((k : Int) < (I.length : Int)) && (I.getD k 0 == (i : Int))
def stop7 (l : List GRow) (I : List Int) (t : Nat × List GRow) (i : Nat) : Bool := !mine7 I t.1 i && decide ((getR l i).Of ≥ 0)
def next7 (l : List GRow) (I : List Int) (t : Nat × List GRow) (i : Nat) : Nat × List GRow := bif mine7 I t.1 i then (t.1 + 1, t.2) else (t.1, t.2 ++ [getR l i])
structure Inv7 (l : List GRow) (I : List Int) (i : Nat) (t : Nat × List GRow) : Prop where
  kle : t.1 ≤ I.length
  before : ∀ m, m < t.1 → placeOf I m < i
  after : ∀ m, t.1 ≤ m → m < I.length → i ≤ placeOf I m
  few : t.2.length ≤ i
  from_ : ∀ x ∈ t.2, x ∈ l ∧ x.Of < 0
  has_ : ∀ j, j < i → (∀ m, m < I.length → placeOf I m ≠ j) → getR l j ∈ t.2 ∧ (getR l j).Of < 0
theorem Inv7.step {l : List GRow} {R : List GRow} {I : List Int} (hg : Gathered l l.length R I) {i : Nat} {t : Nat × List GRow} (hi : i < l.length) (h : Inv7 l I i t) (hp : stop7 l I t i = false) : Inv7 l I (i + 1) (next7 l I t i) := by
  have mono : ∀ a b, a < b → b < I.length → placeOf I a < placeOf I b := fun a b hab hb => by
    have := hg.mono a b hab hb
    rw [(hg.place (by omega)).1, (hg.place hb).1] at this
    omega
  unfold next7
  cases hm : mine7 I t.1 i with
  | true =>
    unfold mine7 at hm
    simp only [Bool.and_eq_true, decide_eq_true_eq, beq_iff_eq] at hm
    have hk : t.1 < I.length := by omega
    have hpl : placeOf I t.1 = i := by unfold placeOf; rw [hm.2]; simp
    refine ⟨?_, fun m hm' => ?_, fun m h1 h2 => ?_, ?_, h.from_, fun j hj hn => ?_⟩
    · simp only [cond_true]; omega
    · simp only [cond_true] at hm'
      rcases Nat.lt_or_ge m t.1 with g | g
      · have := h.before m g; omega
      · have : m = t.1 := by omega
        subst this; omega
    · simp only [cond_true] at h1
      have := mono t.1 m (by omega) h2
      omega
    · have := h.few; simp only [cond_true]; omega
    · rcases Nat.lt_or_ge j i with g | g
      · exact h.has_ j g hn
      · have : j = i := by omega
        subst this
        exact absurd hpl (hn _ hk)
  | false =>
    have hof : (getR l i).Of < 0 := by
      unfold stop7 at hp
      rw [hm] at hp
      simp only [Bool.not_false, Bool.true_and, decide_eq_false_iff_not] at hp
      omega
    have hne : ∀ m, m < I.length → placeOf I m ≠ i := fun m hm' e => by
      rcases Nat.lt_or_ge m t.1 with g | g
      · have := h.before m g; omega
      · rcases Nat.lt_or_ge t.1 m with g2 | g2
        · have := mono t.1 m g2 hm'
          have := h.after t.1 (Nat.le_refl _) (by omega)
          omega
        · have : m = t.1 := by omega
          subst this
          have e2 := (hg.place hm').1
          rw [e] at e2
          unfold mine7 at hm
          rw [e2, decide_eq_true (by omega)] at hm
          simp at hm
    refine ⟨h.kle, fun m hm' => by have := h.before m hm'; omega, fun m h1 h2 => ?_, ?_, fun x hx => ?_, fun j hj hn => ?_⟩
    · have := h.after m h1 h2
      have := hne m h2
      omega
    · have := h.few; simp only [cond_false, List.length_append, List.length_singleton]; omega
    · simp only [cond_false, List.mem_append, List.mem_singleton] at hx
      rcases hx with hx | rfl
      · exact h.from_ x hx
      · exact ⟨List.mem_of_getElem? (getR_at hi), hof⟩
    · simp only [cond_false, List.mem_append, List.mem_singleton]
      rcases Nat.lt_or_ge j i with g | g
      · have := h.has_ j g hn; exact ⟨.inl this.1, this.2⟩
      · have : j = i := by omega
        subst this
        exact ⟨.inr rfl, hof⟩
theorem Inv7.rest {l : List GRow} {I : List Int} {t : Nat × List GRow} (h : Inv7 l I l.length t) : Rest7 l I t.2 := ⟨h.few, h.from_, h.has_⟩
theorem run7a {q : Seven} {R : List GRow} (hg : Gathered q.l q.l.length R q.I) (hl : q.l.length ≤ 60) (hI : q.I.length ≤ q.l.length) (lp : List (Nat × LC G)) :
    (∃ (i : Nat) (t : Nat × List GRow), ∀ K, iter (EV q.L lp) h7a (lpBody Try.f7 0) (q.l.length + 1) (V7a q [] 0 0) (B7a q []) K = K .ret (V7ar q t.2 t.1 i) (B7a q t.2)) ∨
    ∃ t : Nat × List GRow, Inv7 q.l q.I q.l.length t ∧ ∀ K, iter (EV q.L lp) h7a (lpBody Try.f7 0) (q.l.length + 1) (V7a q [] 0 0) (B7a q []) K = K (.exit 0) (V7a q t.2 t.1 q.l.length) (B7a q t.2) := by
  have z : Inv7 q.l q.I 0 (0, []) := ⟨Nat.zero_le _, fun m hm => absurd hm (Nat.not_lt_zero _), fun _ _ _ => Nat.zero_le _, Nat.le_refl _, fun x hx => by simp at hx, fun j hj => absurd hj (Nat.not_lt_zero _)⟩
  have h := exit_loop (N := q.l.length) (p := stop7 q.l q.I) (g := next7 q.l q.I) (F := fun K n i (t : Nat × List GRow) => iter (EV q.L lp) h7a (lpBody Try.f7 0) n (V7a q t.2 t.1 i) (B7a q t.2) K)
    (R := fun K i t => K .ret (V7ar q t.2 t.1 i) (B7a q t.2)) (X := fun K t => K (.exit 0) (V7a q t.2 t.1 q.l.length) (B7a q t.2)) (s0 := (0, [])) (Inv7 q.l q.I) z
    (fun K n i t hi ht => by
      have hput : ∀ next, put7 q t.2 t.1 i K next = bif decide ((getR q.l i).Of ≥ 0) then K .ret (V7ar q t.2 t.1 i) (B7a q t.2) else next (t.2 ++ [getR q.l i]) := fun next => by
        have := ht.few
        unfold put7
        rw [getI_R hi, Option.bind_some, Option.bind_some, decide_eq_true (p := (t.2 ++ [getR q.l i]).length * 112 ≤ 2 ^ 47) (by rw [List.length_append, List.length_singleton]; omega)]
        rfl
      have hkle := ht.kle
      rw [step7a, decide_eq_true (by omega), cond_true, wrap_succ (by omega), wrap_succ (by omega), hput]
      unfold stop7 next7 mine7
      by_cases hk : (t.1 : Int) < (q.I.length : Int)
      · have hv : q.I[((t.1 : Nat) : Int).toNat]? = some (q.I.getD t.1 0) := by
          rw [Int.toNat_natCast, List.getD_eq_getElem?_getD, List.getElem?_eq_getElem (by omega)]; rfl
        rw [decide_eq_true hk, cond_true, atN_at (by omega) hk hv, Bool.true_and]
        cases q.I.getD t.1 0 == (i : Int) with
        | true => rfl
        | false => rfl
      · rw [decide_eq_false hk, cond_false, Bool.false_and]
        rfl)
    (fun i t hi ht hp => ht.step hg hi hp) (fun K n t _ => by rw [step7a, decide_eq_false (by omega)]; rfl)
  rcases h with ⟨i, t, _, _, _, h4⟩ | ⟨t, h1, h2⟩
  · exact .inl ⟨i, t, h4⟩
  · exact .inr ⟨t, h1, h2⟩
/-! ### the second loop -/
def stop7b (q : Seven) (i : Nat) : Bool := decide ((getR q.R i).Of < 0) && decide ((getR q.l (placeOf q.I i)).Of ≥ 0)
theorem run7b {q : Seven} {R : List GRow} (hg : Gathered q.l q.l.length R q.I) (hl : q.l.length ≤ 60) (hI : q.I.length ≤ q.l.length) (hR : q.R.length = q.I.length) (Q : List GRow) (lp : List (Nat × LC G)) :
    (∃ i : Nat, ∀ K, iter (EV q.L lp) h7b (lpBody Try.f7 1) (q.R.length + 1) (V7b q Q 0) (B7a q Q) K = K .ret (V7br q Q i) (B7a q Q)) ∨
    ((∀ i, i < q.R.length → stop7b q i = false) ∧ ∀ K, iter (EV q.L lp) h7b (lpBody Try.f7 1) (q.R.length + 1) (V7b q Q 0) (B7a q Q) K = K (.exit 2) (V7b q Q q.R.length) (B7a q Q)) := by
  have h := exit_loop (N := q.R.length) (p := fun (_ : Unit) i => stop7b q i) (g := fun _ _ => ()) (F := fun K n i (_ : Unit) => iter (EV q.L lp) h7b (lpBody Try.f7 1) n (V7b q Q i) (B7a q Q) K)
    (R := fun K i _ => K .ret (V7br q Q i) (B7a q Q)) (X := fun K _ => K (.exit 2) (V7b q Q q.R.length) (B7a q Q)) (s0 := ()) (fun i _ => ∀ k, k < i → stop7b q k = false) (fun k hk => absurd hk (Nat.not_lt_zero _))
    (fun K n i _ hi _ => by
      obtain ⟨g1, g2, _⟩ := hg.place (k := i) (by omega)
      have hv : q.I[((i : Nat) : Int).toNat]? = some (placeOf q.I i : Int) := by
        rw [← g1, Int.toNat_natCast, List.getD_eq_getElem?_getD, List.getElem?_eq_getElem (by omega)]; rfl
      rw [step7b, decide_eq_true (by omega), cond_true, wrap_succ (by omega), atN_at (by omega) (by omega) (by rw [Int.toNat_natCast]; exact getR_at hi), atN_at (by omega) (by omega) hv, getI_R g2, Option.bind_some]
      unfold stop7b
      cases decide ((getR q.R i).Of < 0) <;> rfl)
    (fun i _ hi h hp k hk => by
      rcases Nat.lt_or_ge k i with g | g
      · exact h k g
      · have : k = i := by omega
        subst this; exact hp) (fun K n _ _ => by rw [step7b, decide_eq_false (by omega)]; rfl)
  rcases h with ⟨i, _, _, _, _, h4⟩ | ⟨_, h1, h2⟩
  · exact .inl ⟨i, h4⟩
  · exact .inr ⟨h1, h2⟩
/-! ### the third loop -/
theorem lp7c {q : Seven} (lp : List (Nat × LC G)) (hl : q.R.length ≤ 1048576) (hI : q.I.length = q.R.length) (hX : q.X.length = q.R.length) (hT : q.T.length = q.b.length) (hS : q.S.length = q.b.length)
    (hp : ∀ i, i < q.R.length → q.I.getD i 0 = (placeOf q.I i : Int) ∧ placeOf q.I i < q.P.length ∧ ofTo (getR q.P (placeOf q.I i)) (getR q.R i).Of = getR q.X i)
    (hs : ∀ i, i < q.R.length → ∀ k : Int, ofAt k (getR q.R i) = true → 0 ≤ k ∧ k < (q.b.length : Int) ∧ getS q.S k = getS q.T k) :
    LpOk (EV q.L (in7 q :: lp)) [] (lpBody Try.f7 2) (lcOf h7c (V7c q 0) (B7c q) fun K => K (.exit 4) (V7c q q.R.length) (B7c q)) :=
  lcOf_ok (by kernel_rfl) fun K => ⟨_, fold_loop (N := q.R.length) (g := fun (_ : Unit) _ => ()) (F := fun n i _ => iter (EV q.L (in7 q :: lp)) h7c (lpBody Try.f7 2) n (V7c q i) (B7c q) K) (X := fun _ => K (.exit 4) (V7c q q.R.length) (B7c q)) (s0 := ()) (fun _ _ => True) trivial
    (fun n i _ hi _ => by
      obtain ⟨g1, g2, g3⟩ := hp i hi
      have hv : q.I[((i : Nat) : Int).toNat]? = some (placeOf q.I i : Int) := by
        rw [← g1, Int.toNat_natCast, List.getD_eq_getElem?_getD, List.getElem?_eq_getElem (by omega)]; rfl
      have hm : q.R[((i : Nat) : Int).toNat]? = some (getR q.R i) := by rw [Int.toNat_natCast]; exact getR_at hi
      have hx : q.X[((i : Nat) : Int).toNat]? = some (getR q.X i) := by rw [Int.toNat_natCast]; exact getR_at (by omega)
      have hw : q.P[((placeOf q.I i : Nat) : Int).toNat]? = some (getR q.P (placeOf q.I i)) := by rw [Int.toNat_natCast]; exact getR_at g2
      have htwo : ∀ (k : Int) next, ofAt k (getR q.R i) = true → two7 q k i K next = next := fun k next hk => by
        obtain ⟨k0, k1, k2⟩ := hs i hi k hk
        unfold two7
        rw [atN_at k0 (by omega) (getS_at k0 (by omega)), atN_at k0 (by omega) (getS_at k0 (by omega)), k2, stsame_self]
        rfl
      have hr : r2same (getR q.X i) { getR q.P (placeOf q.I i) with Of := (getR q.R i).Of } = true := by
        have := r2same_self (getR q.X i)
        rw [← g3] at this ⊢
        exact this
      rw [step7c, decide_eq_true (by omega), cond_true, wrap_succ (by omega), atN_at (by omega) (by omega) hv, atN_at (by omega) (by omega) hw, atN_at (by omega) (by omega) hm, atN_at (by omega) (by omega) hx, hr, Bool.not_true, cond_false,
        atN_at (by omega) (by omega) hm, htwo _ _ (ofAt_A _), atN_at (by omega) (by omega) hm, atN_at (by omega) (by omega) hm, htwo _ _ (ofAt_B _)])
    (fun _ _ _ _ => trivial) (fun n _ _ => by rw [step7c, decide_eq_false (by omega)]; rfl)⟩
theorem lps7 {E : Env G} (h0 : ∀ lc, E.lp 15 = some lc → LpOk E [] (lpBody Try.f7 0) lc) (h1 : ∀ lc, E.lp 23 = some lc → LpOk E [] (lpBody Try.f7 1) lc) (h2 : ∀ lc, E.lp 34 = some lc → LpOk E [] (lpBody Try.f7 2) lc)
    (h3 : ∀ lc, E.lp 41 = some lc → LpOk E [] (lpBody Try.f7 3) lc) : LpsOk E [] (bodyD Try.f7) := LpsOk.of _ fun i b lc hb hi => by
  have hl : loops (bodyD Try.f7) = [(some 15, lpBody Try.f7 0), (some 23, lpBody Try.f7 1), (some 34, lpBody Try.f7 2), (some 41, lpBody Try.f7 3)] := by kernel_rfl
  rw [hl] at hb
  simp only [List.mem_cons, Prod.mk.injEq, Option.some.injEq, List.not_mem_nil, or_false] at hb
  rcases hb with ⟨rfl, rfl⟩ | ⟨rfl, rfl⟩ | ⟨rfl, rfl⟩ | ⟨rfl, rfl⟩
  · exact h0 _ hi
  · exact h1 _ hi
  · exact h2 _ hi
  · exact h3 _ hi
theorem lp7a {q : Seven} {e : XE} {vs : List (RV G)} {bs : List (Blk G)} (lp : List (Nat × LC G)) (h : ∀ K, iter (EV q.L []) h7a (lpBody Try.f7 0) (q.l.length + 1) (V7a q [] 0 0) (B7a q []) K = K e vs bs) : LpOk (EV q.L lp) [] (lpBody Try.f7 0) (lc7a q e vs bs).2 :=
  lcOf_ok (by kernel_rfl) fun K => ⟨q.l.length + 1, by rw [iter_lp q.L lp [] (by kernel_rfl)]; exact h K⟩
theorem lp7b {q : Seven} {Q : List GRow} {e : XE} {vs : List (RV G)} {bs : List (Blk G)} (lp : List (Nat × LC G)) (h : ∀ K, iter (EV q.L []) h7b (lpBody Try.f7 1) (q.R.length + 1) (V7b q Q 0) (B7a q Q) K = K e vs bs) : LpOk (EV q.L lp) [] (lpBody Try.f7 1) (lc7b q Q e vs bs).2 :=
  lcOf_ok (by kernel_rfl) fun K => ⟨q.R.length + 1, by rw [iter_lp q.L lp [] (by kernel_rfl)]; exact h K⟩
theorem nolp7 (L : Ctr) : LpsOk (EV L []) [] (bodyD Try.f7) := LpsOk.of _ fun _ _ _ _ h => (by cases h)
theorem law7 (l : List GRow) (b : List GStill) (s : List Int) (n : Int) : ∃ L lp, AllOk L ∧ LpsOk (EV L lp) [] (bodyD Try.f7) ∧ ∀ K, xfn (EV L lp) Try.f7 [] (encs k7 (l, b, s, n, ())) [] K = K (.bool true) [] [] := by
  cases h0 : big7 l b n with
  | true => exact ⟨L7n, [], L7n_ok, nolp7 _, fun K => by rw [x7n, h0]; rfl⟩
  | false =>
    have hb := h0
    unfold big7 at hb
    simp only [Bool.or_eq_false_iff, decide_eq_false_iff_not] at hb
    obtain ⟨⟨⟨b1, b2⟩, b3⟩, b4⟩ := hb
    cases h1 : tooMany l s with
    | true => exact ⟨L7f l s (.fails 4), [], L7f_ok (fun K => by unfold runOnly; rw [h1]; rfl), nolp7 _, fun K => by rw [x7f, h0, cond_false, gate_pos rfl]; rfl⟩
    | false => cases h2 : l.any (rbad l.length 1024) with
      | true => exact ⟨L7f l s (.fails 200), [], L7f_ok (fun K => by unfold runOnly; rw [h1, h2]; rfl), nolp7 _, fun K => by rw [x7f, h0, cond_false, gate_pos rfl]; rfl⟩
      | false =>
        have hq : ∀ K, runOnly l s K = K (OnlyRes.keeps (linked (gather1 l s).2 (gather1 l s).1) (gather1 l s).2).r [] (OnlyRes.keeps (linked (gather1 l s).2 (gather1 l s).1) (gather1 l s).2).fr := fun K => by unfold runOnly; rw [h1, h2]; rfl
        have hg := gathered l s
        have hkept := gather_kept l s
        rw [gather_same] at hkept
        have hI := hkept.few
        generalize (gather1 l s).2 = I at *
        generalize (gather1 l s).1 = R0 at *
        cases h3 : sasked l b != 0 with
        | true =>
          refine ⟨L7g l b n s (.keeps (linked I R0) I) (sasked l b), [], .cons (at_ok ok26 fun K => ?_) (L7f_ok hq), nolp7 _, fun K => by rw [x7g, h0, cond_false, gate_pos rfl, gate_pos rfl, h3]; rfl⟩
          show runAll l b n K = _
          unfold runAll
          rw [h3]; rfl
        | false =>
          have ha := sasked_ok h3
          have hn : (decide (n < 0) || decide (n > 64)) = false := by rw [decide_eq_false b3, decide_eq_false b4]; rfl
          have hR : (linked I R0).length = I.length := (linked_len I R0).trans hg.same
          let q := sevenOf l b n s (linked I R0) I
          have hl60 : l.length ≤ 60 := by omega
          have hG : G26 l b n := ⟨h3, hn⟩
          rcases run7a (q := q) (R := R0) hg hl60 hI [] with ⟨i, t, g⟩ | ⟨t, ht, g⟩
          · refine ⟨q.L, [lc7a q .ret (V7ar q t.2 t.1 i) (B7a q t.2)], L7_ok hq, lps7 (fun lc h => ?_) (fun lc h => (by cases h)) (fun lc h => (by cases h)) (fun lc h => (by cases h)), fun K => (x7a l b s n (linked I R0) I K t.2 t.1 i).trans ?_⟩
            · cases h; exact lp7a _ g
            · rw [h0, cond_false, gate_pos rfl, gate_pos hG, gate_pos ⟨rfl, rfl⟩]
          · rcases run7b (q := q) (R := R0) hg hl60 hI hR t.2 [] with ⟨i, g'⟩ | ⟨ho, g'⟩
            · refine ⟨q.L, [lc7a q (.exit 0) (V7a q t.2 t.1 l.length) (B7a q t.2), lc7b q t.2 .ret (V7br q t.2 i) (B7a q t.2)], L7_ok hq, lps7 (fun lc h => ?_) (fun lc h => ?_) (fun lc h => (by cases h)) (fun lc h => (by cases h)), fun K => (x7b l b s n (linked I R0) I K t.2 t.1 i).trans ?_⟩
              · cases h; exact lp7a _ g
              · cases h; exact lp7b _ g'
              · rw [h0, cond_false, gate_pos rfl, gate_pos hG, gate_pos ⟨rfl, rfl⟩, gate_pos ⟨rfl, rfl⟩]
            · have hrest := ht.rest
              have eR := only_asked ha hg hI
              have eQ := rest_asked ha hrest
              have hG2 : G26 (linked I R0) b n := ⟨eR, hn⟩
              have hE : ((apE (linked I R0) t.2 b != 0) || ((0 : Int) != 0)) = false := by
                have := apE_zero (linked I R0) t.2 b
                rw [eR, eQ] at this
                rw [bne, this]; rfl
              cases h4 : apB (linked I R0) t.2 b with
              | false =>
                refine ⟨q.L, [lc7a q (.exit 0) (V7a q t.2 t.1 l.length) (B7a q t.2), lc7b q t.2 (.exit 2) (V7b q t.2 (linked I R0).length) (B7a q t.2)], L7_ok hq, lps7 (fun lc h => ?_) (fun lc h => ?_) (fun lc h => (by cases h)) (fun lc h => (by cases h)), fun K => (x7c l b s n (linked I R0) I K t.2 t.1).trans ?_⟩
                · cases h; exact lp7a _ g
                · cases h; exact lp7b _ g'
                · rw [h0, cond_false, gate_pos rfl, gate_pos hG, gate_pos ⟨rfl, rfl⟩, gate_pos ⟨rfl, rfl⟩, gate_pos hG2, hE, h4]
                  rfl
              | true =>
                have hbt : (List.range b.length).any (both (linked I R0) t.2 b) = false := by
                  unfold apB at h4
                  rw [eR, eQ] at h4
                  simpa using h4
                have hof : ∀ k, k < R0.length → (getR (linked I R0) k).Of < 0 → (getR l (placeOf I k)).Of < 0 := fun k hk hk2 => by
                  have h5 := ho k (by show k < (linked I R0).length; rw [linked_len]; exact hk)
                  unfold stop7b at h5
                  have h6 : (decide ((getR (linked I R0) k).Of < 0) && decide ((getR l (placeOf I k)).Of ≥ 0)) = false := h5
                  rw [decide_eq_true hk2, Bool.true_and, decide_eq_false_iff_not] at h6
                  omega
                have hsub := only_sub hg hrest hof hbt
                have hem := sub_solved hsub ha (sasked_ok eR) n.toNat
                have hRb := sasked_ok eR
                refine ⟨q.L, [in7 q, lc7a q (.exit 0) (V7a q t.2 t.1 l.length) (B7a q t.2), lc7b q t.2 (.exit 2) (V7b q t.2 (linked I R0).length) (B7a q t.2), lc7c q], L7_ok hq, lps7 (fun lc h => ?_) (fun lc h => ?_) (fun lc h => ?_) (fun lc h => ?_), fun K => (x7d l b s n (linked I R0) I K t.2 t.1).trans ?_⟩
                · cases h; exact lp7a _ g
                · cases h; exact lp7b _ g'
                · cases h
                  refine lp7c (q := q) _ (by show (linked I R0).length ≤ _; omega) hR.symm hem.len' hem.st.len' hem.st.len (fun i hi => ?_) fun i hi k hk => ?_
                  · have hi : i < (linked I R0).length := hi
                    obtain ⟨p1, p2, _⟩ := hg.place (k := i) (by omega)
                    refine ⟨p1, ?_, ?_⟩
                    · show _ < (solved l b n.toNat).1.length
                      rw [hem.len]; exact p2
                    · show ofTo (getR (solved l b n.toNat).1 (placeOf I i)) (getR (linked I R0) i).Of = getR (solved (linked I R0) b n.toNat).1 i
                      rw [hem.row i hi, ← (hem.keep' i).2.2]
                      rfl
                  · have hi : i < (linked I R0).length := hi
                    have hk : ofAt k (getR (linked I R0) i) = true := hk
                    obtain ⟨_, a0, a1, c0, c1, _⟩ := hRb.fit i hi
                    have hb : 0 ≤ k ∧ k < (b.length : Int) := by
                      unfold ofAt at hk
                      simp only [Bool.or_eq_true, beq_iff_eq] at hk
                      rcases hk with hk | hk <;> omega
                    exact ⟨hb.1, hb.2, hem.st.st k hb.1 hb.2 (any_row hi hk)⟩
                · cases h; exact lpIter _ _ _ (by kernel_rfl) (by kernel_rfl)
                · rw [h0, cond_false, gate_pos rfl, gate_pos hG, gate_pos ⟨rfl, rfl⟩, gate_pos ⟨rfl, rfl⟩, gate_pos hG2, hE, h4, cond_false, Bool.not_true, cond_false, gate_pos ⟨rfl, rfl⟩]
theorem ok7 : FcOk Try.prog 7 (FC.sp k7 fun _ => .bool true) := sp_any Try.func7 (by kernel_rfl) (by kernel_rfl) fun (l, b, s, n, _) _ => law7 l b s n
end Go.SX

/- PRINTED BY A PROGRAM OF THIS SEAT: what comes in, opened: values of the seat's types out of their readings. No statement of the seat is proved here. -/
namespace Go.SX
open Go.Proofs
set_option maxRecDepth 20000
abbrev stb (W : World) : Stb := fun k => W.heap[k]?
/-- Cells that stand for RVs. -/
def CR (W : World) (cs : List Value) (rs : List (RV G)) : Prop := cs.length = rs.length ∧ ∀ (j : Nat) (u : Value) (r : RV G), cs[j]? = some u → rs[j]? = some r → RVal (fun _ => none) (stb W) u r
theorem CR.nil (W : World) : CR W [] [] := ⟨rfl, fun j u r h => by simp at h⟩
theorem CR.one {W : World} {u : Value} {r : RV G} (h : RVal (fun _ => none) (stb W) u r) : CR W [u] [r] := ⟨rfl, fun j v q hv hq => by
  cases j with
  | zero => cases hv; cases hq; exact h
  | succ j => simp at hv⟩
theorem CR.app {W : World} {a b : List Value} {r s : List (RV G)} (h : CR W a r) (g : CR W b s) : CR W (a ++ b) (r ++ s) := by
  refine ⟨by rw [List.length_append, List.length_append, h.1, g.1], fun j u q hu hq => ?_⟩
  by_cases hj : j < a.length
  · rw [List.getElem?_append_left hj] at hu
    rw [List.getElem?_append_left (by rw [← h.1]; exact hj)] at hq
    exact h.2 j u q hu hq
  · rw [List.getElem?_append_right (by omega)] at hu
    rw [List.getElem?_append_right (by rw [← h.1]; omega), ← h.1] at hq
    exact g.2 _ u q hu hq
theorem CR.step {W : World} {cs : List Value} {off sz : Nat} {r s : List (RV G)} (h : CR W ((cs.drop off).take sz) r) (g : CR W (cs.drop (off + sz)) s) : CR W (cs.drop off) (r ++ s) := by
  have := h.app g
  rwa [take_drop_step] at this
theorem CR.done {W : World} {cs : List Value} {off : Nat} (h : cs.length = off) : CR W (cs.drop off) [] := by
  rw [List.drop_eq_nil_of_le (by omega)]
  exact .nil W
/-- What is read of a type stands for one of these. -/
def Op (W : World) (t : Nat) {α : Type} (en : α → List (RV G)) : Prop := ∀ (H : Type) (e : TypeId × Value → H) (fuel : Nat) (cs : List Value) (y : DataW H × List MemPlace), DataW.trod e Try.prog W 0 (fun _ => true) true fuel t cs = some y → ∃ x : α, CR W cs (en x)
theorem some_at {α : Type} {xs : List α} {n i : Nat} (h : xs.length = n) (hi : i < n) : ∃ y, xs[i]? = some y := ⟨_, List.getElem?_eq_getElem (by omega)⟩
theorem op_int {W : World} {t : Nat} {k : IntKind} (ht : Try.prog.underlying t = some (.int k)) : Op W t (fun x : Int => [.int k x]) := fun H e fuel cs y h => by
  obtain ⟨n, rfl, _, _⟩ := DataW.trod_int ht h
  exact ⟨n, .one (.int _ _)⟩
theorem op_bool {W : World} {t : Nat} (ht : Try.prog.underlying t = some .bool) : Op W t (fun x : Bool => [.bool x]) := fun H e fuel cs y h => by
  obtain ⟨n, rfl, _⟩ := DataW.trod_bool ht h
  exact ⟨n, .one (.bool _)⟩
theorem op_flt {W : World} {t : Nat} (ht : Try.prog.underlying t = some (.float .f64)) : Op W t (fun x : Nat => [.flt x]) := fun H e fuel cs y h => by
  cases fuel with
  | zero => simp [DataW.trod] at h
  | succ m =>
    unfold DataW.trod at h
    rw [ht] at h
    split at h <;> simp_all
    rename_i k b hk
    obtain ⟨⟨rfl, hw⟩, _⟩ := h
    subst hk
    exact ⟨b, .one (.flt (FEq.refl _) (by simpa [Lit.wf] using hw))⟩
theorem cells_at {W : World} {a : Addr} {n : Nat} {cs : List Value} (h : W.cells? 0 a n = some cs) : cs.length = n ∧ ∀ j, j < n → W.cell? (a.add j) = cs[j]? := by
  unfold World.cells? at h
  rw [if_pos (Nat.zero_le _)] at h
  refine ⟨by simpa using mapM_some_length h, fun j hj => ?_⟩
  exact mapM_some_get h j j (by simp [hj])
/-- A slice's elements. -/
theorem op_slice {W : World} {t e : Nat} {c : TC} {sz : Nat} (ht : Try.prog.underlying t = some (.slice e)) (hc : Try.prog.cellsOf e = sz) (hz : sz = sizeG c) (hp : 0 < sz) (he : Op W e (encG c)) : Op W t (fun xs : List (TD c) => [.rslice c xs]) := fun H en fuel cs y h => by
  rcases DataW.trod_slice ht h with ⟨rfl, _⟩ | ⟨a, len, cap, elems, rest, n, _, rfl, _, _, hl, hm, hlen, hel, _⟩
  · exact ⟨[], .one (.rslice0 fun _ => rfl)⟩
  · by_cases h0 : len = 0
    · subst h0
      exact ⟨[], .one (.rslice0 fun h => by cases h)⟩
    · rw [hc] at hel
      have each : ∀ i, i < len → ∃ x : TD c, ∃ es : List Value, CR W es (encG c x) ∧ es.length = sz ∧ ∀ j, j < sz → W.cell? (a.add (i * sz + j)) = es[j]? := fun i hi => by
        obtain ⟨y, hy⟩ := some_at hlen hi
        have := hel i hi
        rw [hy, Option.bind_eq_some_iff] at this
        obtain ⟨es, h1, h2⟩ := this
        obtain ⟨g1, g2⟩ := cells_at h1
        obtain ⟨x, hx⟩ := he H en n es y h2
        refine ⟨x, es, hx, g1, fun j hj => ?_⟩
        rw [← g2 j hj, Go.Addr.add_add]
      obtain ⟨xs, hxs, hall⟩ : ∃ xs : List (TD c), xs.length = len ∧ ∀ i x, xs[i]? = some x → ∃ es : List Value, CR W es (encG c x) ∧ es.length = sz ∧ ∀ j, j < sz → W.cell? (a.add (i * sz + j)) = es[j]? := by
        refine ⟨List.ofFn fun i : Fin len => Classical.choose (each i.1 i.2), by simp, fun i x hx => ?_⟩
        rw [List.getElem?_ofFn] at hx
        split at hx
        · rename_i hi
          cases hx
          exact Classical.choose_spec (each i hi)
        · cases hx
      obtain ⟨b, off, spot⟩ := a
      obtain ⟨x0, hx0⟩ : ∃ x, xs[0]? = some x := ⟨_, List.getElem?_eq_getElem (by omega)⟩
      obtain ⟨es0, _, q1, q2⟩ := hall 0 x0 hx0
      have hc0 := q2 0 hp
      rw [List.getElem?_eq_getElem (by omega)] at hc0
      have hspot : spot = none := by simpa [Addr.add] using World.cell?_spot hc0
      subst hspot
      have hadd : ∀ j, Addr.add ⟨b, off, none⟩ j = ⟨b, off + j, none⟩ := fun j => by unfold Addr.add; split <;> simp_all
      obtain ⟨arr, ty, fr, hk⟩ : ∃ arr ty fr, W.heap[b]? = some (.cells arr ty fr) := by
        unfold World.cell? at hc0
        rw [hadd] at hc0
        split at hc0
        · exact ⟨_, _, _, by assumption⟩
        · cases hc0
      have hcell : ∀ j, W.cell? ⟨b, j, none⟩ = arr[j]? := fun j => by simp [World.cell?, hk]
      have hm' : maxLen = 9223372036854775807 := by decide
      refine ⟨xs, .one (.rslice hxs.symm (off := off) hk ⟨hl, by omega⟩ (fun i j x r hx hr => ?_) (fun i j x r u hx hr hu => ?_))⟩
      · obtain ⟨es, p1, p2, p3⟩ := hall i x hx
        have hj : j < sz := by rw [hz]; have := (List.getElem?_eq_some_iff.1 hr).1; rw [show (Enc.enc c x : List (RV G)) = encG c x from rfl, encG_size] at this; exact this
        have := p3 j hj
        rw [hadd, hcell, List.getElem?_eq_getElem (by omega)] at this
        have := (Array.getElem?_eq_some_iff.1 this).1
        show off + i * sizeG c + j < arr.size
        rw [← hz]
        omega
      · obtain ⟨es, p1, p2, p3⟩ := hall i x hx
        have hj : j < sz := by rw [hz]; have := (List.getElem?_eq_some_iff.1 hr).1; rw [show (Enc.enc c x : List (RV G)) = encG c x from rfl, encG_size] at this; exact this
        have := p3 j hj
        rw [hadd, hcell] at this
        have hu' : arr[off + i * sizeG c + j]? = some u := hu
        rw [← hz, Nat.add_assoc] at hu'
        rw [hu'] at this
        exact p1.2 j u r this.symm hr
theorem cells26 : Try.prog.cellsOf 26 = 2 := by kernel_rfl
theorem cells24 : Try.prog.cellsOf 24 = 1 := by kernel_rfl
theorem op26 (W : World) : Op W 26 (encG .vec) := fun H e fuel cs y h => by
  obtain ⟨xs, n, rfl, _, hl, hx, hf⟩ := DataW.trod_struct Try.underlying26 h
  rw [cells26] at hl
  have hx : xs.length = 2 := hx
  obtain ⟨y0, hy0⟩ := some_at hx (show 0 < 2 by decide)
  have h0 := hf 0 _ rfl
  simp only [hy0] at h0
  obtain ⟨x0, c0⟩ := (op_flt Try.underlying24 : Op W 24 _) H e n _ _ h0
  obtain ⟨y1, hy1⟩ := some_at hx (show 1 < 2 by decide)
  have h1 := hf 1 _ rfl
  simp only [hy1] at h1
  obtain ⟨x1, c1⟩ := (op_flt Try.underlying24 : Op W 24 _) H e n _ _ h1
  exact ⟨⟨x0, x1⟩, CR.step c0 (CR.step c1 (.done hl))⟩
theorem cells39 : Try.prog.cellsOf 39 = 6 := by kernel_rfl
theorem cells37 : Try.prog.cellsOf 37 = 1 := by kernel_rfl
theorem op39 (W : World) : Op W 39 (encG .point) := fun H e fuel cs y h => by
  obtain ⟨xs, n, rfl, _, hl, hx, hf⟩ := DataW.trod_struct Try.underlying39 h
  rw [cells39] at hl
  have hx : xs.length = 5 := hx
  obtain ⟨y0, hy0⟩ := some_at hx (show 0 < 5 by decide)
  have h0 := hf 0 _ rfl
  simp only [hy0] at h0
  obtain ⟨x0, c0⟩ := (op26 W : Op W 26 _) H e n _ _ h0
  obtain ⟨y1, hy1⟩ := some_at hx (show 1 < 5 by decide)
  have h1 := hf 1 _ rfl
  simp only [hy1] at h1
  obtain ⟨x1, c1⟩ := (op_flt Try.underlying24 : Op W 24 _) H e n _ _ h1
  obtain ⟨y2, hy2⟩ := some_at hx (show 2 < 5 by decide)
  have h2 := hf 2 _ rfl
  simp only [hy2] at h2
  obtain ⟨x2, c2⟩ := (op_int Try.underlying37 : Op W 37 _) H e n _ _ h2
  obtain ⟨y3, hy3⟩ := some_at hx (show 3 < 5 by decide)
  have h3 := hf 3 _ rfl
  simp only [hy3] at h3
  obtain ⟨x3, c3⟩ := (op_flt Try.underlying24 : Op W 24 _) H e n _ _ h3
  obtain ⟨y4, hy4⟩ := some_at hx (show 4 < 5 by decide)
  have h4 := hf 4 _ rfl
  simp only [hy4] at h4
  obtain ⟨x4, c4⟩ := (op_flt Try.underlying24 : Op W 24 _) H e n _ _ h4
  exact ⟨⟨x0, x1, x2, x3, x4⟩, CR.step c0 (CR.step c1 (CR.step c2 (CR.step c3 (CR.step c4 (.done hl)))))⟩
theorem cells27 : Try.prog.cellsOf 27 = 1 := by kernel_rfl
theorem op27 (W : World) : Op W 27 (fun xs : List (TD .point) => [.rslice .point xs]) := op_slice Try.underlying27 cells39 rfl (by decide) (op39 W)
theorem cells23 : Try.prog.cellsOf 23 = 4 := by kernel_rfl
theorem cells3 : Try.prog.cellsOf 3 = 1 := by kernel_rfl
theorem op23 (W : World) : Op W 23 (encG .pair) := fun H e fuel cs y h => by
  obtain ⟨xs, n, rfl, _, hl, hx, hf⟩ := DataW.trod_struct Try.underlying23 h
  rw [cells23] at hl
  have hx : xs.length = 4 := hx
  obtain ⟨y0, hy0⟩ := some_at hx (show 0 < 4 by decide)
  have h0 := hf 0 _ rfl
  simp only [hy0] at h0
  obtain ⟨x0, c0⟩ := (op_int Try.underlying3 : Op W 3 _) H e n _ _ h0
  obtain ⟨y1, hy1⟩ := some_at hx (show 1 < 4 by decide)
  have h1 := hf 1 _ rfl
  simp only [hy1] at h1
  obtain ⟨x1, c1⟩ := (op_int Try.underlying3 : Op W 3 _) H e n _ _ h1
  obtain ⟨y2, hy2⟩ := some_at hx (show 2 < 4 by decide)
  have h2 := hf 2 _ rfl
  simp only [hy2] at h2
  obtain ⟨x2, c2⟩ := (op_int Try.underlying3 : Op W 3 _) H e n _ _ h2
  obtain ⟨y3, hy3⟩ := some_at hx (show 3 < 4 by decide)
  have h3 := hf 3 _ rfl
  simp only [hy3] at h3
  obtain ⟨x3, c3⟩ := (op_int Try.underlying3 : Op W 3 _) H e n _ _ h3
  exact ⟨⟨x0, x1, x2, x3⟩, CR.step c0 (CR.step c1 (CR.step c2 (CR.step c3 (.done hl))))⟩
theorem cells29 : Try.prog.cellsOf 29 = 8 := by kernel_rfl
theorem cells4 : Try.prog.cellsOf 4 = 1 := by kernel_rfl
theorem op29 (W : World) : Op W 29 (encG .touch) := fun H e fuel cs y h => by
  obtain ⟨xs, n, rfl, _, hl, hx, hf⟩ := DataW.trod_struct Try.underlying29 h
  rw [cells29] at hl
  have hx : xs.length = 4 := hx
  obtain ⟨y0, hy0⟩ := some_at hx (show 0 < 4 by decide)
  have h0 := hf 0 _ rfl
  simp only [hy0] at h0
  obtain ⟨x0, c0⟩ := (op23 W : Op W 23 _) H e n _ _ h0
  obtain ⟨y1, hy1⟩ := some_at hx (show 1 < 4 by decide)
  have h1 := hf 1 _ rfl
  simp only [hy1] at h1
  obtain ⟨x1, c1⟩ := (op_bool Try.underlying4 : Op W 4 _) H e n _ _ h1
  obtain ⟨y2, hy2⟩ := some_at hx (show 2 < 4 by decide)
  have h2 := hf 2 _ rfl
  simp only [hy2] at h2
  obtain ⟨x2, c2⟩ := (op26 W : Op W 26 _) H e n _ _ h2
  obtain ⟨y3, hy3⟩ := some_at hx (show 3 < 4 by decide)
  have h3 := hf 3 _ rfl
  simp only [hy3] at h3
  obtain ⟨x3, c3⟩ := (op27 W : Op W 27 _) H e n _ _ h3
  exact ⟨⟨x0, x1, x2, x3⟩, CR.step c0 (CR.step c1 (CR.step c2 (CR.step c3 (.done hl))))⟩
theorem cells69 : Try.prog.cellsOf 69 = 14 := by kernel_rfl
theorem op69 (W : World) : Op W 69 (encG .row) := fun H e fuel cs y h => by
  obtain ⟨xs, n, rfl, _, hl, hx, hf⟩ := DataW.trod_struct Try.underlying69 h
  rw [cells69] at hl
  have hx : xs.length = 12 := hx
  obtain ⟨y0, hy0⟩ := some_at hx (show 0 < 12 by decide)
  have h0 := hf 0 _ rfl
  simp only [hy0] at h0
  obtain ⟨x0, c0⟩ := (op_int Try.underlying3 : Op W 3 _) H e n _ _ h0
  obtain ⟨y1, hy1⟩ := some_at hx (show 1 < 12 by decide)
  have h1 := hf 1 _ rfl
  simp only [hy1] at h1
  obtain ⟨x1, c1⟩ := (op_int Try.underlying3 : Op W 3 _) H e n _ _ h1
  obtain ⟨y2, hy2⟩ := some_at hx (show 2 < 12 by decide)
  have h2 := hf 2 _ rfl
  simp only [hy2] at h2
  obtain ⟨x2, c2⟩ := (op26 W : Op W 26 _) H e n _ _ h2
  obtain ⟨y3, hy3⟩ := some_at hx (show 3 < 12 by decide)
  have h3 := hf 3 _ rfl
  simp only [hy3] at h3
  obtain ⟨x3, c3⟩ := (op26 W : Op W 26 _) H e n _ _ h3
  obtain ⟨y4, hy4⟩ := some_at hx (show 4 < 12 by decide)
  have h4 := hf 4 _ rfl
  simp only [hy4] at h4
  obtain ⟨x4, c4⟩ := (op_flt Try.underlying24 : Op W 24 _) H e n _ _ h4
  obtain ⟨y5, hy5⟩ := some_at hx (show 5 < 12 by decide)
  have h5 := hf 5 _ rfl
  simp only [hy5] at h5
  obtain ⟨x5, c5⟩ := (op_flt Try.underlying24 : Op W 24 _) H e n _ _ h5
  obtain ⟨y6, hy6⟩ := some_at hx (show 6 < 12 by decide)
  have h6 := hf 6 _ rfl
  simp only [hy6] at h6
  obtain ⟨x6, c6⟩ := (op_flt Try.underlying24 : Op W 24 _) H e n _ _ h6
  obtain ⟨y7, hy7⟩ := some_at hx (show 7 < 12 by decide)
  have h7 := hf 7 _ rfl
  simp only [hy7] at h7
  obtain ⟨x7, c7⟩ := (op_flt Try.underlying24 : Op W 24 _) H e n _ _ h7
  obtain ⟨y8, hy8⟩ := some_at hx (show 8 < 12 by decide)
  have h8 := hf 8 _ rfl
  simp only [hy8] at h8
  obtain ⟨x8, c8⟩ := (op_flt Try.underlying24 : Op W 24 _) H e n _ _ h8
  obtain ⟨y9, hy9⟩ := some_at hx (show 9 < 12 by decide)
  have h9 := hf 9 _ rfl
  simp only [hy9] at h9
  obtain ⟨x9, c9⟩ := (op_flt Try.underlying24 : Op W 24 _) H e n _ _ h9
  obtain ⟨y10, hy10⟩ := some_at hx (show 10 < 12 by decide)
  have h10 := hf 10 _ rfl
  simp only [hy10] at h10
  obtain ⟨x10, c10⟩ := (op_int Try.underlying3 : Op W 3 _) H e n _ _ h10
  obtain ⟨y11, hy11⟩ := some_at hx (show 11 < 12 by decide)
  have h11 := hf 11 _ rfl
  simp only [hy11] at h11
  obtain ⟨x11, c11⟩ := (op_flt Try.underlying24 : Op W 24 _) H e n _ _ h11
  exact ⟨⟨x0, x1, x2, x3, x4, x5, x6, x7, x8, x9, x10, x11⟩, CR.step c0 (CR.step c1 (CR.step c2 (CR.step c3 (CR.step c4 (CR.step c5 (CR.step c6 (CR.step c7 (CR.step c8 (CR.step c9 (CR.step c10 (CR.step c11 (.done hl))))))))))))⟩
theorem cells30 : Try.prog.cellsOf 30 = 1 := by kernel_rfl
theorem op30 (W : World) : Op W 30 (fun xs : List (TD .row) => [.rslice .row xs]) := op_slice Try.underlying30 cells69 rfl (by decide) (op69 W)
theorem cells63 : Try.prog.cellsOf 63 = 5 := by kernel_rfl
theorem op63 (W : World) : Op W 63 (encG .still) := fun H e fuel cs y h => by
  obtain ⟨xs, n, rfl, _, hl, hx, hf⟩ := DataW.trod_struct Try.underlying63 h
  rw [cells63] at hl
  have hx : xs.length = 4 := hx
  obtain ⟨y0, hy0⟩ := some_at hx (show 0 < 4 by decide)
  have h0 := hf 0 _ rfl
  simp only [hy0] at h0
  obtain ⟨x0, c0⟩ := (op_flt Try.underlying24 : Op W 24 _) H e n _ _ h0
  obtain ⟨y1, hy1⟩ := some_at hx (show 1 < 4 by decide)
  have h1 := hf 1 _ rfl
  simp only [hy1] at h1
  obtain ⟨x1, c1⟩ := (op_flt Try.underlying24 : Op W 24 _) H e n _ _ h1
  obtain ⟨y2, hy2⟩ := some_at hx (show 2 < 4 by decide)
  have h2 := hf 2 _ rfl
  simp only [hy2] at h2
  obtain ⟨x2, c2⟩ := (op26 W : Op W 26 _) H e n _ _ h2
  obtain ⟨y3, hy3⟩ := some_at hx (show 3 < 4 by decide)
  have h3 := hf 3 _ rfl
  simp only [hy3] at h3
  obtain ⟨x3, c3⟩ := (op_flt Try.underlying24 : Op W 24 _) H e n _ _ h3
  exact ⟨⟨x0, x1, x2, x3⟩, CR.step c0 (CR.step c1 (CR.step c2 (CR.step c3 (.done hl))))⟩
theorem cells42 : Try.prog.cellsOf 42 = 1 := by kernel_rfl
theorem op42 (W : World) : Op W 42 (fun xs : List (TD .still) => [.rslice .still xs]) := op_slice Try.underlying42 cells63 rfl (by decide) (op63 W)
theorem cells55 : Try.prog.cellsOf 55 = 1 := by kernel_rfl
theorem op55 (W : World) : Op W 55 (fun xs : List (TD .i64) => [.rslice .i64 xs]) := op_slice Try.underlying55 cells3 rfl (by decide) (op_int Try.underlying3)
theorem cells79 : Try.prog.cellsOf 79 = 4 := by kernel_rfl
theorem op79 (W : World) : Op W 79 (encG .mass) := fun H e fuel cs y h => by
  obtain ⟨xs, n, rfl, _, hl, hx, hf⟩ := DataW.trod_struct Try.underlying79 h
  rw [cells79] at hl
  have hx : xs.length = 3 := hx
  obtain ⟨y0, hy0⟩ := some_at hx (show 0 < 3 by decide)
  have h0 := hf 0 _ rfl
  simp only [hy0] at h0
  obtain ⟨x0, c0⟩ := (op_flt Try.underlying24 : Op W 24 _) H e n _ _ h0
  obtain ⟨y1, hy1⟩ := some_at hx (show 1 < 3 by decide)
  have h1 := hf 1 _ rfl
  simp only [hy1] at h1
  obtain ⟨x1, c1⟩ := (op_flt Try.underlying24 : Op W 24 _) H e n _ _ h1
  obtain ⟨y2, hy2⟩ := some_at hx (show 2 < 3 by decide)
  have h2 := hf 2 _ rfl
  simp only [hy2] at h2
  obtain ⟨x2, c2⟩ := (op26 W : Op W 26 _) H e n _ _ h2
  exact ⟨⟨x0, x1, x2⟩, CR.step c0 (CR.step c1 (CR.step c2 (.done hl)))⟩
theorem cells77 : Try.prog.cellsOf 77 = 1 := by kernel_rfl
theorem op77 (W : World) : Op W 77 (fun xs : List (TD .mass) => [.rslice .mass xs]) := op_slice Try.underlying77 cells79 rfl (by decide) (op79 W)
theorem cells89 : Try.prog.cellsOf 89 = 1 := by kernel_rfl
theorem op89 (W : World) : Op W 89 (fun xs : List (TD .vec) => [.rslice .vec xs]) := op_slice Try.underlying89 cells26 rfl (by decide) (op26 W)
theorem cells95 : Try.prog.cellsOf 95 = 3 := by kernel_rfl
theorem cells5 : Try.prog.cellsOf 5 = 1 := by kernel_rfl
theorem op95 (W : World) : Op W 95 (encG .shape) := fun H e fuel cs y h => by
  obtain ⟨xs, n, rfl, _, hl, hx, hf⟩ := DataW.trod_struct Try.underlying95 h
  rw [cells95] at hl
  have hx : xs.length = 3 := hx
  obtain ⟨y0, hy0⟩ := some_at hx (show 0 < 3 by decide)
  have h0 := hf 0 _ rfl
  simp only [hy0] at h0
  obtain ⟨x0, c0⟩ := (op_int Try.underlying5 : Op W 5 _) H e n _ _ h0
  obtain ⟨y1, hy1⟩ := some_at hx (show 1 < 3 by decide)
  have h1 := hf 1 _ rfl
  simp only [hy1] at h1
  obtain ⟨x1, c1⟩ := (op_flt Try.underlying24 : Op W 24 _) H e n _ _ h1
  obtain ⟨y2, hy2⟩ := some_at hx (show 2 < 3 by decide)
  have h2 := hf 2 _ rfl
  simp only [hy2] at h2
  obtain ⟨x2, c2⟩ := (op89 W : Op W 89 _) H e n _ _ h2
  exact ⟨⟨x0, x1, x2⟩, CR.step c0 (CR.step c1 (CR.step c2 (.done hl)))⟩
end Go.SX

/- From a law's contract to what its row asks of a call. No statement of the seat is proved here. -/
namespace Go.SX
open Go.Proofs Go.RowKit
set_option maxRecDepth 20000

theorem start_inv (W : World) : Inv W.heap.size (Mof ⟨fun _ => none, stb W⟩ []) ⟨fun _ => none, stb W⟩ (startM (S := G) [] []) W where
  base := Nat.le_refl _
  stable _ _ h := h
  free _ _ := rfl
  has b x h := by cases h
  blk b x l h := by cases h
  lt b l k h := by cases h
  sep b b' x x' l l' k h := by cases h
  mine b x l k h := by cases h

/-- What a law's contract says of a call. -/
theorem law_calls {f : Nat} {fn : Func} {ks : List AK} (hf : Try.prog.funcs[f]? = some fn) (ho : fnOK fn = true) (h : FcOk Try.prog f (FC.sp ks fun _ => .bool true)) {x : dens ks} (hx : decs' ks (encs ks x) = some x)
    {args : Array Value} {W : World} (ha : ArgsRel (fun _ => none) (stb W) args (encs ks x)) : Calls Try.prog f args W fun e W' => e = .returned (.bool true) ∧ Below W.heap.size W W' := by
  obtain ⟨r, bs', fr, h1, h2⟩ := h.run (encs ks x) [] (fun r bs fr => some (r, bs, fr)) (.bool true, [], []) (by simp only [FC.sp, FC.ofPure, hx])
  cases h1
  have hc := h2 ⟨fun _ => none, stb W⟩ W args [] (by simp [muIds, FC.sp, FC.ofPure, mutsOf_nil]) rfl ha (fun x hx => by simp at hx) (start_inv W)
  obtain ⟨o1, o2, o3⟩ := fnOK_spec ho
  have hcall : (callFunc f args).run Try.prog W = .ok (.enter f args) W := by
    have hn : ¬ (fn.name = "runtime.NumGoroutine") := by simpa using o1
    simp [callFunc, program, Sem.run, hf, hn, o2]
  unfold CallsTo at hc
  rw [hcall] at hc
  refine hc.mono fun e W' he => ?_
  cases e with
  | returned v =>
    obtain ⟨φr, St', hr, _, _, _, hfr⟩ := he
    cases hr
    exact ⟨rfl, ⟨hfr.os, hfr.tape, hfr.output, hfr.size, fun k hk => hfr.same k hk fun ⟨id, hid, _⟩ => by simp at hid⟩⟩
  | _ => exact he.elim

theorem args_nil (W : World) : ArgsRel (fun _ => none) (stb W) #[] ([] : List (RV G)) := ⟨rfl, fun j u r h => by simp at h⟩
theorem args_cons {W : World} {v : Value} {vs : List Value} {r : RV G} {rs : List (RV G)} (h : RVal (fun _ => none) (stb W) v r) (g : ArgsRel (fun _ => none) (stb W) vs.toArray rs) : ArgsRel (fun _ => none) (stb W) (v :: vs).toArray (r :: rs) := by
  refine ⟨?_, fun j u q hu hq => ?_⟩
  · have := g.1
    simp at this ⊢
    exact this
  · cases j with
    | zero => simp at hu hq; subst hu; subst hq; exact h
    | succ j => exact g.2 j u q (by simpa using hu) (by simpa using hq)

theorem agg_of {W : World} {arr : Array Value} {l : List (RV G)} (h : CR W arr.toList l) : RVal (fun _ => none) (stb W) (.agg arr) (.agg l) :=
  .agg (by simpa using h.1) fun j u r hu hr => h.2 j u r (by simpa using hu) hr
theorem one_of {W : World} {v : Value} {r : RV G} (h : CR W [v] [r]) : RVal (fun _ => none) (stb W) v r := h.2 0 v r rfl rfl
end Go.SX
