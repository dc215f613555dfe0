/- Texts of this seat, laid together by a program: what they say stands at each. No statement of the seat is proved in this file. -/
import Derived.Test.YtkcjaejpkjojnaaMl3
import Derived.ProofKit
import Derived.OpenShut
import Derived.ShutString
import Derived.ChangeOld
import Derived.Below
import Derived.SizedLaws
set_option linter.unusedSectionVars false
set_option linter.unnecessarySimpa false
set_option linter.unusedVariables false
set_option linter.unusedSimpArgs false
set_option exponentiation.threshold 4096
/- What is left: Left and the reference's. No statement of the seat is proved here. -/
namespace Go.SX
open Go.Proofs Ieee
set_option maxRecDepth 20000
/-! ### the most of two, neither below nought -/
def Up (m : Nat) : Prop := m < 9223372036854775808 ∧ isNan m = false
theorem fmost1_up {m x : Nat} (h : Up m) (hx : x < 9223372036854775808) : Up (fmost1 m x) := by
  unfold fmost1
  rw [h.2, cond_false]
  cases hn : isNan x with
  | true => exact h
  | false => cases decide (place m ≥ place x) with
    | true => exact h
    | false => exact ⟨hx, hn⟩
theorem fmost1_zero {m : Nat} (h : Up m) : fmost1 m 0 = m := by
  unfold fmost1
  rw [h.2, (val_pos h.1).2, (val_pos (show (0 : Nat) < 9223372036854775808 by decide)).2, decide_eq_true (by omega)]
  cases isNan 0 <;> rfl
theorem fmost_up {m x : Nat} (h : Up m) (hx : x < 9223372036854775808) : fmost m x = fmost1 m x := by
  have h0 : isNan 0 = false := by decide
  have v0 : val 0 = 0 := by decide
  unfold fmost fmost1
  cases hn : isNan x with
  | true => rw [h.2, flt_nan (.inr hn), feq_nan (x := x) (.inl hn)]; simp
  | false =>
    rw [h.2, flt_val h.2 hn, feq_val h.2 h0, (val_pos h.1).1, (val_pos hx).1, (val_pos h.1).2, (val_pos hx).2, v0]
    have hi := mg_lt_iff (r := m) (s := x)
    by_cases hlt : m < x
    · rw [decide_eq_true (show (mg m : Int) < (mg x : Int) by have := hi.2 hlt; omega), decide_eq_false (show ¬ ((m : Int) ≥ (x : Int)) by omega)]
      rfl
    · rw [decide_eq_false (show ¬ ((mg m : Int) < (mg x : Int)) by have := mt hi.1 hlt; omega), decide_eq_true (show (m : Int) ≥ (x : Int) by omega)]
      by_cases hz : m = 0
      · subst hz
        rw [show fminus 0 = false by decide]
        simp
      · rw [decide_eq_false (show ¬ ((mg m : Int) = 0) by have := mt mg_zero.1 hz; omega)]
        rfl
theorem roff_lt (x : GRow) (a b : GStill) : roff x a b < 9223372036854775808 := by
  unfold roff
  cases rstays x a b with
  | true => show (0 : Nat) < _; decide
  | false => show fabs _ < _; unfold fabs; omega
def left1 (l : List GRow) (b : List GStill) (m i : Nat) : Nat := fmost1 m (roff (getR l i) (getS b (getR l i).A) (getS b (getR l i).B))
def leftAll (l : List GRow) (b : List GStill) : Nat := (List.range l.length).foldl (left1 l b) 0
theorem left1_up {l : List GRow} {b : List GStill} {m : Nat} (h : Up m) (i : Nat) : Up (left1 l b m i) := fmost1_up h (roff_lt _ _ _)
theorem left_step {m : Nat} (h : Up m) (x : GRow) (a b : GStill) : (bif rstays x a b then m else fmost m (fabs (fsub x.Bias (rspeed1 x a b)))) = fmost1 m (roff x a b) := by
  unfold roff
  cases rstays x a b with
  | true => exact (fmost1_zero h).symm
  | false => exact fmost_up h (by unfold fabs; omega)
theorem getI_S {s : List GStill} {i : Int} (h0 : 0 ≤ i) (h1 : i < (s.length : Int)) : getI s i = some (getS s i) := by
  unfold getI
  rw [decide_eq_true h0, cond_true, getS_at h0 h1]
theorem getI_R {l : List GRow} {k : Nat} (h : k < l.length) : getI l (k : Int) = some (getR l k) := by
  unfold getI
  rw [decide_eq_true (by omega), cond_true, Int.toNat_natCast, getR_at h]
def rleft (l : List GRow) (b : List GStill) : RV G := bif sasked l b != 0 then .tuple [.flt 0, .int .i64 (sasked l b)] else .tuple [.flt (leftAll l b), .int .i64 0]
theorem rleft_K (l : List GRow) (b : List GStill) (K : RV G → List (Blk G) → List (Blk G) → Ans G) : K (rleft l b) [] [] = bif sasked l b != 0 then K (.tuple [.flt 0, .int .i64 (sasked l b)]) [] [] else K (.tuple [.flt (leftAll l b), .int .i64 0]) [] [] := by
  unfold rleft
  cases sasked l b != 0 <;> rfl

/-! ### Left -/
def hd28 : LH G := ⟨[1, 7, 23, 24, 25], [], []⟩
def W28 (l : List GRow) (b : List GStill) (m : Nat) (i : Int) : List (RV G) := [.rslice .still b, .flt m, .rslice .row l, .int .i64 l.length, .int .i64 i]
noncomputable def E28 (l : List GRow) (b : List GStill) : List (Nat × LC G) := [(6, lcOf hd28 (W28 l b 0 0) [] fun K => K (.exit 0) (W28 l b (leftAll l b) l.length) [])]
theorem step28 (l : List GRow) (b : List GStill) (m n : Nat) (i : Int) (K) : iter (EV L97 (E28 l b)) hd28 (lpBody Try.f28 0) (n + 1) (W28 l b m i) [] K = bif decide (i < (l.length : Int)) then
    (getI l i).bind fun x => (getI b x.A).bind fun a => (getI b x.B).bind fun c =>
      bif !flt 0 (rweight1 x a c) then iter (EV L97 (E28 l b)) hd28 (lpBody Try.f28 0) n (W28 l b m (IntKind.i64.wrap (i + 1))) [] K
      else bif flt (fsub x.Bias (rspeed1 x a c)) 0 && fle x.Push x.Low then iter (EV L97 (E28 l b)) hd28 (lpBody Try.f28 0) n (W28 l b m (IntKind.i64.wrap (i + 1))) [] K
      else bif flt 0 (fsub x.Bias (rspeed1 x a c)) && fle x.High x.Push then iter (EV L97 (E28 l b)) hd28 (lpBody Try.f28 0) n (W28 l b m (IntKind.i64.wrap (i + 1))) [] K
      else iter (EV L97 (E28 l b)) hd28 (lpBody Try.f28 0) n (W28 l b (fmost m (fabs (fsub x.Bias (rspeed1 x a c)))) (IntKind.i64.wrap (i + 1))) [] K
  else K (.exit 0) (W28 l b m i) [] := by kernel_rfl
theorem lp28 (l : List GRow) (b : List GStill) (hx : l.length < 9223372036854775808) (hf : Fit l b.length) : LpOk (EV L97 (E28 l b)) [] (lpBody Try.f28 0) (lcOf hd28 (W28 l b 0 0) [] fun K => K (.exit 0) (W28 l b (leftAll l b) l.length) []) :=
  lcOf_ok (by kernel_rfl) fun K => ⟨_, fold_loop (N := l.length) (g := left1 l b) (F := fun k i (m : Nat) => iter (EV L97 (E28 l b)) hd28 (lpBody Try.f28 0) k (W28 l b m i) [] K) (X := fun (m : Nat) => K (.exit 0) (W28 l b m l.length) []) (s0 := 0) (fun _ m => Up m) ⟨by decide, by decide⟩
    (fun k i m hi hm => by
      obtain ⟨_, a0, a1, b0, b1, _⟩ := hf i hi
      rw [step28, decide_eq_true (by omega), cond_true, getI_R hi, Option.bind_some, getI_S a0 a1, Option.bind_some, getI_S b0 b1, Option.bind_some, wrap_succ (by omega)]
      unfold left1
      rw [← left_step hm]
      unfold rstays
      generalize getR l i = x
      generalize getS b x.A = a
      generalize getS b x.B = c
      cases flt 0 (rweight1 x a c) <;> cases flt (fsub x.Bias (rspeed1 x a c)) 0 && fle x.Push x.Low <;> cases flt 0 (fsub x.Bias (rspeed1 x a c)) && fle x.High x.Push <;> rfl)
    (fun i m hi hm => left1_up hm i) (fun k m hm => by rw [step28, decide_eq_false (by omega)]; rfl)⟩
def c28 : FC G := FC.sp [.l .row, .l .still] fun (l, b, _) => rleft l b
theorem x28 (l : List GRow) (b : List GStill) (K) : xfn (EV L97 (E28 l b)) Try.f28 [] (encs [.l .row, .l .still] (l, b, ())) [] K = K (rleft l b) [] [] :=
  (show _ = (bif sasked l b != 0 then K (.tuple [.flt 0, .int .i64 (sasked l b)]) [] [] else gate (W28 l b 0 0 = W28 l b 0 0 ∧ ([] : List (Blk G)) = []) (K (.tuple [.flt (leftAll l b), .int .i64 0]) [] [])) from by kernel_rfl).trans (by rw [gate_pos ⟨rfl, rfl⟩, rleft_K l b K])
theorem x28n (l : List GRow) (b : List GStill) (h : (sasked l b != 0) = true) (K) : xfn (EV L97 []) Try.f28 [] (encs [.l .row, .l .still] (l, b, ())) [] K = K (rleft l b) [] [] :=
  (show _ = (bif sasked l b != 0 then K (.tuple [.flt 0, .int .i64 (sasked l b)]) [] [] else none) from by kernel_rfl).trans (by rw [rleft_K l b K, h]; rfl)
theorem ok28 : FcOk Try.prog 28 c28 := sp_lp L97ok Try.func28 (by kernel_rfl) (by kernel_rfl) fun (l, b, _) ⟨hx, _, _⟩ => by
  cases h : (sasked (l : List GRow) (b : List GStill) != 0) with
  | true => exact ⟨[], LpsOk.of _ fun _ _ _ _ h => (by cases h), fun K => x28n l b h K⟩
  | false => exact ⟨E28 l b, lps1 (i := 6) (by kernel_rfl) rfl (lp28 l b hx (sasked_ok h).fit), fun K => x28 l b K⟩
noncomputable def L28 : Ctr := (28, c28) :: L97
theorem L28ok : AllOk L28 := .cons ok28 L97ok

/-! ### the reference's -/
def hd29 : LH G := ⟨[0, 1, 7, 8], [], []⟩
def W29 (l : List GRow) (b : List GStill) (m : Nat) (i : Int) : List (RV G) := [.rslice .row l, .rslice .still b, .flt m, .int .i64 i]
noncomputable def E29 (l : List GRow) (b : List GStill) : List (Nat × LC G) := [(6, lcOf hd29 (W29 l b 0 0) [] fun K => K (.exit 0) (W29 l b (leftAll l b) l.length) [])]
theorem step29 (l : List GRow) (b : List GStill) (m n : Nat) (i : Int) (K) : iter (EV L28 (E29 l b)) hd29 (lpBody Try.f29 0) (n + 1) (W29 l b m i) [] K = bif decide (i < (l.length : Int)) then
    (getI l i).bind fun x => (getI l i).bind fun x1 => (getI b x1.A).bind fun a => (getI l i).bind fun x2 => (getI b x2.B).bind fun c =>
      iter (EV L28 (E29 l b)) hd29 (lpBody Try.f29 0) n (W29 l b (fmost1 m (roff x a c)) (IntKind.i64.wrap (i + 1))) [] K
  else K (.exit 0) (W29 l b m i) [] := by kernel_rfl
theorem lp29 (l : List GRow) (b : List GStill) (hx : l.length < 9223372036854775808) (hf : Fit l b.length) : LpOk (EV L28 (E29 l b)) [] (lpBody Try.f29 0) (lcOf hd29 (W29 l b 0 0) [] fun K => K (.exit 0) (W29 l b (leftAll l b) l.length) []) :=
  lcOf_ok (by kernel_rfl) fun K => ⟨_, fold_loop (N := l.length) (g := left1 l b) (F := fun k i (m : Nat) => iter (EV L28 (E29 l b)) hd29 (lpBody Try.f29 0) k (W29 l b m i) [] K) (X := fun (m : Nat) => K (.exit 0) (W29 l b m l.length) []) (s0 := 0) (fun _ _ => True) trivial
    (fun k i m hi _ => by
      obtain ⟨_, a0, a1, b0, b1, _⟩ := hf i hi
      rw [step29, decide_eq_true (by omega), cond_true]
      simp only [getI_R hi, Option.bind_some, getI_S a0 a1, getI_S b0 b1]
      rw [wrap_succ (by omega)]
      rfl)
    (fun _ _ _ _ => trivial) (fun k m _ => by rw [step29, decide_eq_false (by omega)]; rfl)⟩
def c29 : FC G := FC.sp [.l .row, .l .still] fun (l, b, _) => rleft l b
theorem x29 (l : List GRow) (b : List GStill) (K) : xfn (EV L28 (E29 l b)) Try.f29 [] (encs [.l .row, .l .still] (l, b, ())) [] K = K (rleft l b) [] [] :=
  (show _ = (bif sasked l b != 0 then K (.tuple [.flt 0, .int .i64 (sasked l b)]) [] [] else gate (W29 l b 0 0 = W29 l b 0 0 ∧ ([] : List (Blk G)) = []) (K (.tuple [.flt (leftAll l b), .int .i64 0]) [] [])) from by kernel_rfl).trans (by rw [gate_pos ⟨rfl, rfl⟩, rleft_K l b K])
theorem x29n (l : List GRow) (b : List GStill) (h : (sasked l b != 0) = true) (K) : xfn (EV L28 []) Try.f29 [] (encs [.l .row, .l .still] (l, b, ())) [] K = K (rleft l b) [] [] :=
  (show _ = (bif sasked l b != 0 then K (.tuple [.flt 0, .int .i64 (sasked l b)]) [] [] else none) from by kernel_rfl).trans (by rw [rleft_K l b K, h]; rfl)
theorem ok29 : FcOk Try.prog 29 c29 := sp_lp L28ok Try.func29 (by kernel_rfl) (by kernel_rfl) fun (l, b, _) ⟨hx, _, _⟩ => by
  cases h : (sasked (l : List GRow) (b : List GStill) != 0) with
  | true => exact ⟨[], LpsOk.of _ fun _ _ _ _ h => (by cases h), fun K => x29n l b h K⟩
  | false => exact ⟨E29 l b, lps1 (i := 6) (by kernel_rfl) rfl (lp29 l b hx (sasked_ok h).fit), fun K => x29 l b K⟩
noncomputable def L29 : Ctr := (29, c29) :: L28
theorem L29ok : AllOk L29 := .cons ok29 L28ok
end Go.SX

/- Answers written over (tumblelaw21.spoil). No statement of the seat is proved here. -/
namespace Go.SX
open Go.Proofs
set_option maxRecDepth 20000
section
variable {L : Ctr} (hL : AllOk L) {f : Nat} {fn : Func} (hf : Try.prog.funcs[f]? = some fn) (ho : fnOK fn = true)
include hL hf ho
/-- Rows are given up, loops told for the arguments at hand. -/
theorem dead_lp {mu : List Nat} (hres : fn.results = #[]) {ok : List (RV G) → List (Blk G) → Prop}
    (h : ∀ vs bs, ok vs bs → vs.length ≤ fn.ntmps ∧ ∃ lp, LpsOk (EV L lp) [] (bodyD fn) ∧ ∃ out, xcode (EV L lp) (bodyD fn) ⟨startT vs, startM (muIds mu vs) bs⟩ (fun e _ => match e with | .exit _ => none | _ => some (.tuple [], [], [])) = some out)
    {run : List (RV G) → List (Blk G) → (RV G → List (Blk G) → List (Blk G) → Ans G) → Ans G}
    (hk : ∀ vs bs K o, run vs bs K = some o → ok vs bs ∧ bs.length = (muIds mu vs).length ∧ K (.tuple []) (bs.map fun _ => .dead) [] = some o) : FcOk Try.prog f (FC.ofRun mu run) where
  pure _ _ h := by cases h
  run vs bs K o hr := by
    obtain ⟨h0, hbl, hK⟩ := hk vs bs K o hr
    obtain ⟨h1, lp, hlp, out, h2⟩ := h vs bs h0
    obtain ⟨o1, o2, o3⟩ := fnOK_spec ho
    obtain ⟨e, s1, g1, g2⟩ := xcode_fine (N := fn.ntmps) (mu := []) (EV_ok hL lp) mixed (bodyD fn) _ _ _ o3 hlp h2
    have hne : e = .normal ∨ e = .ret := by
      cases e with
      | normal => exact .inl rfl
      | exit i => cases g1
      | ret => exact .inr rfl
    refine ⟨_, _, _, hK, fun cx w us ids hids hl ha hal hi => ?_⟩
    have hids' : ids = muIds mu vs := hids
    subst hids'
    have hcall : (callFunc f us).run Try.prog w = .ok (.enter f us) w := by
      have hn : ¬ (fn.name = "runtime.NumGoroutine") := by simpa using o1
      simp [callFunc, program, Sem.run, hf, hn, o2]
    unfold CallsTo
    rw [hcall]
    refine calls_of_wp hf o2 (wp_mono (g2 _ _ cx _ w (start_rel h1 ha hi)) fun x a' w' ⟨hx, cx', x1, f1, r1⟩ => ?_)
    obtain ⟨v, hv, hrel⟩ := run_results (EV_ok hL lp).toEnvTy r1 (fn := fn) (rs := []) (by rw [hres]; rfl)
    have hpost : CallPost cx (muIds mu vs) w (.tuple [] : RV G) (bs.map fun _ => .dead) [] v w' := by
      refine ⟨fun _ => none, cx.St, ?_, ⟨Le.refl _, fun k ob hk => r1.rel.inv.stable k ob (x1.St k ob hk), fun k ob hk => .inl ⟨ob, hk⟩⟩, ⟨fun _ _ => rfl, fun j x h => by simp at h, fun j j' l l' k h => by cases h⟩, ⟨by simp [hbl], fun i id x _ hx l _ => ?_⟩,
        ⟨f1.size, fun k hk hn => f1.same k hk fun h => h.elim hn fun h => by omega, f1.os, f1.tape, f1.output⟩⟩
      · have : RVal cx'.φ cx'.St v (.tuple [] : RV G) := hrel
        cases this with
        | tuple hn g => exact .tuple hn fun j u r _ hr => by simp at hr
      · rw [List.getElem?_map] at hx
        obtain ⟨_, _, rfl⟩ := Option.map_eq_some_iff.1 hx
        trivial
    subst hx
    rcases hne with rfl | rfl
    · exact ⟨r1.rel.defers, v, hv, hpost⟩
    · exact ⟨r1.rel.defers, v, hv, hpost⟩
end
def end33 : XE → AS G → Ans G := fun e _ => match e with | .exit _ => none | _ => some (.tuple [], [], [])
def row98 : GRow := { row0 with Of := 98 }
def row97 : GRow := { row0 with Of := 97 }
def st98 : GStill := { still0 with Spin := 4636596553866280960 }
def st97 : GStill := { still0 with Spin := 4636526185122103296 }
def hd33a : LH G := ⟨[0, 1, 4], [], [0, 1]⟩
def hd33b : LH G := ⟨[0, 1, 5], [], [0, 1]⟩
def hd33c : LH G := ⟨[6], [(0, .row, 900), (1, .still, 901)], []⟩
def W33 (r : List GRow) (s : List GStill) (i : Int) : List (RV G) := [.own 0 .row r.length, .own 1 .still s.length, .int .i64 i]
def V33 (r : List GRow) (s : List GStill) (i : Int) : List (RV G) := [.int .i64 i, .own 900 .row r.length, .own 901 .still s.length]
def over (r : List GRow) : List GRow := (List.range r.length).foldl (fun r i => r.set i row98) r
def overS (s : List GStill) : List GStill := (List.range s.length).foldl (fun r i => r.set i st98) s
def more (q : List GRow × List GStill) : List GRow × List GStill := (q.1 ++ [row97], q.2 ++ [st97])
def more4 (q : List GRow × List GStill) : List GRow × List GStill := (List.range 4).foldl (fun q _ => more q) q
noncomputable def lc33c (r : List GRow) (s : List GStill) : LC G := lcOf hd33c (V33 r s 0) (Bq (r, s)) fun K => K (.exit 4) (V33 (more4 (r, s)).1 (more4 (r, s)).2 4) (Bq (more4 (r, s)))
noncomputable def E33 (r : List GRow) (s : List GStill) : List (Nat × LC G) :=
  [(1, lcOf hd33a (W33 r s 0) (Bq (r, s)) fun K => K (.exit 0) (W33 (over r) s r.length) (Bq (over r, s))), (5, lcOf hd33b (W33 (over r) s 0) (Bq (over r, s)) fun K => K (.exit 2) (W33 (over r) (overS s) s.length) (Bq (over r, overS s))), (9, lc33c (over r) (overS s))]
theorem step33a (r0 : List GRow) (s : List GStill) (r : List GRow) (n : Nat) (i : Int) (K) : iter (EV L29 (E33 r0 s)) hd33a (lpBody Try.f33 0) (n + 1) (W33 r s i) (Bq (r, s)) K = bif decide (i < (r.length : Int)) then
    atN r.length r i fun _ => iter (EV L29 (E33 r0 s)) hd33a (lpBody Try.f33 0) n (W33 (r.set i.toNat row98) s (IntKind.i64.wrap (i + 1))) (Bq (r.set i.toNat row98, s)) K
  else K (.exit 0) (W33 r s i) (Bq (r, s)) := by kernel_rfl
theorem step33b (r0 : List GRow) (s0 : List GStill) (r : List GRow) (s : List GStill) (n : Nat) (i : Int) (K) : iter (EV L29 (E33 r0 s0)) hd33b (lpBody Try.f33 1) (n + 1) (W33 r s i) (Bq (r, s)) K = bif decide (i < (s.length : Int)) then
    atN s.length s i fun _ => iter (EV L29 (E33 r0 s0)) hd33b (lpBody Try.f33 1) n (W33 r (s.set i.toNat st98) (IntKind.i64.wrap (i + 1))) (Bq (r, s.set i.toNat st98)) K
  else K (.exit 2) (W33 r s i) (Bq (r, s)) := by kernel_rfl
theorem step33c (lp : List (Nat × LC G)) (r : List GRow) (s : List GStill) (n : Nat) (i : Int) (K) : iter (EV L29 lp) hd33c (lpBody Try.f33 2) (n + 1) (V33 r s i) (Bq (r, s)) K = bif decide (i < 4) then
    bif decide ((r ++ [row97]).length * 112 ≤ 2 ^ 47) then bif decide ((s ++ [st97]).length * 40 ≤ 2 ^ 47) then iter (EV L29 lp) hd33c (lpBody Try.f33 2) n (V33 (r ++ [row97]) (s ++ [st97]) (IntKind.i64.wrap (i + 1))) (Bq (r ++ [row97], s ++ [st97])) K else none else none
  else K (.exit 4) (V33 r s i) (Bq (r, s)) := by kernel_rfl
def done33 : Ans G := some (.tuple [], [], [])
def tail33 (q : List GRow × List GStill) : Ans G := bif decide (IntKind.i64.wrap ((q.1.length : Int) + (q.2.length : Int)) > 0) && decide ((q.1.length : Int) > 0) then atN q.1.length q.1 0 fun _ => done33 else done33
theorem x33 (r : List GRow) (s : List GStill) : xcode (EV L29 (E33 r s)) (bodyD Try.f33) ⟨startT [.own 0 .row r.length, .own 1 .still s.length], startM (muIds [0, 1] [(.own 0 .row r.length : RV G), .own 1 .still s.length]) (Bq (r, s))⟩ end33 =
    gate (W33 r s 0 = W33 r s 0 ∧ Bq (r, s) = Bq (r, s)) (gate (W33 (over r) s 0 = W33 (over r) s 0 ∧ Bq (over r, s) = Bq (over r, s)) (gate (V33 (over r) (overS s) 0 = V33 (over r) (overS s) 0 ∧ Bq (over r, overS s) = Bq (over r, overS s)) (tail33 (more4 (over r, overS s))))) := by kernel_rfl
def hd33x : LH G := ⟨[0, 1, 4], [], []⟩
def hd33y : LH G := ⟨[0, 1, 5], [], []⟩
def N33 : List (RV G) := [.nilslice, .nilslice, .int .i64 0]
noncomputable def E33n : List (Nat × LC G) := [(1, lcOf hd33x N33 [] fun K => K (.exit 0) N33 []), (5, lcOf hd33y N33 [] fun K => K (.exit 2) N33 []), (9, lc33c [] [])]
theorem step33x (n : Nat) (K) : iter (EV L29 E33n) hd33x (lpBody Try.f33 0) (n + 1) N33 [] K = K (.exit 0) N33 [] := by kernel_rfl
theorem step33y (n : Nat) (K) : iter (EV L29 E33n) hd33y (lpBody Try.f33 1) (n + 1) N33 [] K = K (.exit 2) N33 [] := by kernel_rfl
theorem x33n : xcode (EV L29 E33n) (bodyD Try.f33) ⟨startT [.nilslice, .nilslice], startM (muIds [0, 1] [(.nilslice : RV G), .nilslice]) []⟩ end33 =
    gate (N33 = N33 ∧ ([] : List (Blk G)) = []) (gate (N33 = N33 ∧ ([] : List (Blk G)) = []) (gate (V33 [] [] 0 = V33 [] [] 0 ∧ Bq ([], []) = Bq ([], [])) (tail33 (more4 ([], []))))) := by kernel_rfl
theorem over_len (r : List GRow) : (over r).length = r.length := fold_inv (P := fun t : List GRow => t.length = r.length) (fun i t _ h => by simp [h]) rfl
theorem overS_len (s : List GStill) : (overS s).length = s.length := fold_inv (P := fun t : List GStill => t.length = s.length) (fun i t _ h => by simp [h]) rfl
theorem more4_len (q : List GRow × List GStill) : (more4 q).1.length = q.1.length + 4 ∧ (more4 q).2.length = q.2.length + 4 := by simp [more4, more, List.range, List.range.loop]
theorem tail33_done {q : List GRow × List GStill} (h : 0 < q.1.length) : tail33 q = done33 := by
  unfold tail33
  cases decide (IntKind.i64.wrap ((q.1.length : Int) + (q.2.length : Int)) > 0) && decide ((q.1.length : Int) > 0) with
  | false => rfl
  | true => exact atN_any (by omega) (by omega) (Nat.le_refl _)
theorem lp33c (lp : List (Nat × LC G)) (r : List GRow) (s : List GStill) (hr : r.length ≤ 1048576) (hs : s.length ≤ 1048576) : LpOk (EV L29 lp) [] (lpBody Try.f33 2) (lc33c r s) :=
  lcOf_ok (by kernel_rfl) fun K => ⟨_, fold_loop (N := 4) (g := fun q _ => more q) (F := fun k i (q : List GRow × List GStill) => iter (EV L29 lp) hd33c (lpBody Try.f33 2) k (V33 q.1 q.2 i) (Bq q) K) (X := fun (q : List GRow × List GStill) => K (.exit 4) (V33 q.1 q.2 4) (Bq q)) (s0 := (r, s)) (fun i q => q.1.length ≤ r.length + i ∧ q.2.length ≤ s.length + i) ⟨Nat.le_refl _, Nat.le_refl _⟩
    (fun k i q hi hq => by
      rw [step33c, decide_eq_true (show (i : Int) < 4 by omega), cond_true, decide_eq_true (by rw [List.length_append]; simp; omega), cond_true, decide_eq_true (by rw [List.length_append]; simp; omega), cond_true, wrap_succ (by omega)]
      rfl)
    (fun i q _ hq => by simp [more]; omega) (fun k q hq => by rw [step33c, decide_eq_false (by omega)]; rfl)⟩
theorem lp33a (r : List GRow) (s : List GStill) (hr : r.length ≤ 1048576) : LpOk (EV L29 (E33 r s)) [] (lpBody Try.f33 0) (lcOf hd33a (W33 r s 0) (Bq (r, s)) fun K => K (.exit 0) (W33 (over r) s r.length) (Bq (over r, s))) :=
  lcOf_ok (by kernel_rfl) fun K => ⟨_, fold_loop (N := r.length) (g := fun r i => r.set i row98) (F := fun k i (t : List GRow) => iter (EV L29 (E33 r s)) hd33a (lpBody Try.f33 0) k (W33 t s i) (Bq (t, s)) K) (X := fun (t : List GRow) => K (.exit 0) (W33 t s r.length) (Bq (t, s))) (s0 := r) (fun _ t => t.length = r.length) rfl
    (fun k i t hi ht => by rw [step33a, decide_eq_true (by omega), cond_true, atN_any (by omega) (by omega) (Nat.le_refl _), wrap_succ (by omega), Int.toNat_natCast])
    (fun i t _ ht => by simp [ht]) (fun k t ht => by rw [step33a, decide_eq_false (by omega)]; rfl)⟩
theorem lp33b (r : List GRow) (s : List GStill) (hs : s.length ≤ 1048576) : LpOk (EV L29 (E33 r s)) [] (lpBody Try.f33 1) (lcOf hd33b (W33 (over r) s 0) (Bq (over r, s)) fun K => K (.exit 2) (W33 (over r) (overS s) s.length) (Bq (over r, overS s))) :=
  lcOf_ok (by kernel_rfl) fun K => ⟨_, fold_loop (N := s.length) (g := fun s i => s.set i st98) (F := fun k i (t : List GStill) => iter (EV L29 (E33 r s)) hd33b (lpBody Try.f33 1) k (W33 (over r) t i) (Bq (over r, t)) K) (X := fun (t : List GStill) => K (.exit 2) (W33 (over r) t s.length) (Bq (over r, t))) (s0 := s) (fun _ t => t.length = s.length) rfl
    (fun k i t hi ht => by rw [step33b, decide_eq_true (by omega), cond_true, atN_any (by omega) (by omega) (Nat.le_refl _), wrap_succ (by omega), Int.toNat_natCast])
    (fun i t _ ht => by simp [ht]) (fun k t ht => by rw [step33b, decide_eq_false (by omega)]; rfl)⟩

/-- What spoil is handed. -/
inductive Ok33 : List (RV G) → List (Blk G) → Prop where
  | own (r : List GRow) (s : List GStill) (hr : r.length ≤ 1048576) (hs : s.length ≤ 1048576) : Ok33 [.own 0 .row r.length, .own 1 .still s.length] [.rows .row r, .rows .still s]
  | nil : Ok33 [.nilslice, .nilslice] []
noncomputable def c33 : FC G := FC.ofRun [0, 1] fun vs bs K => gate (Ok33 vs bs) (K (.tuple []) (bs.map fun _ => .dead) [])
theorem ok33 : FcOk Try.prog 33 c33 := dead_lp L29ok Try.func33 (by kernel_rfl) (by kernel_rfl) (ok := Ok33) (fun vs bs h => by
    cases h with
    | own r s hr hs => exact ⟨Nat.le_of_ble_eq_true (by kernel_rfl), E33 r s, lps3 (i := 1) (j := 5) (k := 9) (by kernel_rfl) rfl (lp33a r s hr) rfl (lp33b r s hs) rfl (lp33c _ _ _ (by rw [over_len]; exact hr) (by rw [overS_len]; exact hs)), (.tuple [], [], []), (x33 r s).trans (by
        rw [gate_pos ⟨rfl, rfl⟩, gate_pos ⟨rfl, rfl⟩, gate_pos ⟨rfl, rfl⟩, tail33_done (by rw [(more4_len _).1]; omega)]
        rfl)⟩
    | nil => exact ⟨Nat.le_of_ble_eq_true (by kernel_rfl), E33n, lps3 (i := 1) (j := 5) (k := 9) (by kernel_rfl) rfl (lcOf_ok (by kernel_rfl) fun K => ⟨_, step33x 0 K⟩) rfl (lcOf_ok (by kernel_rfl) fun K => ⟨_, step33y 0 K⟩) rfl (lp33c _ _ _ (by decide) (by decide)), (.tuple [], [], []), x33n.trans (by
        rw [gate_pos ⟨rfl, rfl⟩, gate_pos ⟨rfl, rfl⟩, gate_pos ⟨rfl, rfl⟩, tail33_done (by rw [(more4_len _).1]; omega)]
        rfl)⟩)
  fun vs bs K o h => by
    obtain ⟨h0, h1⟩ := gate_some h
    refine ⟨h0, ?_, h1⟩
    cases h0 <;> rfl
noncomputable def L33 : Ctr := (33, c33) :: L29
theorem L33ok : AllOk L33 := .cons ok33 L29ok
end Go.SX

/- What was lent is whole; large questions. No statement of the seat is proved here. -/
namespace Go.SX
open Go.Proofs
set_option maxRecDepth 20000
def run34 (u : List GRow × Nat) (l : List GRow) (v : List GStill × Nat) (b : List GStill) (K : RV G → List (Blk G) → List (Blk G) → Ans G) : Ans G :=
  bif lsame r2same (u.1.take u.2) l && lsame stsame (v.1.take v.2) b then
    bif decide (0 ≤ IntKind.i64.wrap ((l.length : Int) + 1) ∧ IntKind.i64.wrap ((l.length : Int) + 1) ≤ (u.1.length : Int) ∧ IntKind.i64.wrap ((l.length : Int) + 1) < 9223372036854775808) then
      bif decide ((l.length : Int) < ((IntKind.i64.wrap ((l.length : Int) + 1)).toNat : Int)) then (getI u.1 (l.length : Int)).bind fun q => bif true && (q.Of == 77) then
        bif decide (0 ≤ IntKind.i64.wrap ((b.length : Int) + 1) ∧ IntKind.i64.wrap ((b.length : Int) + 1) ≤ (v.1.length : Int) ∧ IntKind.i64.wrap ((b.length : Int) + 1) < 9223372036854775808) then
          bif decide ((b.length : Int) < ((IntKind.i64.wrap ((b.length : Int) + 1)).toNat : Int)) then (getI v.1 (b.length : Int)).bind fun p => K (.bool (true && feq p.Spin 4635118810238550016)) [] [] else none
        else none
      else K (.bool false) [] [] else none
    else none
  else K (.bool false) [] []
theorem ok34 : FcOk Try.prog 34 (FC.rn [.ct .row, .l .row, .ct .still, .l .still] fun (u, l, v, b, _) K => run34 u l v b K) := rn0 L33ok Try.func34 (by kernel_rfl) (by kernel_rfl) (by kernel_rfl) fun (u, l, v, b, _) K => by kernel_rfl
theorem run34_at (l : List GRow) (b : List GStill) (hl : l.length < 4611686018427387904) (hb : b.length < 4611686018427387904) (K) : run34 (l ++ [mark24], l.length) l (b ++ [mark25], b.length) b K = K (.bool true) [] [] := by
  unfold run34
  have e1 : IntKind.i64.wrap ((l.length : Int) + 1) = ((l.length + 1 : Nat) : Int) := wrap_succ (by omega)
  have e2 : IntKind.i64.wrap ((b.length : Int) + 1) = ((b.length + 1 : Nat) : Int) := wrap_succ (by omega)
  simp only [e1, e2, List.take_left, lsame_self r2same_self, lsame_self stsame_self, Bool.and_self, cond_true]
  rw [decide_eq_true (by rw [List.length_append]; simp; omega), cond_true, decide_eq_true (by omega), cond_true, getI_at (by rw [List.length_append]; simp)]
  have hq : (l ++ [mark24])[l.length]'(by simp) = mark24 := by simp
  have hp : (b ++ [mark25])[b.length]'(by simp) = mark25 := by simp
  rw [hq, Option.bind_some, show (true && (mark24.Of == 77)) = true by decide, cond_true, decide_eq_true (by rw [List.length_append]; simp; omega), cond_true, decide_eq_true (by omega), cond_true, getI_at (by rw [List.length_append]; simp), hp, Option.bind_some, show (true && feq mark25.Spin 4635118810238550016) = true by decide]
def large (l : List GRow) (b : List GStill) : Bool := (decide ((l.length : Int) > 200) && decide ((l.length : Int) ≤ 1048576)) || (decide ((b.length : Int) > 60) && decide ((b.length : Int) ≤ 1024))
def c23 : FC G := FC.sp [.l .row, .l .still] fun (l, b, _) => .bool (large l b)
theorem ok23 : FcOk Try.prog 23 c23 := sp0 L33ok Try.func23 (by kernel_rfl) (by kernel_rfl) (by kernel_rfl) fun (l, b, _) K => by kernel_rfl
end Go.SX

/- PRINTED BY A PROGRAM OF THIS SEAT: what the laws of solving ask of themselves. No statement of the seat is proved here. -/
namespace Go.SX
open Go.Proofs
set_option maxRecDepth 20000
/-- The row of the law's own questions. -/
def rw86 (a b : Int) : GRow := ⟨a, b, ⟨0, 13830554455654793216⟩, ⟨0, 4607182418800017408⟩, 0, 0, 0, 0, 9218868437227405312, 0, -1, 0⟩
noncomputable def c86 : FC G := FC.sp [.s .i64, .s .i64] fun (a, b, _) => encR .row (rw86 a b)
theorem ok86 : FcOk Try.prog 86 c86 := sp0 L33ok Try.func86 (by kernel_rfl) (by kernel_rfl) (by kernel_rfl) fun (a, b, _) K => by kernel_rfl
noncomputable def L86 : Ctr := (86, c86) :: L33
theorem L86ok : AllOk L86 := .cons ok86 L33ok
noncomputable def lp167 : List (Nat × LC G) := [(2, ⟨⟨[0, 1, 4, 7, 8], [], []⟩, iter (EV L86 []) ⟨[0, 1, 4, 7, 8], [], []⟩ (lpBody Try.f167 0) 3⟩)]
noncomputable def run167 (x : dens [.l .i64, .s .i64]) (K : RV G → List (Blk G) → List (Blk G) → Ans G) : Ans G := xfn (EV L86 lp167) Try.f167 [] (encs [.l .i64, .s .i64] x) [] K
/-- slices.Index, of lists shorter than three. -/
noncomputable def c167 : FC G := FC.rn [.l .i64, .s .i64] run167
theorem ok167 : FcOk Try.prog 167 c167 := rn_ok L86ok Try.func167 (by kernel_rfl) lp167 (lps1 (i := 2) (by kernel_rfl) rfl (lpIter _ _ _ (by kernel_rfl) (by kernel_rfl))) (by kernel_rfl) fun x K o h => h
noncomputable def L167 : Ctr := (167, c167) :: L86
theorem L167ok : AllOk L167 := .cons ok167 L86ok
noncomputable def run102 (x : dens [.l .i64, .s .i64]) (K : RV G → List (Blk G) → List (Blk G) → Ans G) : Ans G := xfn (EV L167 []) Try.f102 [] (encs [.l .i64, .s .i64] x) [] K
noncomputable def c102 : FC G := FC.rn [.l .i64, .s .i64] run102
theorem ok102 : FcOk Try.prog 102 c102 := rn_ok L167ok Try.func102 (by kernel_rfl) [] (.none (by kernel_rfl)) (by kernel_rfl) fun x K o h => h
noncomputable def L102 : Ctr := (102, c102) :: L167
theorem L102ok : AllOk L102 := .cons ok102 L167ok
def h37a : LH G := ⟨[0, 1, 4, 5, 6, 25, 26, 27], [], []⟩
def h37b : LH G := ⟨[1, 12, 42, 43, 44], [(10, .row, 900), (11, .i64, 901)], [41]⟩
def h37c : LH G := ⟨[10, 11, 12, 74, 75], [], [900, 901, 41]⟩
noncomputable def lp37 : List (Nat × LC G) := [(4, ⟨h37a, iter (EV L102 []) h37a (lpBody Try.f37 0) 5⟩), (14, ⟨h37b, iter (EV L102 []) h37b (lpBody Try.f37 1) 5⟩), (21, ⟨h37c, iter (EV L102 []) h37c (lpBody Try.f37 2) 5⟩)]
noncomputable def run37 (x : dens [.l .row, .l .i64]) (K : RV G → List (Blk G) → List (Blk G) → Ans G) : Ans G := xfn (EV L102 lp37) Try.f37 [] (encs [.l .row, .l .i64] x) [] K
theorem okr37 : FcOk Try.prog 37 (FC.rn [.l .row, .l .i64] run37) := rn_ok L102ok Try.func37 (by kernel_rfl) lp37 (lps3 (i := 4) (j := 14) (k := 21) (by kernel_rfl) rfl (lpIter _ _ _ (by kernel_rfl) (by kernel_rfl)) rfl (lpIter _ _ _ (by kernel_rfl) (by kernel_rfl)) rfl (lpIter _ _ _ (by kernel_rfl) (by kernel_rfl))) (by kernel_rfl) fun x K o h => h
theorem run37_at (K) : run37 ([rw86 0 1, rw86 2 3, rw86 3 0], [3], ()) K = K (.tuple [.own 0 .row 2, .own 1 .i64 2, .int .i64 0]) [] [.rows .row [rw86 2 3, rw86 3 0], .rows .i64 [1, 2]] := by kernel_rfl
end Go.SX

/- What the laws of solving ask of themselves: awake. No statement of the seat is proved here. -/
namespace Go.SX
open Go.Proofs
set_option maxRecDepth 20000
def st1 : GStill := ⟨4607182418800017408, 4602678819172646912, ⟨0, 13835058055282163712⟩, 0⟩
def sts : List GStill := [still0, st1]
def rws : List GRow := [rw86 0 1]
def x99 : dens [.l .row, .l .still] := (rws, sts, ())
def x37 : dens [.l .row, .l .i64] := ([rw86 0 1, rw86 2 3, rw86 3 0], [3], ())
def x35 : dens [.l .row, .l .row, .l .still] := (rws, rws, sts, ())
noncomputable def c37x : FC G := FC.at [.l .row, .l .i64] x37 (.tuple [.own 0 .row 2, .own 1 .i64 2, .int .i64 0]) [.rows .row [rw86 2 3, rw86 3 0], .rows .i64 [1, 2]]
noncomputable def L37x : Ctr := (37, c37x) :: L102
theorem L37xok : AllOk L37x := .cons (at_ok okr37 run37_at) L102ok
/-! ### held -/
def h99o : LH G := ⟨[1, 5, 13, 14, 15], [], [12]⟩
def h99i : LH G := ⟨[1, 5, 13, 14, 15, 23, 24], [], [12]⟩
def v99 (i : Int) : List (RV G) := [.rslice .still sts, .own 12 .bool 2, .rslice .row rws, .int .i64 1, .int .i64 i]
noncomputable def lp99 : List (Nat × LC G) := [(3, lcOf h99o (v99 0) [.rows .bool [false, false]] fun K => K (.exit 0) (v99 1) [.rows .bool [false, true]]), (6, ⟨h99i, iter (EV L37x []) h99i (lpBody Try.f99 1) 4⟩)]
noncomputable def run99 (x : dens [.l .row, .l .still]) (K : RV G → List (Blk G) → List (Blk G) → Ans G) : Ans G := xfn (EV L37x lp99) Try.f99 [] (encs [.l .row, .l .still] x) [] K
theorem okr99 : FcOk Try.prog 99 (FC.rn [.l .row, .l .still] run99) := rn_ok L37xok Try.func99 (by kernel_rfl) lp99 (lps2 (i := 3) (j := 6) (by kernel_rfl) rfl (lcOf_ok (by kernel_rfl) fun K => ⟨3, by kernel_rfl⟩) rfl (lpIter _ _ _ (by kernel_rfl) (by kernel_rfl))) (by kernel_rfl) fun x K o h => h
theorem run99_at (K) : run99 x99 K = K (.own 0 .bool 2) [] [.rows .bool [false, true]] :=
  (show run99 x99 K = gate (v99 0 = v99 0 ∧ ([.rows .bool [false, false]] : List (Blk G)) = [.rows .bool [false, false]]) (K (.own 0 .bool 2) [] [.rows .bool [false, true]]) from by kernel_rfl).trans (gate_pos ⟨rfl, rfl⟩ _)
noncomputable def c99x : FC G := FC.at [.l .row, .l .still] x99 (.own 0 .bool 2) [.rows .bool [false, true]]
noncomputable def L99x : Ctr := (99, c99x) :: L37x
theorem L99xok : AllOk L99x := .cons (at_ok okr99 run99_at) L37xok
/-! ### Apart -/
def h35a : LH G := ⟨[0, 1, 2, 6, 7, 17, 18], [], []⟩
def h35b : LH G := ⟨[11, 12, 13, 35, 36], [], [4126, 4129]⟩
noncomputable def lp35 : List (Nat × LC G) := [(2, ⟨h35a, iter (EV L99x []) h35a (lpBody Try.f35 0) 4⟩), (11, ⟨h35b, iter (EV L99x []) h35b (lpBody Try.f35 1) 4⟩)]
noncomputable def run35 (x : dens [.l .row, .l .row, .l .still]) (K : RV G → List (Blk G) → List (Blk G) → Ans G) : Ans G := xfn (EV L99x lp35) Try.f35 [] (encs [.l .row, .l .row, .l .still] x) [] K
theorem okr35 : FcOk Try.prog 35 (FC.rn [.l .row, .l .row, .l .still] run35) := rn_ok L99xok Try.func35 (by kernel_rfl) lp35 (lps2 (i := 2) (j := 11) (by kernel_rfl) rfl (lpIter _ _ _ (by kernel_rfl) (by kernel_rfl)) rfl (lpIter _ _ _ (by kernel_rfl) (by kernel_rfl))) (by kernel_rfl) fun x K o h => h
theorem run35_at (K) : run35 x35 K = K (.tuple [.bool false, .int .i64 0]) [] [] :=
  (show run35 x35 K = gate (x99 = x99) (gate (x99 = x99) (K (.tuple [.bool false, .int .i64 0]) [] [])) from by kernel_rfl).trans (by rw [gate_pos rfl, gate_pos rfl])
noncomputable def c35x : FC G := FC.at [.l .row, .l .row, .l .still] x35 (.tuple [.bool false, .int .i64 0]) []
noncomputable def L35x : Ctr := (35, c35x) :: L99x
theorem L35xok : AllOk L35x := .cons (at_ok okr35 run35_at) L99xok
/-! ### awake -/
theorem ok22 : FcOk Try.prog 22 (FC.sp [] fun _ => .bool true) := sp0 L35xok Try.func22 (by kernel_rfl) (by kernel_rfl) (by kernel_rfl) fun _ K => (show xfn (EV L35x []) Try.f22 [] [] [] K = gate (x35 = x35) (gate (x37 = x37) (K (.bool true) [] [])) from by kernel_rfl).trans (by rw [gate_pos rfl, gate_pos rfl])
end Go.SX

/- The law SolveAll answers true. No statement of the seat is proved here. -/
namespace Go.SX
open Go.Proofs
set_option maxRecDepth 20000
theorem sp_rn {f : Nat} {ks : List AK} {res : dens ks → RV G} (h : FcOk Try.prog f (FC.sp ks res)) : FcOk Try.prog f (FC.rn ks fun x K => K (res x) [] []) := h.sub rfl (fun _ => rfl) fun a bs K o e => by
  simp only [FC.rn, FC.ofRun, FC.sp, FC.ofPure] at e ⊢
  split at e
  · rename_i x hx
    exact e
  · cases e
/-- What All comes to, with the rows and stills that it makes. -/
inductive AllRes where
  | fails (e : Int)
  | solves (R : List GRow) (S : List GStill)
def AllRes.r : AllRes → RV G
  | .fails e => .tuple [.nilslice, .nilslice, .int .i64 e]
  | .solves R S => .tuple [.own 0 .row R.length, .own 1 .still S.length, .int .i64 0]
def AllRes.fr : AllRes → List (Blk G)
  | .fails _ => []
  | .solves R S => [.rows .row R, .rows .still S]
theorem solved_len (l : List GRow) (s : List GStill) (n : Nat) : (solved l s n).1.length = l.length ∧ (solved l s n).2.length = s.length := by
  have := rounds_keeps n (l, warmAll l s)
  exact ⟨this.1, this.2.1.trans (warmAll_keeps l s)⟩
theorem runAll_res (l : List GRow) (b : List GStill) (n : Int) : ∃ q : AllRes, (∀ R S, q = .solves R S → R.length ≤ 1048576 ∧ S.length ≤ 1048576) ∧ ∀ K, runAll l b n K = K q.r [] q.fr := by
  unfold runAll
  cases h1 : sasked l b != 0 with
  | true => exact ⟨.fails (sasked l b), fun R S h => (by cases h), fun K => rfl⟩
  | false => cases h2 : decide (n < 0) || decide (n > 64) with
    | true => exact ⟨.fails 210, fun R S h => (by cases h), fun K => rfl⟩
    | false =>
      refine ⟨.solves (solved l b n.toNat).1 (solved l b n.toNat).2, fun R S h => ?_, fun K => rfl⟩
      cases h
      obtain ⟨e1, e2⟩ := solved_len l b n.toNat
      have ha := sasked_ok h1
      have := ha.rows
      have := ha.bodies
      omega
theorem rleft_res (l : List GRow) (b : List GStill) : ∃ (m : Nat) (e : Int), rleft l b = .tuple [.flt m, .int .i64 e] := by
  unfold rleft
  cases sasked l b != 0 with
  | true => exact ⟨_, _, rfl⟩
  | false => exact ⟨_, _, rfl⟩
theorem run24_at (l : List GRow) (h : (l.length + 1) * 112 ≤ 2 ^ 47) (K : RV G → List (Blk G) → List (Blk G) → Ans G) : (bif decide (l.length * 112 ≤ 2 ^ 47) then bif decide ((l ++ [mark24]).length * 112 ≤ 2 ^ 47) then bif decide ((0 : Int) ≤ 0 ∧ (0 : Int) ≤ (l.length : Int) ∧ (l.length : Int) ≤ ((l ++ [mark24]).length : Int)) then K (.slice 0 .row 0 ((l.length : Int) - 0).toNat) [] [.rows .row (l ++ [mark24])] else none else none else none) = K (.slice 0 .row 0 l.length) [] [.rows .row (l ++ [mark24])] := by
  rw [decide_eq_true (by omega), cond_true, decide_eq_true (by rw [List.length_append]; simp; omega), cond_true, decide_eq_true (by rw [List.length_append]; simp; omega), cond_true]
  simp
theorem run25_at (l : List GStill) (h : (l.length + 1) * 40 ≤ 2 ^ 47) (K : RV G → List (Blk G) → List (Blk G) → Ans G) : (bif decide (l.length * 40 ≤ 2 ^ 47) then bif decide ((l ++ [mark25]).length * 40 ≤ 2 ^ 47) then bif decide ((0 : Int) ≤ 0 ∧ (0 : Int) ≤ (l.length : Int) ∧ (l.length : Int) ≤ ((l ++ [mark25]).length : Int)) then K (.slice 0 .still 0 ((l.length : Int) - 0).toNat) [] [.rows .still (l ++ [mark25])] else none else none else none) = K (.slice 0 .still 0 l.length) [] [.rows .still (l ++ [mark25])] := by
  rw [decide_eq_true (by omega), cond_true, decide_eq_true (by rw [List.length_append]; simp; omega), cond_true, decide_eq_true (by rw [List.length_append]; simp; omega), cond_true]
  simp
def Fits47 (l : List GRow) (b : List GStill) : Prop := (l.length + 1) * 112 ≤ 2 ^ 47 ∧ (b.length + 1) * 40 ≤ 2 ^ 47
abbrev kA : List AK := [.l .row, .l .still, .s .i64]
abbrev kB : List AK := [.l .row, .l .still]
abbrev kK : List AK := [.ct .row, .l .row, .ct .still, .l .still]
def lentK (l : List GRow) (b : List GStill) : dens kK := ((l ++ [mark24], l.length), l, (b ++ [mark25], b.length), b, ())
noncomputable def LS : Ctr := (23, c23) :: (22, FC.sp [] fun _ => .bool true) :: L35x
theorem LS_ok : AllOk LS := .cons ok23 (.cons ok22 L35xok)
noncomputable def LA (l : List GRow) (b : List GStill) (n : Int) (q : AllRes) (m : Nat) (e : Int) : Ctr :=
  (24, FC.at [.l .row] (l, ()) (.slice 0 .row 0 l.length) [.rows .row (l ++ [mark24])]) :: (25, FC.at [.l .still] (b, ()) (.slice 0 .still 0 b.length) [.rows .still (b ++ [mark25])]) ::
  (26, FC.at kA (l, b, n, ()) q.r q.fr) :: (27, FC.at kA (l, b, n, ()) q.r q.fr) :: (28, FC.at kB (l, b, ()) (.tuple [.flt m, .int .i64 e]) []) :: (29, FC.at kB (l, b, ()) (.tuple [.flt m, .int .i64 e]) []) ::
  (34, FC.at kK (lentK l b) (.bool true) []) :: LS
theorem LA_ok {l : List GRow} {b : List GStill} {n : Int} {q : AllRes} {m : Nat} {e : Int} (hb : Fits47 l b) (hq : ∀ K, runAll l b n K = K q.r [] q.fr) (he : rleft l b = .tuple [.flt m, .int .i64 e]) : AllOk (LA l b n q m e) :=
  .cons (at_ok ok24 (run24_at l hb.1)) (.cons (at_ok ok25 (run25_at b hb.2)) (.cons (at_ok ok26 hq) (.cons (at_ok ok27 hq) (.cons (at_ok (sp_rn ok28) fun K => by show K (rleft l b) [] [] = _; rw [he]) (.cons (at_ok (sp_rn ok29) fun K => by show K (rleft l b) [] [] = _; rw [he])
    (.cons (at_ok ok34 (run34_at l b (by have := hb.1; omega) (by have := hb.2; omega))) LS_ok))))))
def lentR (l : List GRow) : List GRow := ((l ++ [mark24]).drop 0).take l.length
def lentS (b : List GStill) : List GStill := ((b ++ [mark25]).drop 0).take b.length
theorem lentR_eq (l : List GRow) : lentR l = l := by unfold lentR; simp
theorem lentS_eq (b : List GStill) : lentS b = b := by unfold lentS; simp
theorem x4f (l : List GRow) (b : List GStill) (n : Int) (x : Int) (m : Nat) (e : Int) (K) : xfn (EV (LA l b n (.fails x) m e) []) Try.f4 [] (encs kA (l, b, n, ())) [] K =
    bif large l b then K (.bool true) [] [] else
      gate ((l, ()) = (l, ())) (gate ((b, ()) = (b, ())) (gate ((lentR l, lentS b, n, ()) = (l, b, n, ())) (gate ((l, b, n, ()) = (l, b, n, ())) (gate ((lentR l, lentS b, ()) = (l, b, ())) (gate ((l, b, ()) = (l, b, ()))
        (gate (Ok33 [.nilslice, .nilslice] []) (gate ((lentR l, lentS b, n, ()) = (l, b, n, ()))
          (bif true && ((((lsame r2same [] [] && lsame stsame [] []) && (x == x)) && fis m m) && (e == e)) then
            gate (lentK l b = lentK l b) (K (.bool ((true && lsame r2same [] []) && lsame stsame [] [])) [] [])
          else K (.bool false) [] [])))))))) := by kernel_rfl
theorem x4s (l : List GRow) (b : List GStill) (n : Int) (R : List GRow) (S : List GStill) (m : Nat) (e : Int) (K) : xfn (EV (LA l b n (.solves R S) m e) []) Try.f4 [] (encs kA (l, b, n, ())) [] K =
    bif large l b then K (.bool true) [] [] else
      gate ((l, ()) = (l, ())) (gate ((b, ()) = (b, ())) (gate ((lentR l, lentS b, n, ()) = (l, b, n, ())) (gate ((l, b, n, ()) = (l, b, n, ())) (gate ((lentR l, lentS b, ()) = (l, b, ())) (gate ((l, b, ()) = (l, b, ()))
        (gate (Ok33 [.own 0 .row R.length, .own 1 .still S.length] [.rows .row R, .rows .still S]) (gate ((lentR l, lentS b, n, ()) = (l, b, n, ()))
          (bif true && ((((lsame r2same R R && lsame stsame S S) && ((0 : Int) == 0)) && fis m m) && (e == e)) then
            gate (lentK l b = lentK l b) (K (.bool ((true && lsame r2same R R) && lsame stsame S S)) [] [])
          else K (.bool false) [] [])))))))) := by kernel_rfl
noncomputable def LT : Ctr := (23, c23) :: (22, FC.sp [] fun _ => .bool true) :: []
theorem LT_ok : AllOk LT := .cons ok23 (.cons ok22 fun x hx => by simp at hx)
theorem x4n (l : List GRow) (b : List GStill) (n : Int) (K) : xfn (EV LT []) Try.f4 [] (encs kA (l, b, n, ())) [] K = bif large l b then K (.bool true) [] [] else none := by kernel_rfl
section
variable {f : Nat} {fn : Func} (hf : Try.prog.funcs[f]? = some fn) (ho : fnOK fn = true)
include hf ho
/-- A contract proved input by input, of inputs that keep to something. -/
theorem gate_any {ks : List AK} {P : dens ks → Prop} {r : RV G} (hn : Nat.ble ks.length fn.ntmps = true)
    (h : ∀ (x : dens ks), wfs ks x → P x → ∃ L lp, AllOk L ∧ LpsOk (EV L lp) [] (bodyD fn) ∧ ∀ K, xfn (EV L lp) fn [] (encs ks x) [] K = K r [] []) : FcOk Try.prog f (FC.rn ks fun x K => gate (P x) (K r [] [])) where
  pure _ _ h := by cases h
  run vs bs K o hr := by
    simp only [FC.rn, FC.ofRun] at hr
    split at hr
    · rename_i x hx
      obtain ⟨hp, hr⟩ := gate_some hr
      by_cases hw : wfs ks x
      · obtain ⟨L, lp, hL, hlp, h⟩ := h x hw hp
        have h1 : FcOk Try.prog f (FC.at ks x r []) := rn_ok hL hf ho lp hlp hn fun y K o hk => by
          obtain ⟨rfl, hk2⟩ := gate_some hk
          rw [h]
          exact hk2
        refine h1.run vs bs K o ?_
        simp only [FC.at, FC.rn, FC.ofRun, hx]
        rw [gate_pos trivial]
        exact hr
      · refine ⟨_, _, _, hr, fun cx w us ids hids hl ha hal hi => absurd ?_ hw⟩
        obtain ⟨g1, g2⟩ := decs'_rel hx ha
        exact wfs_rel (vs := us.toList) (by rw [Array.length_toList, g1, encs_len]) fun j u r hu hr => g2 j u r (by simpa using hu) hr
    · cases hr
end
theorem ok4 : FcOk Try.prog 4 (FC.rn kA fun x K => gate (Fits47 x.1 x.2.1) (K (.bool true) [] [])) := gate_any Try.func4 (by kernel_rfl) (by kernel_rfl) fun (l, b, n, _) _ hb => by
  have hb : Fits47 l b := hb
  cases hl : large l b with
  | true => exact ⟨LT, [], LT_ok, LpsOk.of _ fun i b lc _ hi => (by cases hi), fun K => (x4n l b n K).trans (by rw [hl]; rfl)⟩
  | false =>
    obtain ⟨q, hq1, hq2⟩ := runAll_res l b n
    obtain ⟨m, e, he⟩ := rleft_res l b
    cases q with
    | fails x =>
      refine ⟨LA l b n (.fails x) m e, [], LA_ok hb hq2 he, LpsOk.of _ fun i b lc _ hi => (by cases hi), fun K => (x4f l b n x m e K).trans ?_⟩
      rw [hl, cond_false, gate_pos rfl, gate_pos rfl, lentR_eq, lentS_eq, gate_pos rfl, gate_pos rfl, gate_pos rfl, gate_pos rfl, gate_pos .nil, gate_pos rfl, lsame_self r2same_self, lsame_self stsame_self, fis_self, gate_pos rfl]
      simp
    | solves R S =>
      obtain ⟨h1, h2⟩ := hq1 R S rfl
      refine ⟨LA l b n (.solves R S) m e, [], LA_ok hb hq2 he, LpsOk.of _ fun i b lc _ hi => (by cases hi), fun K => (x4s l b n R S m e K).trans ?_⟩
      rw [hl, cond_false, gate_pos rfl, gate_pos rfl, lentR_eq, lentS_eq, gate_pos rfl, gate_pos rfl, gate_pos rfl, gate_pos rfl, gate_pos (.own R S h1 h2), gate_pos rfl, lsame_self r2same_self, lsame_self stsame_self, fis_self, gate_pos rfl]
      simp
end Go.SX

/- PRINTED BY A PROGRAM OF THIS SEAT: what comes in, opened: values of the seat's types out of their readings. No statement of the seat is proved here. -/
namespace Go.SX
open Go.Proofs
set_option maxRecDepth 20000
abbrev stb (W : World) : Stb := fun k => W.heap[k]?
/-- Cells that stand for RVs. -/
def CR (W : World) (cs : List Value) (rs : List (RV G)) : Prop := cs.length = rs.length ∧ ∀ (j : Nat) (u : Value) (r : RV G), cs[j]? = some u → rs[j]? = some r → RVal (fun _ => none) (stb W) u r
theorem CR.nil (W : World) : CR W [] [] := ⟨rfl, fun j u r h => by simp at h⟩
theorem CR.one {W : World} {u : Value} {r : RV G} (h : RVal (fun _ => none) (stb W) u r) : CR W [u] [r] := ⟨rfl, fun j v q hv hq => by
  cases j with
  | zero => cases hv; cases hq; exact h
  | succ j => simp at hv⟩
theorem CR.app {W : World} {a b : List Value} {r s : List (RV G)} (h : CR W a r) (g : CR W b s) : CR W (a ++ b) (r ++ s) := by
  refine ⟨by rw [List.length_append, List.length_append, h.1, g.1], fun j u q hu hq => ?_⟩
  by_cases hj : j < a.length
  · rw [List.getElem?_append_left hj] at hu
    rw [List.getElem?_append_left (by rw [← h.1]; exact hj)] at hq
    exact h.2 j u q hu hq
  · rw [List.getElem?_append_right (by omega)] at hu
    rw [List.getElem?_append_right (by rw [← h.1]; omega), ← h.1] at hq
    exact g.2 _ u q hu hq
theorem CR.step {W : World} {cs : List Value} {off sz : Nat} {r s : List (RV G)} (h : CR W ((cs.drop off).take sz) r) (g : CR W (cs.drop (off + sz)) s) : CR W (cs.drop off) (r ++ s) := by
  have := h.app g
  rwa [take_drop_step] at this
theorem CR.done {W : World} {cs : List Value} {off : Nat} (h : cs.length = off) : CR W (cs.drop off) [] := by
  rw [List.drop_eq_nil_of_le (by omega)]
  exact .nil W
/-- What is read of a type stands for one of these. -/
def Op (W : World) (t : Nat) {α : Type} (en : α → List (RV G)) : Prop := ∀ (H : Type) (e : TypeId × Value → H) (fuel : Nat) (cs : List Value) (y : DataW H × List MemPlace), DataW.trod e Try.prog W 0 (fun _ => true) true fuel t cs = some y → ∃ x : α, CR W cs (en x)
theorem some_at {α : Type} {xs : List α} {n i : Nat} (h : xs.length = n) (hi : i < n) : ∃ y, xs[i]? = some y := ⟨_, List.getElem?_eq_getElem (by omega)⟩
theorem op_int {W : World} {t : Nat} {k : IntKind} (ht : Try.prog.underlying t = some (.int k)) : Op W t (fun x : Int => [.int k x]) := fun H e fuel cs y h => by
  obtain ⟨n, rfl, _, _⟩ := DataW.trod_int ht h
  exact ⟨n, .one (.int _ _)⟩
theorem op_bool {W : World} {t : Nat} (ht : Try.prog.underlying t = some .bool) : Op W t (fun x : Bool => [.bool x]) := fun H e fuel cs y h => by
  obtain ⟨n, rfl, _⟩ := DataW.trod_bool ht h
  exact ⟨n, .one (.bool _)⟩
theorem op_flt {W : World} {t : Nat} (ht : Try.prog.underlying t = some (.float .f64)) : Op W t (fun x : Nat => [.flt x]) := fun H e fuel cs y h => by
  cases fuel with
  | zero => simp [DataW.trod] at h
  | succ m =>
    unfold DataW.trod at h
    rw [ht] at h
    split at h <;> simp_all
    rename_i k b hk
    obtain ⟨⟨rfl, hw⟩, _⟩ := h
    subst hk
    exact ⟨b, .one (.flt (FEq.refl _) (by simpa [Lit.wf] using hw))⟩
theorem cells_at {W : World} {a : Addr} {n : Nat} {cs : List Value} (h : W.cells? 0 a n = some cs) : cs.length = n ∧ ∀ j, j < n → W.cell? (a.add j) = cs[j]? := by
  unfold World.cells? at h
  rw [if_pos (Nat.zero_le _)] at h
  refine ⟨by simpa using mapM_some_length h, fun j hj => ?_⟩
  exact mapM_some_get h j j (by simp [hj])
/-- A slice's elements. -/
theorem op_slice {W : World} {t e : Nat} {c : TC} {sz : Nat} (ht : Try.prog.underlying t = some (.slice e)) (hc : Try.prog.cellsOf e = sz) (hz : sz = sizeG c) (hp : 0 < sz) (he : Op W e (encG c)) : Op W t (fun xs : List (TD c) => [.rslice c xs]) := fun H en fuel cs y h => by
  rcases DataW.trod_slice ht h with ⟨rfl, _⟩ | ⟨a, len, cap, elems, rest, n, _, rfl, _, _, hl, hm, hlen, hel, _⟩
  · exact ⟨[], .one (.rslice0 fun _ => rfl)⟩
  · by_cases h0 : len = 0
    · subst h0
      exact ⟨[], .one (.rslice0 fun h => by cases h)⟩
    · rw [hc] at hel
      have each : ∀ i, i < len → ∃ x : TD c, ∃ es : List Value, CR W es (encG c x) ∧ es.length = sz ∧ ∀ j, j < sz → W.cell? (a.add (i * sz + j)) = es[j]? := fun i hi => by
        obtain ⟨y, hy⟩ := some_at hlen hi
        have := hel i hi
        rw [hy, Option.bind_eq_some_iff] at this
        obtain ⟨es, h1, h2⟩ := this
        obtain ⟨g1, g2⟩ := cells_at h1
        obtain ⟨x, hx⟩ := he H en n es y h2
        refine ⟨x, es, hx, g1, fun j hj => ?_⟩
        rw [← g2 j hj, Go.Addr.add_add]
      obtain ⟨xs, hxs, hall⟩ : ∃ xs : List (TD c), xs.length = len ∧ ∀ i x, xs[i]? = some x → ∃ es : List Value, CR W es (encG c x) ∧ es.length = sz ∧ ∀ j, j < sz → W.cell? (a.add (i * sz + j)) = es[j]? := by
        refine ⟨List.ofFn fun i : Fin len => Classical.choose (each i.1 i.2), by simp, fun i x hx => ?_⟩
        rw [List.getElem?_ofFn] at hx
        split at hx
        · rename_i hi
          cases hx
          exact Classical.choose_spec (each i hi)
        · cases hx
      obtain ⟨b, off, spot⟩ := a
      obtain ⟨x0, hx0⟩ : ∃ x, xs[0]? = some x := ⟨_, List.getElem?_eq_getElem (by omega)⟩
      obtain ⟨es0, _, q1, q2⟩ := hall 0 x0 hx0
      have hc0 := q2 0 hp
      rw [List.getElem?_eq_getElem (by omega)] at hc0
      have hspot : spot = none := by simpa [Addr.add] using World.cell?_spot hc0
      subst hspot
      have hadd : ∀ j, Addr.add ⟨b, off, none⟩ j = ⟨b, off + j, none⟩ := fun j => by unfold Addr.add; split <;> simp_all
      obtain ⟨arr, ty, fr, hk⟩ : ∃ arr ty fr, W.heap[b]? = some (.cells arr ty fr) := by
        unfold World.cell? at hc0
        rw [hadd] at hc0
        split at hc0
        · exact ⟨_, _, _, by assumption⟩
        · cases hc0
      have hcell : ∀ j, W.cell? ⟨b, j, none⟩ = arr[j]? := fun j => by simp [World.cell?, hk]
      have hm' : maxLen = 9223372036854775807 := by decide
      refine ⟨xs, .one (.rslice hxs.symm (off := off) hk ⟨hl, by omega⟩ (fun i j x r hx hr => ?_) (fun i j x r u hx hr hu => ?_))⟩
      · obtain ⟨es, p1, p2, p3⟩ := hall i x hx
        have hj : j < sz := by rw [hz]; have := (List.getElem?_eq_some_iff.1 hr).1; rw [show (Enc.enc c x : List (RV G)) = encG c x from rfl, encG_size] at this; exact this
        have := p3 j hj
        rw [hadd, hcell, List.getElem?_eq_getElem (by omega)] at this
        have := (Array.getElem?_eq_some_iff.1 this).1
        show off + i * sizeG c + j < arr.size
        rw [← hz]
        omega
      · obtain ⟨es, p1, p2, p3⟩ := hall i x hx
        have hj : j < sz := by rw [hz]; have := (List.getElem?_eq_some_iff.1 hr).1; rw [show (Enc.enc c x : List (RV G)) = encG c x from rfl, encG_size] at this; exact this
        have := p3 j hj
        rw [hadd, hcell] at this
        have hu' : arr[off + i * sizeG c + j]? = some u := hu
        rw [← hz, Nat.add_assoc] at hu'
        rw [hu'] at this
        exact p1.2 j u r this.symm hr
theorem cells26 : Try.prog.cellsOf 26 = 2 := by kernel_rfl
theorem cells24 : Try.prog.cellsOf 24 = 1 := by kernel_rfl
theorem op26 (W : World) : Op W 26 (encG .vec) := fun H e fuel cs y h => by
  obtain ⟨xs, n, rfl, _, hl, hx, hf⟩ := DataW.trod_struct Try.underlying26 h
  rw [cells26] at hl
  have hx : xs.length = 2 := hx
  obtain ⟨y0, hy0⟩ := some_at hx (show 0 < 2 by decide)
  have h0 := hf 0 _ rfl
  simp only [hy0] at h0
  obtain ⟨x0, c0⟩ := (op_flt Try.underlying24 : Op W 24 _) H e n _ _ h0
  obtain ⟨y1, hy1⟩ := some_at hx (show 1 < 2 by decide)
  have h1 := hf 1 _ rfl
  simp only [hy1] at h1
  obtain ⟨x1, c1⟩ := (op_flt Try.underlying24 : Op W 24 _) H e n _ _ h1
  exact ⟨⟨x0, x1⟩, CR.step c0 (CR.step c1 (.done hl))⟩
theorem cells39 : Try.prog.cellsOf 39 = 6 := by kernel_rfl
theorem cells37 : Try.prog.cellsOf 37 = 1 := by kernel_rfl
theorem op39 (W : World) : Op W 39 (encG .point) := fun H e fuel cs y h => by
  obtain ⟨xs, n, rfl, _, hl, hx, hf⟩ := DataW.trod_struct Try.underlying39 h
  rw [cells39] at hl
  have hx : xs.length = 5 := hx
  obtain ⟨y0, hy0⟩ := some_at hx (show 0 < 5 by decide)
  have h0 := hf 0 _ rfl
  simp only [hy0] at h0
  obtain ⟨x0, c0⟩ := (op26 W : Op W 26 _) H e n _ _ h0
  obtain ⟨y1, hy1⟩ := some_at hx (show 1 < 5 by decide)
  have h1 := hf 1 _ rfl
  simp only [hy1] at h1
  obtain ⟨x1, c1⟩ := (op_flt Try.underlying24 : Op W 24 _) H e n _ _ h1
  obtain ⟨y2, hy2⟩ := some_at hx (show 2 < 5 by decide)
  have h2 := hf 2 _ rfl
  simp only [hy2] at h2
  obtain ⟨x2, c2⟩ := (op_int Try.underlying37 : Op W 37 _) H e n _ _ h2
  obtain ⟨y3, hy3⟩ := some_at hx (show 3 < 5 by decide)
  have h3 := hf 3 _ rfl
  simp only [hy3] at h3
  obtain ⟨x3, c3⟩ := (op_flt Try.underlying24 : Op W 24 _) H e n _ _ h3
  obtain ⟨y4, hy4⟩ := some_at hx (show 4 < 5 by decide)
  have h4 := hf 4 _ rfl
  simp only [hy4] at h4
  obtain ⟨x4, c4⟩ := (op_flt Try.underlying24 : Op W 24 _) H e n _ _ h4
  exact ⟨⟨x0, x1, x2, x3, x4⟩, CR.step c0 (CR.step c1 (CR.step c2 (CR.step c3 (CR.step c4 (.done hl)))))⟩
theorem cells27 : Try.prog.cellsOf 27 = 1 := by kernel_rfl
theorem op27 (W : World) : Op W 27 (fun xs : List (TD .point) => [.rslice .point xs]) := op_slice Try.underlying27 cells39 rfl (by decide) (op39 W)
theorem cells23 : Try.prog.cellsOf 23 = 4 := by kernel_rfl
theorem cells3 : Try.prog.cellsOf 3 = 1 := by kernel_rfl
theorem op23 (W : World) : Op W 23 (encG .pair) := fun H e fuel cs y h => by
  obtain ⟨xs, n, rfl, _, hl, hx, hf⟩ := DataW.trod_struct Try.underlying23 h
  rw [cells23] at hl
  have hx : xs.length = 4 := hx
  obtain ⟨y0, hy0⟩ := some_at hx (show 0 < 4 by decide)
  have h0 := hf 0 _ rfl
  simp only [hy0] at h0
  obtain ⟨x0, c0⟩ := (op_int Try.underlying3 : Op W 3 _) H e n _ _ h0
  obtain ⟨y1, hy1⟩ := some_at hx (show 1 < 4 by decide)
  have h1 := hf 1 _ rfl
  simp only [hy1] at h1
  obtain ⟨x1, c1⟩ := (op_int Try.underlying3 : Op W 3 _) H e n _ _ h1
  obtain ⟨y2, hy2⟩ := some_at hx (show 2 < 4 by decide)
  have h2 := hf 2 _ rfl
  simp only [hy2] at h2
  obtain ⟨x2, c2⟩ := (op_int Try.underlying3 : Op W 3 _) H e n _ _ h2
  obtain ⟨y3, hy3⟩ := some_at hx (show 3 < 4 by decide)
  have h3 := hf 3 _ rfl
  simp only [hy3] at h3
  obtain ⟨x3, c3⟩ := (op_int Try.underlying3 : Op W 3 _) H e n _ _ h3
  exact ⟨⟨x0, x1, x2, x3⟩, CR.step c0 (CR.step c1 (CR.step c2 (CR.step c3 (.done hl))))⟩
theorem cells29 : Try.prog.cellsOf 29 = 8 := by kernel_rfl
theorem cells4 : Try.prog.cellsOf 4 = 1 := by kernel_rfl
theorem op29 (W : World) : Op W 29 (encG .touch) := fun H e fuel cs y h => by
  obtain ⟨xs, n, rfl, _, hl, hx, hf⟩ := DataW.trod_struct Try.underlying29 h
  rw [cells29] at hl
  have hx : xs.length = 4 := hx
  obtain ⟨y0, hy0⟩ := some_at hx (show 0 < 4 by decide)
  have h0 := hf 0 _ rfl
  simp only [hy0] at h0
  obtain ⟨x0, c0⟩ := (op23 W : Op W 23 _) H e n _ _ h0
  obtain ⟨y1, hy1⟩ := some_at hx (show 1 < 4 by decide)
  have h1 := hf 1 _ rfl
  simp only [hy1] at h1
  obtain ⟨x1, c1⟩ := (op_bool Try.underlying4 : Op W 4 _) H e n _ _ h1
  obtain ⟨y2, hy2⟩ := some_at hx (show 2 < 4 by decide)
  have h2 := hf 2 _ rfl
  simp only [hy2] at h2
  obtain ⟨x2, c2⟩ := (op26 W : Op W 26 _) H e n _ _ h2
  obtain ⟨y3, hy3⟩ := some_at hx (show 3 < 4 by decide)
  have h3 := hf 3 _ rfl
  simp only [hy3] at h3
  obtain ⟨x3, c3⟩ := (op27 W : Op W 27 _) H e n _ _ h3
  exact ⟨⟨x0, x1, x2, x3⟩, CR.step c0 (CR.step c1 (CR.step c2 (CR.step c3 (.done hl))))⟩
theorem cells69 : Try.prog.cellsOf 69 = 14 := by kernel_rfl
theorem op69 (W : World) : Op W 69 (encG .row) := fun H e fuel cs y h => by
  obtain ⟨xs, n, rfl, _, hl, hx, hf⟩ := DataW.trod_struct Try.underlying69 h
  rw [cells69] at hl
  have hx : xs.length = 12 := hx
  obtain ⟨y0, hy0⟩ := some_at hx (show 0 < 12 by decide)
  have h0 := hf 0 _ rfl
  simp only [hy0] at h0
  obtain ⟨x0, c0⟩ := (op_int Try.underlying3 : Op W 3 _) H e n _ _ h0
  obtain ⟨y1, hy1⟩ := some_at hx (show 1 < 12 by decide)
  have h1 := hf 1 _ rfl
  simp only [hy1] at h1
  obtain ⟨x1, c1⟩ := (op_int Try.underlying3 : Op W 3 _) H e n _ _ h1
  obtain ⟨y2, hy2⟩ := some_at hx (show 2 < 12 by decide)
  have h2 := hf 2 _ rfl
  simp only [hy2] at h2
  obtain ⟨x2, c2⟩ := (op26 W : Op W 26 _) H e n _ _ h2
  obtain ⟨y3, hy3⟩ := some_at hx (show 3 < 12 by decide)
  have h3 := hf 3 _ rfl
  simp only [hy3] at h3
  obtain ⟨x3, c3⟩ := (op26 W : Op W 26 _) H e n _ _ h3
  obtain ⟨y4, hy4⟩ := some_at hx (show 4 < 12 by decide)
  have h4 := hf 4 _ rfl
  simp only [hy4] at h4
  obtain ⟨x4, c4⟩ := (op_flt Try.underlying24 : Op W 24 _) H e n _ _ h4
  obtain ⟨y5, hy5⟩ := some_at hx (show 5 < 12 by decide)
  have h5 := hf 5 _ rfl
  simp only [hy5] at h5
  obtain ⟨x5, c5⟩ := (op_flt Try.underlying24 : Op W 24 _) H e n _ _ h5
  obtain ⟨y6, hy6⟩ := some_at hx (show 6 < 12 by decide)
  have h6 := hf 6 _ rfl
  simp only [hy6] at h6
  obtain ⟨x6, c6⟩ := (op_flt Try.underlying24 : Op W 24 _) H e n _ _ h6
  obtain ⟨y7, hy7⟩ := some_at hx (show 7 < 12 by decide)
  have h7 := hf 7 _ rfl
  simp only [hy7] at h7
  obtain ⟨x7, c7⟩ := (op_flt Try.underlying24 : Op W 24 _) H e n _ _ h7
  obtain ⟨y8, hy8⟩ := some_at hx (show 8 < 12 by decide)
  have h8 := hf 8 _ rfl
  simp only [hy8] at h8
  obtain ⟨x8, c8⟩ := (op_flt Try.underlying24 : Op W 24 _) H e n _ _ h8
  obtain ⟨y9, hy9⟩ := some_at hx (show 9 < 12 by decide)
  have h9 := hf 9 _ rfl
  simp only [hy9] at h9
  obtain ⟨x9, c9⟩ := (op_flt Try.underlying24 : Op W 24 _) H e n _ _ h9
  obtain ⟨y10, hy10⟩ := some_at hx (show 10 < 12 by decide)
  have h10 := hf 10 _ rfl
  simp only [hy10] at h10
  obtain ⟨x10, c10⟩ := (op_int Try.underlying3 : Op W 3 _) H e n _ _ h10
  obtain ⟨y11, hy11⟩ := some_at hx (show 11 < 12 by decide)
  have h11 := hf 11 _ rfl
  simp only [hy11] at h11
  obtain ⟨x11, c11⟩ := (op_flt Try.underlying24 : Op W 24 _) H e n _ _ h11
  exact ⟨⟨x0, x1, x2, x3, x4, x5, x6, x7, x8, x9, x10, x11⟩, CR.step c0 (CR.step c1 (CR.step c2 (CR.step c3 (CR.step c4 (CR.step c5 (CR.step c6 (CR.step c7 (CR.step c8 (CR.step c9 (CR.step c10 (CR.step c11 (.done hl))))))))))))⟩
theorem cells30 : Try.prog.cellsOf 30 = 1 := by kernel_rfl
theorem op30 (W : World) : Op W 30 (fun xs : List (TD .row) => [.rslice .row xs]) := op_slice Try.underlying30 cells69 rfl (by decide) (op69 W)
theorem cells63 : Try.prog.cellsOf 63 = 5 := by kernel_rfl
theorem op63 (W : World) : Op W 63 (encG .still) := fun H e fuel cs y h => by
  obtain ⟨xs, n, rfl, _, hl, hx, hf⟩ := DataW.trod_struct Try.underlying63 h
  rw [cells63] at hl
  have hx : xs.length = 4 := hx
  obtain ⟨y0, hy0⟩ := some_at hx (show 0 < 4 by decide)
  have h0 := hf 0 _ rfl
  simp only [hy0] at h0
  obtain ⟨x0, c0⟩ := (op_flt Try.underlying24 : Op W 24 _) H e n _ _ h0
  obtain ⟨y1, hy1⟩ := some_at hx (show 1 < 4 by decide)
  have h1 := hf 1 _ rfl
  simp only [hy1] at h1
  obtain ⟨x1, c1⟩ := (op_flt Try.underlying24 : Op W 24 _) H e n _ _ h1
  obtain ⟨y2, hy2⟩ := some_at hx (show 2 < 4 by decide)
  have h2 := hf 2 _ rfl
  simp only [hy2] at h2
  obtain ⟨x2, c2⟩ := (op26 W : Op W 26 _) H e n _ _ h2
  obtain ⟨y3, hy3⟩ := some_at hx (show 3 < 4 by decide)
  have h3 := hf 3 _ rfl
  simp only [hy3] at h3
  obtain ⟨x3, c3⟩ := (op_flt Try.underlying24 : Op W 24 _) H e n _ _ h3
  exact ⟨⟨x0, x1, x2, x3⟩, CR.step c0 (CR.step c1 (CR.step c2 (CR.step c3 (.done hl))))⟩
theorem cells42 : Try.prog.cellsOf 42 = 1 := by kernel_rfl
theorem op42 (W : World) : Op W 42 (fun xs : List (TD .still) => [.rslice .still xs]) := op_slice Try.underlying42 cells63 rfl (by decide) (op63 W)
theorem cells55 : Try.prog.cellsOf 55 = 1 := by kernel_rfl
theorem op55 (W : World) : Op W 55 (fun xs : List (TD .i64) => [.rslice .i64 xs]) := op_slice Try.underlying55 cells3 rfl (by decide) (op_int Try.underlying3)
theorem cells79 : Try.prog.cellsOf 79 = 4 := by kernel_rfl
theorem op79 (W : World) : Op W 79 (encG .mass) := fun H e fuel cs y h => by
  obtain ⟨xs, n, rfl, _, hl, hx, hf⟩ := DataW.trod_struct Try.underlying79 h
  rw [cells79] at hl
  have hx : xs.length = 3 := hx
  obtain ⟨y0, hy0⟩ := some_at hx (show 0 < 3 by decide)
  have h0 := hf 0 _ rfl
  simp only [hy0] at h0
  obtain ⟨x0, c0⟩ := (op_flt Try.underlying24 : Op W 24 _) H e n _ _ h0
  obtain ⟨y1, hy1⟩ := some_at hx (show 1 < 3 by decide)
  have h1 := hf 1 _ rfl
  simp only [hy1] at h1
  obtain ⟨x1, c1⟩ := (op_flt Try.underlying24 : Op W 24 _) H e n _ _ h1
  obtain ⟨y2, hy2⟩ := some_at hx (show 2 < 3 by decide)
  have h2 := hf 2 _ rfl
  simp only [hy2] at h2
  obtain ⟨x2, c2⟩ := (op26 W : Op W 26 _) H e n _ _ h2
  exact ⟨⟨x0, x1, x2⟩, CR.step c0 (CR.step c1 (CR.step c2 (.done hl)))⟩
theorem cells77 : Try.prog.cellsOf 77 = 1 := by kernel_rfl
theorem op77 (W : World) : Op W 77 (fun xs : List (TD .mass) => [.rslice .mass xs]) := op_slice Try.underlying77 cells79 rfl (by decide) (op79 W)
theorem cells89 : Try.prog.cellsOf 89 = 1 := by kernel_rfl
theorem op89 (W : World) : Op W 89 (fun xs : List (TD .vec) => [.rslice .vec xs]) := op_slice Try.underlying89 cells26 rfl (by decide) (op26 W)
theorem cells95 : Try.prog.cellsOf 95 = 3 := by kernel_rfl
theorem cells5 : Try.prog.cellsOf 5 = 1 := by kernel_rfl
theorem op95 (W : World) : Op W 95 (encG .shape) := fun H e fuel cs y h => by
  obtain ⟨xs, n, rfl, _, hl, hx, hf⟩ := DataW.trod_struct Try.underlying95 h
  rw [cells95] at hl
  have hx : xs.length = 3 := hx
  obtain ⟨y0, hy0⟩ := some_at hx (show 0 < 3 by decide)
  have h0 := hf 0 _ rfl
  simp only [hy0] at h0
  obtain ⟨x0, c0⟩ := (op_int Try.underlying5 : Op W 5 _) H e n _ _ h0
  obtain ⟨y1, hy1⟩ := some_at hx (show 1 < 3 by decide)
  have h1 := hf 1 _ rfl
  simp only [hy1] at h1
  obtain ⟨x1, c1⟩ := (op_flt Try.underlying24 : Op W 24 _) H e n _ _ h1
  obtain ⟨y2, hy2⟩ := some_at hx (show 2 < 3 by decide)
  have h2 := hf 2 _ rfl
  simp only [hy2] at h2
  obtain ⟨x2, c2⟩ := (op89 W : Op W 89 _) H e n _ _ h2
  exact ⟨⟨x0, x1, x2⟩, CR.step c0 (CR.step c1 (CR.step c2 (.done hl)))⟩
end Go.SX

/- From a law's contract to what its row asks of a call. No statement of the seat is proved here. -/
namespace Go.SX
open Go.Proofs Go.RowKit
set_option maxRecDepth 20000

theorem start_inv (W : World) : Inv W.heap.size (Mof ⟨fun _ => none, stb W⟩ []) ⟨fun _ => none, stb W⟩ (startM (S := G) [] []) W where
  base := Nat.le_refl _
  stable _ _ h := h
  free _ _ := rfl
  has b x h := by cases h
  blk b x l h := by cases h
  lt b l k h := by cases h
  sep b b' x x' l l' k h := by cases h
  mine b x l k h := by cases h

/-- What a law's contract says of a call. -/
theorem law_calls {f : Nat} {fn : Func} {ks : List AK} (hf : Try.prog.funcs[f]? = some fn) (ho : fnOK fn = true) (h : FcOk Try.prog f (FC.sp ks fun _ => .bool true)) {x : dens ks} (hx : decs' ks (encs ks x) = some x)
    {args : Array Value} {W : World} (ha : ArgsRel (fun _ => none) (stb W) args (encs ks x)) : Calls Try.prog f args W fun e W' => e = .returned (.bool true) ∧ Below W.heap.size W W' := by
  obtain ⟨r, bs', fr, h1, h2⟩ := h.run (encs ks x) [] (fun r bs fr => some (r, bs, fr)) (.bool true, [], []) (by simp only [FC.sp, FC.ofPure, hx])
  cases h1
  have hc := h2 ⟨fun _ => none, stb W⟩ W args [] (by simp [muIds, FC.sp, FC.ofPure, mutsOf_nil]) rfl ha (fun x hx => by simp at hx) (start_inv W)
  obtain ⟨o1, o2, o3⟩ := fnOK_spec ho
  have hcall : (callFunc f args).run Try.prog W = .ok (.enter f args) W := by
    have hn : ¬ (fn.name = "runtime.NumGoroutine") := by simpa using o1
    simp [callFunc, program, Sem.run, hf, hn, o2]
  unfold CallsTo at hc
  rw [hcall] at hc
  refine hc.mono fun e W' he => ?_
  cases e with
  | returned v =>
    obtain ⟨φr, St', hr, _, _, _, hfr⟩ := he
    cases hr
    exact ⟨rfl, ⟨hfr.os, hfr.tape, hfr.output, hfr.size, fun k hk => hfr.same k hk fun ⟨id, hid, _⟩ => by simp at hid⟩⟩
  | _ => exact he.elim

theorem args_nil (W : World) : ArgsRel (fun _ => none) (stb W) #[] ([] : List (RV G)) := ⟨rfl, fun j u r h => by simp at h⟩
theorem args_cons {W : World} {v : Value} {vs : List Value} {r : RV G} {rs : List (RV G)} (h : RVal (fun _ => none) (stb W) v r) (g : ArgsRel (fun _ => none) (stb W) vs.toArray rs) : ArgsRel (fun _ => none) (stb W) (v :: vs).toArray (r :: rs) := by
  refine ⟨?_, fun j u q hu hq => ?_⟩
  · have := g.1
    simp at this ⊢
    exact this
  · cases j with
    | zero => simp at hu hq; subst hu; subst hq; exact h
    | succ j => exact g.2 j u q (by simpa using hu) (by simpa using hq)

theorem agg_of {W : World} {arr : Array Value} {l : List (RV G)} (h : CR W arr.toList l) : RVal (fun _ => none) (stb W) (.agg arr) (.agg l) :=
  .agg (by simpa using h.1) fun j u r hu hr => h.2 j u r (by simpa using hu) hr
theorem one_of {W : World} {v : Value} {r : RV G} (h : CR W [v] [r]) : RVal (fun _ => none) (stb W) v r := h.2 0 v r rfl rfl
end Go.SX

/- From a law's contract to what its row asks of a call, of inputs that keep to something; how long a list may be. No statement of the seat is proved here. -/
namespace Go.SX
open Go.Proofs Go.RowKit
set_option maxRecDepth 20000
/-- What a law's contract says of a call, of inputs that keep to something. -/
theorem gate_calls {f : Nat} {fn : Func} {ks : List AK} {P : dens ks → Prop} (hf : Try.prog.funcs[f]? = some fn) (ho : fnOK fn = true) (h : FcOk Try.prog f (FC.rn ks fun x K => gate (P x) (K (.bool true) [] []))) {x : dens ks} (hx : decs' ks (encs ks x) = some x) (hp : P x)
    {args : Array Value} {W : World} (ha : ArgsRel (fun _ => none) (stb W) args (encs ks x)) : Calls Try.prog f args W fun e W' => e = .returned (.bool true) ∧ Below W.heap.size W W' := by
  obtain ⟨r, bs', fr, h1, h2⟩ := h.run (encs ks x) [] (fun r bs fr => some (r, bs, fr)) (.bool true, [], []) (by simp only [FC.rn, FC.ofRun, hx]; exact gate_pos hp _)
  cases h1
  have hc := h2 ⟨fun _ => none, stb W⟩ W args [] (by simp [muIds, FC.rn, FC.ofRun, mutsOf_nil]) rfl ha (fun x hx => by simp at hx) (start_inv W)
  obtain ⟨o1, o2, o3⟩ := fnOK_spec ho
  have hcall : (callFunc f args).run Try.prog W = .ok (.enter f args) W := by
    have hn : ¬ (fn.name = "runtime.NumGoroutine") := by simpa using o1
    simp [callFunc, program, Sem.run, hf, hn, o2]
  unfold CallsTo at hc
  rw [hcall] at hc
  refine hc.mono fun e W' he => ?_
  cases e with
  | returned v =>
    obtain ⟨φr, St', hr, _, _, _, hfr⟩ := he
    cases hr
    exact ⟨rfl, ⟨hfr.os, hfr.tape, hfr.output, hfr.size, fun k hk => hfr.same k hk fun ⟨id, hid, _⟩ => by simp at hid⟩⟩
  | _ => exact he.elim

theorem slice_len {W : World} {H : Type} {enc : TypeId × Value → H} {t e : TypeId} {B : Nat} {c : TC} {fuel : Nat} {cs : List Value} {d : DataW H} {p : List MemPlace} (ht : Try.prog.underlying t = some (.slice e)) (hB : Try.prog.bytesOf e = B)
    (h : DataW.trod enc Try.prog W 0 (fun _ => true) true fuel t cs = some (d, p)) (hw : (d.weights Try.prog t).all (· ≤ reachBytes) = true) {xs : List (TD c)} (hc : CR W cs [.rslice c xs]) : xs.length * B ≤ reachBytes := by
  rcases DataW.trod_slice ht h with ⟨rfl, hd⟩ | ⟨a, len, cap, elems, rest, n, _, rfl, hx, _, _, _, hlen, _, _, _⟩
  · have h1 := one_of hc
    cases h1
    simp
  · have h1 := one_of hc
    cases hx
    have hx : xs.length ≤ elems.length := by
      cases h1 with
      | rslice hn hk hcc => simp_all
      | rslice0 _ => simp
    unfold DataW.weights at hw
    rw [ht] at hw
    simp only [List.all_cons, Bool.and_eq_true, decide_eq_true_eq, List.length_map, hB] at hw
    exact Nat.le_trans (Nat.mul_le_mul_right B (by omega)) hw.1
end Go.SX
