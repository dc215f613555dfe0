/- Texts of this seat, laid together by a program: what they say stands at each. No statement of the seat is proved in this file. -/
import Derived.Test.YtkcjaejpkjojnaaMx1
import Derived.Deep.AppendSrc
import Derived.Orders
import Derived.Scope
import Derived.Laws.Externs
set_option linter.unusedSectionVars false
set_option linter.unnecessarySimpa false
set_option linter.unusedVariables false
set_option linter.unusedSimpArgs false
set_option exponentiation.threshold 4096
/- Calls, sound: the whole. No statement of the seat is proved here. -/
namespace Go.SX
section
variable {S : Sg} [Enc S] [EncLaws S] {P : Program} {E : Env S} {N B : Nat} {M : Nat → Prop} {s s' : AS S} {gd : List (Nat × Bool)} {o : Oper}

open Classical in
noncomputable def phiR (φ φr : Phi) (d n : Nat) : Phi := fun b => if ∃ j, j < n ∧ b = newId d j then φr ((b - d) / 4096 - 1) else φ b

omit [Enc S] [EncLaws S] in
theorem phiR_new (φ φr : Phi) (d n : Nat) {j : Nat} (h : j < n) : phiR φ φr d n (newId d j) = φr j := by
  unfold phiR
  rw [if_pos ⟨j, h, rfl⟩]
  congr 1
  simp only [newId]
  omega

omit [Enc S] [EncLaws S] in
theorem phiR_old (φ φr : Phi) (d n : Nat) {b : Nat} (h : ∀ j, j < n → b ≠ newId d j) : phiR φ φr d n b = φ b := by
  unfold phiR
  rw [if_neg fun ⟨j, hj, e⟩ => h j hj e]

theorem call_tail {cx : Cx} {m : Nat → Option (Blk S)} {w w' : World} (h : Inv B M cx m w) {mb : List (Nat × Nat)} {bs' fr : List (Blk S)} {u : List (Nat × Blk S)} {Sc St1 St' : Stb} {φr : Phi} {r : RV S} {v : Value} {d : Nat}
    (hmb : ∀ p ∈ mb, ∃ x, m p.2 = some x ∧ x.alive = true) (hnd : (mb.map (·.1)).Nodup) (hz : zipUps mb bs' = some u) (hfree : freeAll m (newUps d 0 fr) = true)
    (hF : Fr (Mof ⟨phiC mb cx.φ, Sc⟩ (mb.map (·.1))) w w') (hfr : FreshAt φr St1 w.heap.size w' fr) (hmu : MutsAt ⟨phiC mb cx.φ, Sc⟩ St1 w' (mb.map (·.1)) bs')
    (hle : Le cx.St St') (hnow : ∀ k o, St' k = some o → w'.heap[k]? = some o) (hnew : ∀ k o, St' k = some o → (∃ o', cx.St k = some o') ∨ w.heap.size ≤ k) (hk : ∀ k, w.heap.size ≤ k → St1 k = none → St' k = none)
    (hx : ∀ φ' l x, (x ∈ bs' ∨ x ∈ fr) → BlkAt ⟨fun _ => none, St1⟩ w' l x → BlkAt ⟨φ', St'⟩ w' l x) (hr : RVal φr St' v r) :
    ∃ cx', Cx.ext B M cx cx' ∧ FrB B M w w' ∧ cx'.rel v (imp d deep r) ∧ Inv B M cx' (ups1 (app u (newUps d 0 fr)) m) w' := by
  obtain ⟨z1, z2, z3⟩ := zipUps_spec _ _ _ hz
  have hfree' : ∀ j x, fr[j]? = some x → m (newId d j) = none := fun j x hj => by
    unfold freeAll at hfree
    rw [allL_eq, List.all_eq_true] at hfree
    have := hfree (newId d j, x) ((newUps_mem d fr 0 _ _).2 ⟨j, by rw [Nat.zero_add], hj⟩)
    simp only at this
    split at this
    · assumption
    · cases this
  have hC : ∀ p ∈ mb, phiC mb cx.φ p.1 = cx.φ p.2 := fun p hp => by
    unfold phiC
    rw [lk_of_mem mb p.1 p.2 hnd hp]
    rfl
  obtain ⟨g1, g2, g3⟩ := Inv.call (M := M) h (d := d) (u := u) (fr := fr) (mbs := mb.map (·.2)) (φ' := phiR cx.φ φr d fr.length) (St' := St') (w' := w')
    (fun j x hj => ⟨hfree' j x hj, (hfr.at_ j x hj).1⟩)
    (fun b hb => by
      obtain ⟨p, hp, rfl⟩ := List.mem_map.1 hb
      exact hmb p hp)
    (hF.weaken fun k ⟨id, hid, l, hl, hlk⟩ => by
      obtain ⟨p, hp, rfl⟩ := List.mem_map.1 hid
      exact ⟨p.2, List.mem_map.2 ⟨p, hp, rfl⟩, l, (hC p hp).symm.trans hl, hlk⟩)
    (fun b x hb => by
      obtain ⟨i, id, h1, h2⟩ := z3 b x hb
      have hp := List.mem_of_getElem? h1
      refine ⟨List.mem_map.2 ⟨_, hp, rfl⟩, fun l hl => ?_⟩
      refine hx _ l x (.inl (List.mem_of_getElem? h2)) ((hmu.2 i id x (by rw [List.getElem?_map, h1]; rfl) h2) l ?_)
      exact (hC _ hp).trans hl)
    (fun b hb => by rw [z1]; exact hb)
    hle hnow hnew
    (fun j x hj => by
      obtain ⟨h1, l, h2, h3, h4⟩ := hfr.at_ j x hj
      refine ⟨l, ?_, hx _ l x (.inr (List.mem_of_getElem? hj)) h3, fun k hlk => ⟨(h4 k hlk).1, hk k (h4 k hlk).1 (h4 k hlk).2⟩⟩
      rw [phiR_new _ _ _ _ (List.getElem?_eq_some_iff.1 hj).1]
      exact h2)
    (fun b hb => phiR_old _ _ _ _ fun j hj e => hb j fr[j] (List.getElem?_eq_getElem hj) e)
    (fun j j' l l' k hl hl' hj hj' hlk hlk' => by
      rw [phiR_new _ _ _ _ hj] at hl
      rw [phiR_new _ _ _ _ hj'] at hl'
      exact hfr.sep j j' l l' k hl hl' hlk hlk')
  refine ⟨_, g2, g3, imp_rel (fun b l hb => ?_) deep v r hr, g1⟩
  have hb' : b < fr.length := by
    refine Nat.lt_of_not_le fun hle => ?_
    rw [hfr.out b (List.getElem?_eq_none hle)] at hb
    cases hb
  show phiR cx.φ φr d fr.length (newId d b) = some l
  rw [phiR_new _ _ _ _ hb']
  exact hb

/-- What a call comes to, whatever stands for the state. -/
def CallDoes (P : Program) (B : Nat) (M : Nat → Prop) (f : Nat) (args : List (RV S)) (m : Nat → Option (Blk S)) (e : Eff S) : Prop :=
  ∀ (cx : Cx) (w : World) (vs : Array Value), Inv B M cx m w → ArgsRel cx.φ cx.St vs args → CallsTo P f vs w fun v w' => ∃ cx', Cx.ext B M cx cx' ∧ FrB B M w w' ∧ cx'.rel v e.v ∧ Inv B M cx' (ups1 e.ups m) w'

theorem hide_some {l : List Nat} {m : Nat → Option (Blk S)} {b : Nat} {x : Blk S} (h : hide l m b = some x) : m b = some x ∧ b ∉ l := by
  unfold hide at h
  rw [sel_eq] at h
  split at h
  · cases h
  · rename_i hb
    exact ⟨h, fun hm => hb ((memN_iff _ _).2 hm)⟩

open Classical in
theorem call_core (hE : EnvOk P E) {f : Nat} {fc : FC S} (hfc : E.fn f = some fc) {args as : List (RV S)} {bs : List (Blk S)} {m0 m : Nat → Option (Blk S)} (hd : distinct (mapL (fun x => x.2) (mutsOf fc.mu 0 args)) = true)
    (hbs : blksAt m (mutsOf fc.mu 0 args) = some bs) (has : argsOf (hide (mapL (fun x => x.2) (mutsOf fc.mu 0 args)) m0) fc.mu 0 args = some as) (hm : ∀ b ∈ args.flatMap (named m0 deep), m b = m0 b) (hmm : ∀ p ∈ mutsOf fc.mu 0 args, m p.2 = m0 p.2)
    {r : RV S} {bs' fr : List (Blk S)} {u : List (Nat × Blk S)} {d : Nat} (hz : zipUps (mutsOf fc.mu 0 args) bs' = some u) (hfree : freeAll m (newUps d 0 fr) = true)
    (hc : sel (sel (looks deep r) false (sel (allL flatBlk bs') (allL flatBlk fr) false)) true (sel (anyL (refs deep) args) false true) = true)
    (hcall : ∀ (cx : Cx) (w : World) (vs : Array Value) (ids : List Nat), ids = muIds fc.mu as → ids.length = bs.length → ArgsRel cx.φ cx.St vs as → (∀ x ∈ bs, x.alive = true) → Inv w.heap.size (Mof cx ids) cx (startM ids bs) w → CallsTo P f vs w (CallPost cx ids w r bs' fr)) :
    CallDoes P B M f args m ⟨imp d deep r, app u (newUps d 0 fr), []⟩ := by
  intro cx w vs hinv hargs
  have hnd := mutsOf_nodup fc.mu args 0
  have hfst := argsOf_fst _ _ _ _ _ has
  obtain ⟨hlen, hget⟩ := argsOf_get _ _ _ _ _ has
  obtain ⟨hbl, hbget⟩ := blksAt_spec _ _ hbs
  rw [mapL_eq] at hd has hget
  have hd := distinct_nodup _ hd
  have hmem := fun id b => mutsOf_mem fc.mu args 0 id b
  generalize hmbe : mutsOf fc.mu 0 args = mb at *
  have hmb : ∀ p ∈ mb, ∃ x, m p.2 = some x ∧ x.alive = true := fun p hp => by
    obtain ⟨i, hi⟩ := List.getElem?_of_mem hp
    have hlt : i < bs.length := by rw [hbl]; exact (List.getElem?_eq_some_iff.1 hi).1
    obtain ⟨h1, h2, _⟩ := hbget i p bs[i] hi (List.getElem?_eq_getElem hlt)
    exact ⟨_, h1, h2⟩
  have hC : ∀ p ∈ mb, phiC mb cx.φ p.1 = cx.φ p.2 := fun p hp => by
    unfold phiC
    rw [lk_of_mem mb p.1 p.2 hnd hp]
    rfl
  -- the values by content, as the state has them
  have hpur : ∀ (v v' : RV S), v ∈ args → purify (hide (mb.map (·.2)) m0) deep v = some v' → purify (hide (mb.map (·.2)) m) deep v = some v' := fun v v' hv hp => by
    rw [← hp]
    refine (named_purify deep v fun b hb => ?_).1
    have hb' := named_sub (fun b x h => (hide_some h).1) deep v b hb
    unfold hide
    rw [hm b (List.mem_flatMap.2 ⟨v, hv, hb'⟩)]
  -- with a way to hold what stands still, the rest follows
  have core : ∀ (Sc : Stb), Le cx.St Sc → (∀ k o, Sc k = some o → w.heap[k]? = some o) → (∀ p ∈ mb, ∀ l k, cx.φ p.2 = some l → l.blk = some k → Sc k = none) →
      (∀ (v v' : RV S) (x : Value), v ∈ args → purify (hide (mb.map (·.2)) m) deep v = some v' → cx.rel x v → RVal (fun _ => none) Sc x v') →
      CallsTo P f vs w (CallPost ⟨phiC mb cx.φ, Sc⟩ (mb.map (·.1)) w r bs' fr) := fun Sc h1 h2 h3 h4 => by
    refine hcall ⟨phiC mb cx.φ, Sc⟩ w vs (mb.map (·.1)) (by unfold muIds; rw [hfst]) (by simp [hbl]) ?_ ?_ ?_
    · refine ⟨by rw [hlen]; exact hargs.1, fun j x v' hx hv' => ?_⟩
      have hj : j < args.length := by rw [← hlen]; exact (List.getElem?_eq_some_iff.1 hv').1
      have hv := List.getElem?_eq_getElem hj
      have hrel := hargs.2 j x _ hx hv
      have hin : args[j] ∈ args := List.getElem_mem hj
      rcases hget j args[j] v' hv hv' with ⟨_, ⟨b, c, n, e1, e2, e3⟩ | ⟨b, sz, e1, e2, e3⟩ | ⟨e1, e2⟩⟩ | ⟨_, hp⟩
      · rw [e1] at hrel; rw [e2]
        have := hC _ e3
        cases hrel with
        | own hl hc => exact .own (this.trans hl) hc
        | own0 hl => exact .own0 (this.trans hl)
      · rw [e1] at hrel; rw [e2]
        have := hC _ e3
        obtain ⟨k, n, cp, rfl, hl⟩ := hrel.inv_ptr
        have : RVal (phiC mb cx.φ) Sc (.pointer (some ⟨k, 0 * 0 + 0, none⟩)) (.ptr (0 + j) 0 0 0 : RV S) := .ptr (this.trans hl)
        simpa using this
      · rw [e1] at hrel; rw [e2]
        cases hrel; exact .nilslice
      · exact RVal.mono (fun _ _ h => by cases h) (Le.refl _) (h4 _ _ _ hin (hpur _ _ hin hp) hrel)
    · intro x hx
      obtain ⟨i, hi⟩ := List.getElem?_of_mem hx
      have hlt : i < mb.length := by rw [← hbl]; exact (List.getElem?_eq_some_iff.1 hi).1
      exact (hbget i mb[i] x (List.getElem?_eq_getElem hlt) hi).2.1
    · have hst : ∀ id x, startM (mb.map (·.1)) bs id = some x → ∃ b, (id, b) ∈ mb ∧ m b = some x ∧ x.alive = true ∧ phiC mb cx.φ id = cx.φ b ∧ ∀ cs, x = .cells cs → ∀ r ∈ cs, refs deep r = false := fun id x hx => by
        obtain ⟨i, hi, hi'⟩ := startM_get _ _ _ _ hx
        rw [List.getElem?_map] at hi
        obtain ⟨⟨id', b⟩, hp, rfl⟩ := Option.map_eq_some_iff.1 hi
        obtain ⟨g1, g2, g3⟩ := hbget i _ x hp hi'
        exact ⟨b, List.mem_of_getElem? hp, g1, g2, hC _ (List.mem_of_getElem? hp), g3⟩
      refine { base := Nat.le_refl _, stable := h2, free := fun id hid => ?_, has := fun id x hx => ?_, blk := fun id x l hx hl => ?_, lt := fun id l k hl hlk => ?_,
               sep := fun id id' x x' l l' k hx hx' _ _ hl hl' hlk hlk' => ?_, mine := fun id x l k hx _ hl hlk => ?_ }
      · have hnot := startM_none _ _ _ (by simp [hbl]) hid
        show (lk mb id).bind cx.φ = none
        cases hq : lk mb id with
        | none => rfl
        | some b => exact absurd (List.mem_map.2 ⟨_, lk_mem _ _ _ hq, rfl⟩) hnot
      · obtain ⟨b, g1, g2, g3, g4, g5⟩ := hst id x hx
        obtain ⟨l, hl⟩ := hinv.has b x g2
        exact ⟨l, g4.trans hl⟩
      · obtain ⟨b, g1, g2, g3, g4, g5⟩ := hst id x hx
        exact (hinv.blk b x l g2 (g4 ▸ hl)).move h1 g5
      · have : ∃ b, lk mb id = some b ∧ cx.φ b = some l := Option.bind_eq_some_iff.1 hl
        obtain ⟨b, _, hb⟩ := this
        exact hinv.lt b l k hb hlk
      · obtain ⟨b, g1, g2, g3, g4, g5⟩ := hst id x hx
        obtain ⟨b', f1, f2, f3, f4, f5⟩ := hst id' x' hx'
        have := hinv.sep b b' x x' l l' k g2 f2 g3 f3 (g4 ▸ hl) (f4 ▸ hl') hlk hlk'
        subst this
        obtain ⟨i, hi⟩ := List.getElem?_of_mem g1
        obtain ⟨i', hi'⟩ := List.getElem?_of_mem f1
        have hii := (List.getElem?_inj (l := mb.map (·.2)) (i := i) (j := i') (by simpa using (List.getElem?_eq_some_iff.1 hi).1) hd).1 (by rw [List.getElem?_map, List.getElem?_map, hi, hi']; rfl)
        subst hii
        rw [hi] at hi'
        cases hi'
        rfl
      · obtain ⟨b, g1, g2, g3, g4, g5⟩ := hst id x hx
        exact ⟨.inr ⟨id, List.mem_map.2 ⟨_, g1, rfl⟩, l, hl, hlk⟩, h3 _ g1 l k (g4 ▸ hl) hlk⟩
  rw [sel_eq] at hc
  split at hc
  · rename_i hflat
    simp only [sel_eq] at hflat
    split at hflat
    · cases hflat
    · rename_i hlook
      split at hflat
      · rename_i hfb
        rw [allL_eq, List.all_eq_true] at hfb hflat
        have hmine : ∀ p ∈ mb, ∀ l k, cx.φ p.2 = some l → l.blk = some k → cx.St k = none := fun p hp l k hl hlk => by
          obtain ⟨x, hx, ha⟩ := hmb p hp
          exact (hinv.mine _ x l k hx ha hl hlk).2
        let Sc : Stb := fun k => if ∃ p ∈ mb, ∃ l, cx.φ p.2 = some l ∧ l.blk = some k then none else w.heap[k]?
        have hSc : ∀ k o, Sc k = some o → w.heap[k]? = some o := fun k o hk => by
          simp only [Sc] at hk
          split at hk
          · cases hk
          · exact hk
        have hcx : Le cx.St Sc := fun k o hk => by
          simp only [Sc]
          rw [if_neg]
          · exact hinv.stable k o hk
          · rintro ⟨p, hp, l, hl, hlk⟩
            rw [hmine p hp l k hl hlk] at hk; cases hk
        have hSnap : Snap (hide (mb.map (·.2)) m) cx w Sc := ⟨hcx, fun b x l k hb ha hl hlk o ho => by
          obtain ⟨h1, h2⟩ := hide_some hb
          simp only [Sc]
          rw [if_neg]
          · exact ho
          · rintro ⟨p, hp, l', hl', hlk'⟩
            obtain ⟨y, hy, hya⟩ := hmb p hp
            have := hinv.sep b p.2 x y l l' k h1 hy ha hya hl hl' hlk hlk'
            exact h2 (List.mem_map.2 ⟨p, hp, this.symm⟩)⟩
        refine (core Sc hcx hSc (fun p hp l k hl hlk => by simp only [Sc]; rw [if_pos ⟨p, hp, l, hl, hlk⟩]) (fun v v' x hv hp hr => purify_rel hinv (fun b x h => (hide_some h).1) hSnap deep v v' x hp hr)).mono fun v w' hv => ?_
        obtain ⟨φr, St1, p1, p2, p3, p4, p5⟩ := hv
        refine call_tail hinv (Sc := Sc) (St1 := St1) (St' := cx.St) hmb hnd hz hfree p5 p3 p4 (Le.refl _) (fun k o hk => ?_) (fun k o hk => .inl ⟨o, hk⟩) (fun k hk _ => ?_) (fun φ' l x hx hb => ?_) (RVal.nolook p1 deep (by simpa using hlook))
        · have hko := hinv.stable k o hk
          rw [p5.same k (Array.getElem?_eq_some_iff.1 hko).1]
          · exact hko
          · rintro ⟨id, hid, l, hl, hlk⟩
            obtain ⟨p, hp, rfl⟩ := List.mem_map.1 hid
            rw [hmine p hp l k ((hC p hp).symm.trans hl) hlk] at hk; cases hk
        · cases hs : cx.St k with
          | none => rfl
          | some o =>
            have := (Array.getElem?_eq_some_iff.1 (hinv.stable k o hs)).1
            omega
        · exact hb.flat (fun _ _ h => by cases h) (by
            rcases hx with hx | hx
            · exact hfb x hx
            · exact hflat x hx)
      · cases hflat
  · rw [sel_eq] at hc
    split at hc
    · cases hc
    · rename_i hno
      rw [anyL_eq] at hno
      simp only [List.any_eq_true, not_exists, not_and] at hno
      have hmb0 : mb = [] := by
        rw [List.eq_nil_iff_forall_not_mem]
        rintro ⟨id, b⟩ hp
        rcases (hmem id b hp).2.2 with ⟨c, n, h1⟩ | ⟨e, sz, q, h1⟩
        · exact hno _ (List.mem_of_getElem? h1) rfl
        · exact hno _ (List.mem_of_getElem? h1) rfl
      refine (core cx.St (Le.refl _) hinv.stable (fun p hp => by rw [hmb0] at hp; cases hp) (fun v v' x hv hp hr => ?_)).mono fun v w' hv => ?_
      · have hn : ∀ (n : Nat) (q : RV S), refs n q = false → ∀ m1 : Nat → Option (Blk S), named m1 n q = [] := fun n => by
          induction n with
          | zero => intro q _ m1; rfl
          | succ n ih =>
            intro q hq m1
            have hl : ∀ l : List (RV S), anyL (refs n) l = false → l.flatMap (named m1 n) = [] := fun l hl => by
              rw [anyL_eq, List.any_eq_false] at hl
              rw [List.flatMap_eq_nil_iff]
              intro y hy
              exact ih y (by simpa using hl y hy) m1
            cases q <;> first | rfl | (simp only [refs] at hq; first | cases hq | (simp only [named]; first | exact hl _ hq | exact ih _ hq m1))
        have hv0 := hno v hv
        have hnv := hn deep v (by simpa using hv0) (fun _ => none)
        have hpe := (named_purify (m := fun _ => none) (m' := hide (mb.map (·.2)) m) deep v (fun b hb => by rw [hnv] at hb; cases hb)).1
        rw [hp] at hpe
        exact purify_rel hinv (m' := fun _ => none) (fun b x h => by cases h) ⟨Le.refl _, fun b x l k hb => by cases hb⟩ deep v v' x hpe.symm hr
      · obtain ⟨φr, St1, p1, p2, p3, p4, p5⟩ := hv
        exact call_tail hinv (Sc := cx.St) (St1 := St1) (St' := St1) hmb hnd hz hfree p5 p3 p4 p2.le p2.now p2.new (fun k _ h => h) (fun φ' l x _ hb => BlkAt.mono (cx := ⟨fun _ => none, St1⟩) (cx' := ⟨φ', St1⟩) ⟨fun _ _ h => (by cases h), Le.refl _⟩ (fun _ _ _ h => h) hb) p1

/-- Cells told by content: the rows that they named stand still from now on. -/
theorem purify_frozen {cx : Cx} {m : Nat → Option (Blk S)} {w : World} (hinv : Inv B M cx m w) {l l' : List (RV S)} (hp : mapO (purify m deep) l = some l') :
    ∃ St1, Inv B M ⟨cx.φ, St1⟩ (ups1 (mapL (fun b => (b, .dead)) (l.flatMap (named m deep))) m) w ∧ Cx.ext B M cx ⟨cx.φ, St1⟩ ∧
      ∀ (j : Nat) (v : Value) (r r' : RV S), l[j]? = some r → l'[j]? = some r' → cx.rel v r → RVal (fun _ => none) St1 v r' := by
  obtain ⟨p1, p2⟩ := mapO_some _ _ hp
  have hids : ∀ b ∈ l.flatMap (named m deep), ∃ x, m b = some x := fun b hb => by
    obtain ⟨r, hr, hbr⟩ := List.mem_flatMap.1 hb
    obtain ⟨j, hj⟩ := List.getElem?_of_mem hr
    have hlt : j < l'.length := by rw [p1]; exact (List.getElem?_eq_some_iff.1 hj).1
    obtain ⟨x, hx, hpx⟩ := p2 j _ (List.getElem?_eq_getElem hlt)
    rw [hj] at hx; cases hx
    exact purify_named deep r _ hpx b hbr
  obtain ⟨St1, h1, e1, f1⟩ := Inv.freezes _ cx m hinv hids
  refine ⟨St1, h1, e1, fun j v r r' hr hr' hrel => ?_⟩
  obtain ⟨x, hx, hpx⟩ := p2 j r' hr'
  rw [hr] at hx; cases hx
  let m' : Nat → Option (Blk S) := fun b => if b ∈ l.flatMap (named m deep) then m b else none
  have hsub : ∀ b x, m' b = some x → m b = some x := fun b x hb => by
    simp only [m'] at hb
    split at hb
    · exact hb
    · cases hb
  have hS : Snap m' cx w St1 := ⟨e1.le.St, fun b x l0 k hb ha hl hk o ho => by
    have hin : b ∈ l.flatMap (named m deep) := by
      simp only [m'] at hb
      split at hb
      · assumption
      · cases hb
    exact f1 b hin x l0 k o (hsub b x hb) ha hl hk ho⟩
  have hpe : purify m' deep r = purify m deep r := (named_purify deep r fun b hb => by
    simp only [m']
    rw [if_pos (List.mem_flatMap.2 ⟨r, List.mem_of_getElem? hr, hb⟩)]).1
  exact purify_rel hinv hsub hS deep r r' v (hpe.trans hpx) hrel

end
end Go.SX

/- Calls, as operations. No statement of the seat is proved here. -/
namespace Go.SX
section
variable {S : Sg} [Enc S] [EncLaws S] {P : Program} {E : Env S} {N B : Nat} {M : Nat → Prop} {s s' : AS S} {gd : List (Nat × Bool)} {o : Oper} {k : Eff S → Ans S} {out : Out S}

omit [EncLaws S] in
theorem argsOf_nil (m : Nat → Option (Blk S)) : ∀ (i : Nat) (l : List (RV S)), argsOf m [] i l = mapO (purify m deep) l
  | _, [] => rfl
  | i, v :: r => by
    simp only [argsOf, argsOf_nil m (i + 1) r, mapO, memN, sel]
    cases mapO (purify m deep) r <;> cases purify m deep v <;> rfl
theorem call_freeze {f : Nat} {fc : FC S} {args as : List (RV S)} {bs bs' fr : List (Blk S)} {u : List (Nat × Blk S)} {r : RV S} {d : Nat} {m : Nat → Option (Blk S)} (hmu : fc.mu = [])
    (hbs : blksAt s.m (mutsOf fc.mu 0 args) = some bs) (has : argsOf (hide (mapL (fun x => x.2) (mutsOf fc.mu 0 args)) s.m) fc.mu 0 args = some as) (hz : zipUps (mutsOf fc.mu 0 args) bs' = some u) (hfree : freeAll s.m (newUps d 0 fr) = true)
    (h1 : ∀ b ∈ args.flatMap (named s.m deep), m b = s.m b) (h2 : ∀ x ∈ app (mapL (fun b => (b, Blk.dead)) (args.flatMap (named s.m deep))) (newUps d 0 fr), m x.1 = s.m x.1)
    (hcall : ∀ (cx : Cx) (w : World) (vs : Array Value) (ids : List Nat), ids = muIds fc.mu as → ids.length = bs.length → ArgsRel cx.φ cx.St vs as → (∀ x ∈ bs, x.alive = true) → Inv w.heap.size (Mof cx ids) cx (startM ids bs) w → CallsTo P f vs w (CallPost cx ids w r bs' fr)) :
    CallDoes P B M f args m ⟨imp d deep r, app (mapL (fun b => (b, .dead)) (args.flatMap (named s.m deep))) (newUps d 0 fr), args.flatMap (named s.m deep)⟩ := by
  intro cx w vs hinv hargs
  rw [hmu, mutsOf_nil] at hbs has hz
  have hbs0 : bs = [] := by cases hbs; rfl
  subst hbs0
  have hu : u = [] ∧ bs' = [] := by
    cases bs' with
    | nil => cases hz; exact ⟨rfl, rfl⟩
    | cons _ _ => cases hz
  obtain ⟨hu0, hb0⟩ := hu
  subst hb0
  have hh : hide (mapL (fun x : Nat × Nat => x.2) []) s.m = s.m := by funext k; rfl
  rw [hh, argsOf_nil] at has
  obtain ⟨q1, q2⟩ := named_purifyL (m := s.m) (m' := m) deep args h1
  rw [has] at q1
  obtain ⟨St1, i1, e1, f1⟩ := purify_frozen hinv q1
  rw [q2] at i1
  have hlen := (mapO_some _ _ has).1
  have hargs' : ArgsRel (fun _ => none) St1 vs as := ⟨by rw [hargs.1, hlen], fun j v r' hv hr' => by
    have hj : j < args.length := by rw [← hlen]; exact (List.getElem?_eq_some_iff.1 hr').1
    exact f1 j v _ r' (List.getElem?_eq_getElem hj) hr' (hargs.2 j v _ hv (List.getElem?_eq_getElem hj))⟩
  have hfree' : freeAll (ups1 (mapL (fun b => (b, Blk.dead)) (args.flatMap (named s.m deep))) m) (newUps d 0 fr) = true := by
    unfold freeAll at hfree ⊢
    rw [allL_eq, List.all_eq_true] at hfree ⊢
    intro x hx
    have hs := hfree x hx
    have hn : s.m x.1 = none := by
      split at hs
      · assumption
      · cases hs
    rw [deads_other _ _ _ fun hin => ?_, h2 x (by rw [app_eq]; simp [hx]), hn]
    obtain ⟨v, hv, hbv⟩ := List.mem_flatMap.1 hin
    obtain ⟨j, hj⟩ := List.getElem?_of_mem hv
    have hlt : j < as.length := by rw [hlen]; exact (List.getElem?_eq_some_iff.1 hj).1
    obtain ⟨y, hy, hpy⟩ := (mapO_some _ _ has).2 j _ (List.getElem?_eq_getElem hlt)
    rw [hj] at hy; cases hy
    obtain ⟨y, hy⟩ := purify_named deep v _ hpy x.1 hbv
    rw [hn] at hy; cases hy
  have hrun := hcall ⟨fun _ => none, St1⟩ w vs [] (by unfold muIds; rw [hmu, mutsOf_nil]; rfl) rfl hargs' (by simp)
    { base := Nat.le_refl _, stable := i1.stable, free := fun _ _ => rfl, has := fun b x hb => by simp [startM] at hb, blk := fun b x l hb => by simp [startM] at hb,
      lt := fun b l k hl => by simp at hl, sep := fun b b' x x' l l' k hb => by simp [startM] at hb, mine := fun b x l k hb => by simp [startM] at hb }
  refine hrun.mono fun v w' hv => ?_
  obtain ⟨φr, St2, p1, p2, p3, p4, p5⟩ := hv
  obtain ⟨cx', g1, g2, g3, g4⟩ := call_tail (mb := []) (bs' := []) (u := []) i1 (Sc := St1) (St1 := St2) (St' := St2) (fun p hp => by simp at hp) (by simp) rfl hfree' p5 p3 p4 p2.le p2.now p2.new (fun k _ h => h)
    (fun φ' l x _ hb => BlkAt.mono (cx := ⟨fun _ => none, St2⟩) (cx' := ⟨φ', St2⟩) ⟨fun _ _ h => (by cases h), Le.refl _⟩ (fun _ _ _ h => h) hb) p1
  refine ⟨cx', e1.trans g1, g2, g3, ?_⟩
  rw [ups1_app]
  exact g4

theorem xcall_core (hE : EnvOk P E) {f : Nat} {args : List (RV S)} {d : Option Nat} (h : xcall E f args d s k = some out) :
    ∃ e, k e = some out ∧ ∀ (B : Nat) (M : Nat → Prop) m, (∀ b ∈ e.rd, m b = s.m b) → (∀ x ∈ e.ups, m x.1 = s.m x.1) → CallDoes P B M f args m e := by
  unfold xcall at h
  split at h
  · cases h
  · rename_i fc hfc
    simp only at h
    obtain ⟨hd, h⟩ := cond_none h
    split at h
    · rename_i bs as hbs has
      obtain ⟨r, bs', fr, hK, hcall⟩ := (hE.fn f fc hfc).run _ _ _ _ h
      split at hK
      · rename_i u hz
        generalize hcc : sel (sel (looks deep r) false (sel (allL flatBlk bs') (allL flatBlk fr) false)) true (sel (anyL (refs deep) args) false true) = cc at hK
        cases cc with
        | false =>
          rw [cond_false] at hK
          split at hK
          · rename_i d' _ hmu _
            split at hK
            · rename_i hfree
              rw [force_eq] at hK
              exact ⟨_, hK, fun B M m h1 h2 => call_freeze hmu hbs has hz hfree h1 h2 hcall⟩
            · cases hK
          · cases hK
        | true =>
        rw [cond_true] at hK
        have hc := hcc
        obtain ⟨z1, z2, z3⟩ := zipUps_spec _ _ _ hz
        obtain ⟨hbl, hbget⟩ := blksAt_spec _ _ hbs
        have tr : ∀ (m : Nat → Option (Blk S)), (∀ p ∈ mutsOf fc.mu 0 args, m p.2 = s.m p.2) → blksAt m (mutsOf fc.mu 0 args) = some bs := fun m hm => by
          have : ∀ (l : List (Nat × Nat)), (∀ p ∈ l, m p.2 = s.m p.2) → blksAt m l = blksAt s.m l := fun l => by
            induction l with
            | nil => intro _; rfl
            | cons p r ih =>
              intro hm
              obtain ⟨id, b⟩ := p
              have h1 : m b = s.m b := hm (id, b) (by simp)
              simp only [blksAt, h1, ih fun p hp => hm p (by simp [hp])]
          rw [this _ hm]; exact hbs
        have hmu : ∀ (m : Nat → Option (Blk S)), (∀ x ∈ u, m x.1 = s.m x.1) → ∀ p ∈ mutsOf fc.mu 0 args, m p.2 = s.m p.2 := fun m hm p hp => by
          have : p.2 ∈ u.map (·.1) := by rw [z1]; exact List.mem_map.2 ⟨p, hp, rfl⟩
          obtain ⟨x, hx, e⟩ := List.mem_map.1 this
          rw [← e]; exact hm x hx
        cases d with
        | some d' =>
          simp only at hK
          split at hK
          · rename_i hfree
            rw [force_eq] at hK
            refine ⟨_, hK, fun B M m h1 h2 => ?_⟩
            have hm2 := hmu m fun x hx => h2 x (by rw [app_eq]; simp [hx])
            have hfree' : freeAll m (newUps d' 0 fr) = true := by
              unfold freeAll at hfree ⊢
              rw [allL_eq, List.all_eq_true] at hfree ⊢
              intro x hx
              rw [h2 x (by rw [app_eq]; simp [hx])]
              exact hfree x hx
            exact call_core hE hfc hd (tr m hm2) has h1 hm2 hz hfree' hc hcall
          · cases hK
        | none =>
          cases fr with
          | cons _ _ => cases hK
          | nil =>
            refine ⟨_, hK, fun B M m h1 h2 => ?_⟩
            have hm2 := hmu m h2
            have hcore := call_core (B := B) (M := M) (m := m) hE hfc hd (tr m hm2) has h1 hm2 hz (fr := []) (d := 0) rfl hc hcall
            intro cx w vs hi hv
            refine (hcore cx w vs hi hv).mono fun v w' ⟨cx', g1, g2, _, g4⟩ => ⟨cx', g1, g2, .junk v, ?_⟩
            simp only [newUps, app_eq, List.append_nil] at g4
            exact g4
      · cases hK
    · cases h

theorem xcall_fine (hE : EnvOk P E) {c : Call} (ho : o.op = .call c) {x : Operand} (hc : c.callee = .value x) {g : Nat} {caps : List (RV S)} (hx : ev s x = .func g caps)
    (h : xcall E g (app (evs [] s c.args.toList) caps) o.dst s k = some out) : Fine P N o s k out := by
  obtain ⟨e, h1, h2⟩ := xcall_core hE h
  refine ⟨e, h1, fun B M s' hag cx a w hr next Q hn => ?_⟩
  have hd := h2 B M s'.m hag.2.1 hag.2.2
  have hargs : ∀ x ∈ c.args, ev s' x = ev s x := fun x hx => ev_same hag.1 (by rw [ho]; simp only [Op.operands, Call.operands]; exact Array.mem_append.2 (.inr hx))
  have hx' : ev s' x = .func g caps := by
    rw [ev_same hag.1 (by rw [ho]; simp only [Op.operands, Call.operands, hc]; exact Array.mem_append.2 (.inl (by simp))), hx]
  have hf := ev_rel hr x
  rw [hx'] at hf
  obtain ⟨cv, hv, hc1, hc2⟩ := hf.inv_func
  have hevs : evs [] s' c.args.toList = evs [] s c.args.toList := by
    unfold evs; rw [mapL_eq, mapL_eq]
    exact List.map_congr_left fun x hx => by rw [← ev_eq, ← ev_eq]; exact hargs x (by simpa using hx)
  have hrel := callArgs_rel hr (GdOK.nil a) (args := c.args) hc1 hc2
  rw [hevs] at hrel
  refine wp_calls (run_callValue hc hv ho) ((hd cx w _ hr.inv hrel).mono fun v w' ⟨cx', g1, g2, g3, g4⟩ => hn cx' v w' g1 g2 g3 g4)

theorem xinvoke_fine (hE : EnvOk P E) {c : Call} (ho : o.op = .call c) {x : Operand} {name : String} (hc : c.callee = .invoke x name) {t : Nat} {r : RV S} (hx : ev s x = .iface t r) {g : Nat} (hm : E.mt t name = some g)
    (h : xcall E g (r :: evs [] s c.args.toList) o.dst s k = some out) : Fine P N o s k out := by
  obtain ⟨e, h1, h2⟩ := xcall_core hE h
  refine ⟨e, h1, fun B M s' hag cx a w hr next Q hn => ?_⟩
  have hd := h2 B M s'.m hag.2.1 hag.2.2
  have hargs : ∀ x ∈ c.args, ev s' x = ev s x := fun x hx => ev_same hag.1 (by rw [ho]; simp only [Op.operands, Call.operands]; exact Array.mem_append.2 (.inr hx))
  have hx' : ev s' x = .iface t r := by
    rw [ev_same hag.1 (by rw [ho]; simp only [Op.operands, Call.operands, hc]; exact Array.mem_append.2 (.inl (by simp))), hx]
  have hf := ev_rel hr x
  rw [hx'] at hf
  obtain ⟨u, hv, hu⟩ := hf.inv_iface
  have hevs : evs [] s' c.args.toList = evs [] s c.args.toList := by
    unfold evs; rw [mapL_eq, mapL_eq]
    exact List.map_congr_left fun x hx => by rw [← ev_eq, ← ev_eq]; exact hargs x (by simpa using hx)
  have hrel : ArgsRel cx.φ cx.St (#[u] ++ c.args.map a.eval) (r :: evs [] s c.args.toList) := by
    rw [← hevs]
    have hl : (evs [] s' c.args.toList).length = c.args.size := by unfold evs; rw [mapL_eq]; simp
    refine ⟨by simp [hl]; omega, fun j v q hv hq => ?_⟩
    cases j with
    | zero =>
      rw [Array.getElem?_append_left (by simp)] at hv
      rw [List.getElem?_cons_zero] at hq
      cases hq
      have hv' : some u = some v := hv
      cases hv'
      exact hu
    | succ j =>
      rw [Array.getElem?_append_right (by simp)] at hv
      rw [List.getElem?_cons_succ] at hq
      exact evs_rel hr (GdOK.nil a) c.args.toList j v q (by rw [List.getElem?_map]; simpa using hv) hq
  refine wp_calls (run_callMethod hc hv ho (hE.mt t name g hm u w)) ((hd cx w _ hr.inv hrel).mono fun v w' ⟨cx', g1, g2, g3, g4⟩ => hn cx' v w' g1 g2 g3 g4)
end
end Go.SX

/- What an append reads and makes. No statement of the seat is proved here. -/
namespace Go.SX
section
variable {S : Sg} [Enc S] {P : Program} {E : Env S} {N B : Nat} {M : Nat → Prop} {s s' : AS S} {gd : List (Nat × Bool)} {o : Oper} {k : Eff S → Ans S} {out : Out S}

/-- Cells from a place on stand for elements. -/
def ElRel (φ : Phi) (St : Stb) (c : S.C) (xs : List (S.den c)) (get : Nat → Option Value) : Prop :=
  ∀ (i j : Nat) (x : S.den c) (r : RV S), xs[i]? = some x → (Enc.enc c x)[j]? = some r → ∃ u, get (i * Enc.size c + j) = some u ∧ RVal φ St u r

variable [EncLaws S]

theorem enc_lt {c : S.C} {x : S.den c} {j : Nat} {r : RV S} (h : (Enc.enc c x)[j]? = some r) : j < Enc.size c := by
  rw [← EncLaws.size c x]; exact (List.getElem?_eq_some_iff.1 h).1

/-- Row and place in the row. -/
theorem row_split {z n q : Nat} (hz : 0 < z) (hq : q < n * z) : q / z < n ∧ q = q / z * z + q % z ∧ q % z < z := by
  refine ⟨Nat.div_lt_of_lt_mul (by rw [Nat.mul_comm]; exact hq), ?_, Nat.mod_lt _ hz⟩
  have := Nat.div_add_mod q z
  rw [Nat.mul_comm] at this
  exact this.symm

theorem row_at {z n i j : Nat} (hj : j < z) (hi : i < n) : i * z + j < n * z := by
  have h1 : (i + 1) * z ≤ n * z := Nat.mul_le_mul_right _ hi
  rw [Nat.add_mul, Nat.one_mul] at h1
  omega

/-- A stretch of a row of memory, as what an append reads. -/
theorem src_at {cx : Cx} {w : World} {c : S.C} {xs : List (S.den c)} {k off len cap : Nat} {arr : Array Value} {ty : TypeId} {fr : Nat × Nat} {tx e' : TypeId} (hk : w.heap[k]? = some (.cells arr ty fr)) (htx : P.underlying tx = some (.slice e'))
    (hn : len = xs.length) (hsz : off + xs.length * Enc.size c ≤ arr.size) (hr : ElRel cx.φ cx.St c xs fun q => arr[off + q]?) :
    ∃ news, Src P (Enc.size c) tx (.slice (some ⟨k, off, none⟩) len cap) xs.length news w ∧ ElRel cx.φ cx.St c xs fun q => news[q]? := by
  subst hn
  have hz := EncLaws.pos c
  have hl : (arr.extract off (off + xs.length * Enc.size c)).toList.length = xs.length * Enc.size c := by simp; omega
  have hget : ∀ q, q < xs.length * Enc.size c → (arr.extract off (off + xs.length * Enc.size c)).toList[q]? = arr[off + q]? := fun q hq => by
    rw [Array.getElem?_toList, Array.getElem?_extract, if_pos (by omega)]
  refine ⟨(arr.extract off (off + xs.length * Enc.size c)).toList, Src.ofSlice w htx ⟨k, off, none⟩ xs.length cap _ hl (fun j u hu => ?_) (fun u hu => ?_), fun i j x r hx hrr => ?_⟩
  · have hj := (List.getElem?_eq_some_iff.1 hu).1
    rw [hl] at hj
    rw [hget j hj] at hu
    rw [addr_add, cellAt hk]
    exact hu
  · obtain ⟨q, hq⟩ := List.getElem?_of_mem hu
    have hq' := (List.getElem?_eq_some_iff.1 hq).1
    rw [hl] at hq'
    rw [hget q hq'] at hq
    obtain ⟨h1, h2, h3⟩ := row_split hz hq'
    have hx := List.getElem?_eq_getElem h1
    have hlt : q % Enc.size c < (Enc.enc c xs[q / Enc.size c]).length := by rw [EncLaws.size]; exact h3
    obtain ⟨u', hu', hrel⟩ := hr _ _ _ _ hx (List.getElem?_eq_getElem hlt)
    simp only at hu'
    rw [← h2, hq] at hu'
    cases hu'
    exact oneC_cell hrel (EncLaws.refs _ _ _ (List.getElem_mem hlt)).2
  · obtain ⟨u, hu, hrel⟩ := hr i j x r hx hrr
    refine ⟨u, ?_, hrel⟩
    have hi := (List.getElem?_eq_some_iff.1 hx).1
    simp only
    rw [hget _ (row_at (enc_lt hrr) hi)]
    exact hu

theorem src_none {cx : Cx} {w : World} {c : S.C} {tx e' : TypeId} (htx : P.underlying tx = some (.slice e')) (a : Option Addr) (cap : Nat) :
    ∃ news, Src P (Enc.size c) tx (.slice a 0 cap) 0 news w ∧ ElRel cx.φ cx.St c [] fun q => news[q]? := by
  refine ⟨[], ?_, fun i j x r hx => by simp at hx⟩
  cases a with
  | none => exact Src.ofNil w htx cap
  | some a => exact Src.ofSlice w htx a 0 cap [] (by simp) (fun j u h => by simp at h) (fun u h => by cases h)

theorem rslice_size {c : S.C} {xs : List (S.den c)} {off sz : Nat} (h : ∀ (i j : Nat) (x : S.den c) (r : RV S), xs[i]? = some x → (Enc.enc c x)[j]? = some r → off + i * Enc.size c + j < sz) (hx : xs ≠ []) : off + xs.length * Enc.size c ≤ sz := by
  have hz := EncLaws.pos c
  have hlen : 0 < xs.length := List.length_pos_iff.2 hx
  have h1 : xs.length - 1 < xs.length := by omega
  have h2 : Enc.size c - 1 < (Enc.enc c xs[xs.length - 1]).length := by rw [EncLaws.size]; omega
  have := h _ _ _ _ (List.getElem?_eq_getElem h1) (List.getElem?_eq_getElem h2)
  have hm : (xs.length - 1 + 1) * Enc.size c = (xs.length - 1) * Enc.size c + Enc.size c := by rw [Nat.add_mul, Nat.one_mul]
  rw [Nat.sub_add_cancel hlen] at hm
  omega

theorem elems_src {cx : Cx} {m : Nat → Option (Blk S)} {w : World} (hinv : Inv B M cx m w) {tx e' : TypeId} (htx : P.underlying tx = some (.slice e')) {c : S.C} {y : RV S} {ys : List (S.den c)} {rd : List Nat} (h : elems m c y = some (ys, rd)) {v : Value} (hv : cx.rel v y) :
    ∃ a n cap news, v = .slice a n cap ∧ n = ys.length ∧ Src P (Enc.size c) tx v ys.length news w ∧ ElRel cx.φ cx.St c ys fun q => news[q]? := by
  have hrows : ∀ {b : Nat} {l : Loc} {k : Nat} {d : S.C} {xs : List (S.den d)}, m b = some (.rows d xs) → cx.φ b = some l → l.blk = some k →
      ∃ arr ty, w.heap[k]? = some (.cells arr ty (0, 0)) ∧ l.len = xs.length ∧ arr.size = l.cap * Enc.size d ∧ xs.length ≤ l.cap ∧ ElRel cx.φ cx.St d xs fun q => arr[q]? := fun hb hl hk => by
    obtain ⟨h1, h2⟩ := hinv.blk _ _ _ hb hl
    simp only [hk] at h2
    obtain ⟨arr, ty, h3, h4, h5, h6⟩ := h2
    exact ⟨arr, ty, h3, h1, h4, h5, fun i j x r hx hr => h6 i j x r hx hr⟩
  cases y with
  | nilslice =>
    simp only [elems, Option.some.injEq, Prod.mk.injEq] at h
    obtain ⟨rfl, rfl⟩ := h
    cases hv
    obtain ⟨news, h1, h2⟩ := src_none (P := P) (cx := cx) (w := w) (c := c) htx none 0
    exact ⟨_, _, _, news, rfl, rfl, h1, h2⟩
  | eslice =>
    simp only [elems, Option.some.injEq, Prod.mk.injEq] at h
    obtain ⟨rfl, rfl⟩ := h
    cases hv
    obtain ⟨news, h1, h2⟩ := src_none (P := P) (cx := cx) (w := w) (c := c) htx (some _) _
    exact ⟨_, _, _, news, rfl, rfl, h1, h2⟩
  | rslice d xs =>
    simp only [elems] at h
    split at h
    · rename_i zs hzs
      obtain ⟨e, hy⟩ := castC_some hzs
      subst e
      subst hy
      cases h
      cases hv with
      | rslice hn hk hc f g =>
        by_cases hx : ys = []
        · subst hx
          simp only [List.length_nil] at hn
          subst hn
          obtain ⟨news, h1, h2⟩ := src_none (P := P) (cx := cx) (w := w) (c := d) htx (some ⟨_, _, none⟩) _
          exact ⟨_, _, _, news, rfl, rfl, h1, h2⟩
        · obtain ⟨news, h1, h2⟩ := src_at (P := P) (cx := cx) (hinv.stable _ _ hk) htx hn (rslice_size f hx) fun i j x r hx hr => by
            have hlt := f i j x r hx hr
            refine ⟨_, Array.getElem?_eq_getElem (by omega), g i j x r _ hx hr ?_⟩
            rw [Nat.add_assoc]
            exact Array.getElem?_eq_getElem (by omega)
          exact ⟨_, _, _, news, rfl, hn, h1, h2⟩
      | rslice0 =>
        obtain ⟨news, h1, h2⟩ := src_none (P := P) (cx := cx) (w := w) (c := d) htx _ _
        exact ⟨_, _, _, news, rfl, rfl, h1, h2⟩
    · cases h
  | own b d n =>
    simp only [elems] at h
    split at h
    · rename_i d' xs hb
      split at h
      · rename_i zs hzs
        obtain ⟨e, hy⟩ := castC_some hzs
        subst e
        subst hy
        cases h
        cases hv with
        | own hl hc =>
          obtain ⟨arr, ty, h1, h2, h3, h4, h5⟩ := hrows hb hl rfl
          simp only at h2 h3 h4
          obtain ⟨news, g1, g2⟩ := src_at (P := P) (cx := cx) (off := 0) (len := n) h1 htx h2 (by rw [h3, Nat.zero_add]; exact Nat.mul_le_mul_right _ h4) (by simpa using h5)
          exact ⟨_, _, _, news, rfl, h2, g1, g2⟩
        | own0 hl =>
          obtain ⟨h1, h2⟩ := hinv.blk _ _ _ hb hl
          simp only at h2
          subst h2
          obtain ⟨news, g1, g2⟩ := src_none (P := P) (cx := cx) (w := w) (c := d') htx none 0
          exact ⟨_, _, _, news, rfl, rfl, g1, g2⟩
      · cases h
    · cases h
  | slice b d i n =>
    simp only [elems] at h
    split at h
    · rename_i d' xs hb
      split at h
      · rename_i ys' hys
        obtain ⟨e, hy⟩ := castC_some hys
        subst e
        subst hy
        split at h
        · rename_i zs hzs
          obtain ⟨e, hz⟩ := castC_some hzs
          subst e
          subst hz
          cases h
          cases hv with
          | slice hl hc hcap =>
            obtain ⟨arr, ty, h1, h2, h3, h4, h5⟩ := hrows hb hl rfl
            simp only at h2 h3 h4
            have hlen : n = ((ys'.drop i).take n).length := by simp; omega
            have hmul : (i + n) * Enc.size d' ≤ arr.size := by rw [h3]; exact Nat.mul_le_mul_right _ (by omega)
            rw [Nat.add_mul] at hmul
            obtain ⟨news, g1, g2⟩ := src_at (P := P) (cx := cx) (xs := (ys'.drop i).take n) (off := i * Enc.size d') (len := n) h1 htx hlen (by rw [← hlen]; exact hmul) (fun i' j x r hx hr => by
              have hx' : ys'[i + i']? = some x := by
                rw [List.getElem?_take] at hx
                split at hx
                · rwa [List.getElem?_drop] at hx
                · cases hx
              obtain ⟨u, hu, hrel⟩ := h5 (i + i') j x r hx' hr
              refine ⟨u, ?_, hrel⟩
              rw [Nat.add_mul, Nat.add_assoc] at hu
              exact hu)
            exact ⟨_, _, _, news, rfl, hlen, g1, g2⟩
          | slice0 hl hc =>
            simp only [List.take_zero]
            obtain ⟨news, g1, g2⟩ := src_none (P := P) (cx := cx) (w := w) (c := d') htx _ 0
            exact ⟨_, _, _, news, rfl, rfl, g1, g2⟩
        · cases h
      · cases h
    · cases h
  | _ => simp only [elems] at h; cases h

omit [EncLaws S] in
theorem elems_same {m m' : Nat → Option (Blk S)} {c : S.C} {y : RV S} {r : List (S.den c) × List Nat} (h : elems m c y = some r) (hm : ∀ b ∈ r.2, m' b = m b) : elems m' c y = some r := by
  cases y with
  | own b d n =>
    simp only [elems] at h ⊢
    split at h
    · rename_i d' xs hb
      split at h
      · rename_i zs hzs
        cases h
        rw [hm b (by simp), hb]
        simp only [hzs]
      · cases h
    · cases h
  | slice b d i n =>
    simp only [elems] at h ⊢
    split at h
    · rename_i d' xs hb
      split at h
      · rename_i ys hys
        split at h
        · rename_i zs hzs
          cases h
          rw [hm b (by simp), hb]
          simp only [hys, hzs]
        · cases h
      · cases h
    · cases h
  | _ => exact h
end
end Go.SX

/- Appends, sound. No statement of the seat is proved here. -/
namespace Go.SX
section
variable {S : Sg} [Enc S] [EncLaws S] {P : Program} {E : Env S} {N B : Nat} {M : Nat → Prop} {s s' : AS S} {gd : List (Nat × Bool)} {o : Oper} {k : Eff S → Ans S} {out : Out S}

omit [EncLaws S] in
theorem ElRel.app {φ : Phi} {St : Stb} {c : S.C} {xs ys : List (S.den c)} {g h f : Nat → Option Value} (hx : ElRel φ St c xs g) (hy : ElRel φ St c ys h)
    (h1 : ∀ q, q < xs.length * Enc.size c → f q = g q) (h2 : ∀ q, q < ys.length * Enc.size c → f (xs.length * Enc.size c + q) = h q) (hs : ∀ (x : S.den c) (j : Nat) (r : RV S), (Enc.enc c x)[j]? = some r → j < Enc.size c) : ElRel φ St c (xs ++ ys) f := fun i j x r hi hj => by
  have hjs := hs x j r hj
  by_cases hlt : i < xs.length
  · rw [List.getElem?_append_left hlt] at hi
    obtain ⟨u, hu, hr⟩ := hx i j x r hi hj
    exact ⟨u, (h1 _ (row_at hjs hlt)).trans hu, hr⟩
  · rw [List.getElem?_append_right (by omega)] at hi
    obtain ⟨u, hu, hr⟩ := hy _ j x r hi hj
    refine ⟨u, ?_, hr⟩
    rw [← hu, ← h2 _ (row_at hjs (List.getElem?_eq_some_iff.1 hi).1)]
    congr 1
    rw [← Nat.add_assoc, ← Nat.add_mul]
    congr 2
    omega

theorem ElRel.mono {φ φ' : Phi} {St St' : Stb} {c : S.C} {xs : List (S.den c)} {g : Nat → Option Value} (h : ElRel φ St c xs g) (hφ : Le φ φ') (hS : Le St St') : ElRel φ' St' c xs g := fun i j x r hi hj => by
  obtain ⟨u, hu, hr⟩ := h i j x r hi hj
  exact ⟨u, hu, RVal.mono hφ hS hr⟩

/-- What an append (or a make) leaves. -/
def Made (P : Program) (B : Nat) (M : Nat → Prop) (cx : Cx) (m1 : Nat → Option (Blk S)) (w : World) (d : Nat) (c : S.C) (zs : List (S.den c)) (sem : Sem Value) : Prop :=
  ∃ cx' v w', sem.run P w = .ok v w' ∧ Cx.ext B M cx cx' ∧ FrB B M w w' ∧ cx'.rel v (.own d c zs.length : RV S) ∧ Inv B M cx' (upd m1 d (some (.rows c zs))) w'

/-- A new row for elements. -/
theorem made_new {cx : Cx} {m1 : Nat → Option (Blk S)} {w : World} (hinv : Inv B M cx m1 w) {d : Nat} (hd : m1 d = none) {c : S.C} {zs : List (S.den c)} {arr : Array Value} {el : TypeId} {cap : Nat} {sem : Sem Value} (w0 : World) (hw : w0.heap = w.heap ∧ Fr NoM w w0)
    (hrun : sem.run P w = .ok (.slice (some ⟨w.heap.size, 0, none⟩) zs.length cap) (w0.alloc (.cells arr el))) (hcap : zs.length ≤ cap ∧ zs.length < 9223372036854775808) (hsz : arr.size = cap * Enc.size c) (hr : ElRel cx.φ cx.St c zs fun q => arr[q]?) : Made P B M cx m1 w d c zs sem := by
  have h0 := hinv.fr0 hw.2
  have hle : Le cx.φ (upd cx.φ d (some ⟨some w0.heap.size, zs.length, cap⟩)) := Le.upd _ (h0.free d hd)
  obtain ⟨h1, h2, h3⟩ := h0.alloc (x := .rows c zs) (arr := arr) (ty := el) (len := zs.length) (cap := cap) hd
    ⟨rfl, arr, el, heap_alloc_new w0 _, hsz, hcap.1, fun i j x r hi hj => (hr.mono hle (Le.refl _)) i j x r hi hj⟩
  refine ⟨_, _, _, hrun, h2, (hw.2.toB).trans h3, ?_, h1⟩
  rw [← hw.1]
  exact .own (upd_same _ _ _) hcap

theorem append_nil {cx : Cx} {m1 : Nat → Option (Blk S)} {w : World} (hinv : Inv B M cx m1 w) {d : Nat} (hd : m1 d = none) {c : S.C} {sem : Sem Value} (hrun : sem.run P w = .ok (.slice none 0 0) w) : Made P B M cx m1 w d c [] sem := by
  obtain ⟨h1, h2⟩ := hinv.phantom (c := c) hd
  exact ⟨_, _, _, hrun, h2, Fr.refl _ _, .own0 (upd_same _ _ _), h1⟩

theorem append_grow {t tx ty el : TypeId} {te : TI S} (htd : P.underlying t = some (.slice el)) (hte : te.Ok P el) {c : S.C} (hc : te.code = some c) (hb : 0 < te.bytes)
    {cx : Cx} {m1 : Nat → Option (Blk S)} {w : World} (hinv : Inv B M cx m1 w) {d : Nat} (hd : m1 d = none) {xs ys : List (S.den c)} {olds news : List Value} {a : Option Addr} {cap : Nat} {vy : Value}
    (hx : Src P (Enc.size c) t (.slice a xs.length cap) xs.length olds w) (hxr : ElRel cx.φ cx.St c xs fun q => olds[q]?) (hy : Src P (Enc.size c) tx vy ys.length news w) (hyr : ElRel cx.φ cx.St c ys fun q => news[q]?)
    (hcap : cap < xs.length + ys.length) (hby : (xs ++ ys).length * te.bytes ≤ 2 ^ 47) : Made P B M cx m1 w d c (xs ++ ys) (Builtin.append_ #[t, tx] ty #[.slice a xs.length cap, vy]) := by
  obtain ⟨i, z, hi, hsz, hbz, hz, hzk⟩ := hte.info
  have hszc : i.size = Enc.size c := hsz.trans (hte.code c hc)
  have hzs : z.cells.size = Enc.size c := by
    have h1 := (zOK_spec _ _ hzk).1
    rw [hte.zsize, hte.code c hc] at h1
    simpa using h1
  rw [List.length_append] at hby
  have hneed : xs.length + ys.length ≤ 2 ^ 47 := Nat.le_trans (Nat.le_mul_of_pos_right _ hb) hby
  have hrun := run_append_grow_src (P := P) w t tx ty el i z htd hi hz a xs.length cap olds (by rw [hszc]; exact hx.cellsD) vy ys.length news (by rw [hszc]; exact hy) hcap (by omega) (growslice_fits hcap (by rw [hbz]; exact hby))
  have hge := grownCap_ge w (xs.length + ys.length) cap el
  have hol := hx.newsLen
  have hnl := hy.newsLen
  have hz0 := EncLaws.pos c
  refine made_new hinv hd w.drew ⟨rfl, Fr.drew _ _⟩ (arr := (olds ++ news).toArray ++ Builtin.zeroCells z.cells (grownCap w (xs.length + ys.length) cap el - (xs.length + ys.length))) (el := el) (cap := grownCap w (xs.length + ys.length) cap el) ?_ ?_ ?_ ?_
  · rw [List.length_append]; exact hrun
  · rw [List.length_append]; exact ⟨hge, by omega⟩
  · simp only [Array.size_append, List.size_toArray, size_zeroCells, hzs, List.length_append, hol, hnl, ← Nat.add_mul]
    congr 1
    omega
  · refine hxr.app hyr (fun q hq => ?_) (fun q hq => ?_) fun x j r h => enc_lt h
    · rw [Array.getElem?_append_left (by simp; omega)]
      simp only [List.getElem?_toArray]
      rw [List.getElem?_append_left (by omega)]
    · rw [Array.getElem?_append_left (by simp; omega)]
      simp only [List.getElem?_toArray]
      rw [List.getElem?_append_right (by omega)]
      congr 1
      omega

theorem append_room {t tx ty el : TypeId} {te : TI S} (htd : P.underlying t = some (.slice el)) (hte : te.Ok P el) {c : S.C} (hc : te.code = some c)
    {cx : Cx} {m : Nat → Option (Blk S)} {w : World} (hinv : Inv B M cx m w) {d b : Nat} (hd : m d = none) {xs ys : List (S.den c)} {l : Loc} {kk : Nat} (hm : m b = some (.rows c xs)) (hl : cx.φ b = some l) (hk : l.blk = some kk) {news : List Value} {vy : Value}
    (hy : Src P (Enc.size c) tx vy ys.length news w) (hyr : ElRel cx.φ cx.St c ys fun q => news[q]?) (hcap : xs.length + ys.length ≤ l.cap) (hlen : xs.length + ys.length < 9223372036854775808) :
    Made P B M cx (upd m b (some .dead)) w d c (xs ++ ys) (Builtin.append_ #[t, tx] ty #[.slice (some ⟨kk, 0, none⟩) xs.length l.cap, vy]) := by
  obtain ⟨i, z, hi, hsz, hbz, hz, hzk⟩ := hte.info
  have hszc : i.size = Enc.size c := hsz.trans (hte.code c hc)
  obtain ⟨h1, h2⟩ := hinv.blk _ _ _ hm hl
  simp only [hk] at h2
  obtain ⟨arr, ty0, g1, g2, g3, g4⟩ := h2
  have hnl := hy.newsLen
  have hfit : xs.length * Enc.size c + news.length ≤ arr.size := by rw [hnl, g2, ← Nat.add_mul]; exact Nat.mul_le_mul_right _ hcap
  obtain ⟨arr', s1, s2, s3⟩ := run_storeCells_at (P := P) ty0 (xs.length * Enc.size c) news 0 arr w g1 (by simpa using hfit) hy.one
  have hrun : (Builtin.append_ #[t, tx] ty #[.slice (some ⟨kk, 0, none⟩) xs.length l.cap, vy]).run P w = .ok (.slice (some ⟨kk, 0, none⟩) (xs.length + ys.length) l.cap) (w.setRow kk arr') := by
    rcases hy.kind with ⟨e', hk'⟩ | hk' <;> simp [Builtin.append_, run_underlying htd, run_underlying hk', sizeOf, typeInfo, hi, hszc, hy.len, hcap, hy.cells, Addr.add_lit, s1]
  have hmine := hinv.mine b _ l kk hm rfl hl hk
  obtain ⟨i1, f1⟩ := hinv.set hm rfl hl hk arr' (x' := .dead) trivial
  have hdb : d ≠ b := fun e => by subst e; rw [hd] at hm; cases hm
  have hd1 : upd m b (some Blk.dead) d = none := by rw [upd_other _ _ hdb]; exact hd
  have hle : Le cx.φ (upd cx.φ d (some ⟨some kk, (xs ++ ys).length, l.cap⟩)) := Le.upd _ (hinv.free d hd)
  have hheap : (w.setRow kk arr').heap[kk]? = some (.cells arr' ty0 (0, 0)) := setRow_heap w kk arr _ ty0 _ g1
  have hrel : ElRel (upd cx.φ d (some ⟨some kk, (xs ++ ys).length, l.cap⟩)) cx.St c (xs ++ ys) fun q => arr'[q]? := by
    refine ElRel.app (g := fun q => arr[q]?) (h := fun q => news[q]?) (fun i j x r hi hj => ?_) (hyr.mono hle (Le.refl _)) (fun q hq => ?_) (fun q hq => ?_) fun x j r h => enc_lt h
    · obtain ⟨u, hu, hr⟩ := g4 i j x r hi hj
      exact ⟨u, hu, RVal.mono hle (Le.refl _) hr⟩
    · rw [s3, if_neg (by omega)]
    · rw [s3, if_pos (by omega)]
      congr 1
      omega
  obtain ⟨i2, e2⟩ := i1.adopt (d := d) (k := kk) (x := .rows c (xs ++ ys)) (l := ⟨some kk, (xs ++ ys).length, l.cap⟩) hd1 rfl (Array.getElem?_eq_some_iff.1 hheap).1 hmine.1 hmine.2
    (fun b' y q hb' hy' hq hqk => by
      by_cases e : b' = b
      · subst e; rw [upd_same] at hb'; cases hb'; cases hy'
      · rw [upd_other _ _ e] at hb'
        exact e (hinv.sep b' b y _ q l kk hb' hm hy' rfl hq hl hqk hk))
    ⟨rfl, arr', ty0, hheap, by rw [s2, g2], by rw [List.length_append]; exact hcap, hrel⟩
  exact ⟨_, _, _, hrun, e2, f1, by rw [List.length_append]; exact .own (by rw [← List.length_append]; exact upd_same _ _ _) ⟨hcap, hlen⟩, i2⟩

omit [EncLaws S] in
theorem sliceTy_some (hE : EnvTy P E) {t : Nat} (h : isSliceTy E t = true) : ∃ e, P.underlying t = some (.slice e) := by
  unfold isSliceTy at h
  split at h
  · rename_i ti hti
    split at h
    · rename_i el hk
      obtain ⟨d, hd, hkd⟩ := (hE.ty _ _ hti).desc
      rw [hk] at hkd
      have := kOK_slice hkd; subst this
      exact ⟨_, hd⟩
    · cases h
  · cases h

theorem xappend_fine (hE : EnvTy P E) {cl : Call} (ho : o.op = .call cl) (hcal : cl.callee = .builtin .append) {x y : Operand} (ha : cl.args.toList = [x, y]) {t t2 : Nat} (hts : cl.argTypes.toList = [t, t2]) {d : Nat}
    (h : xappend E t t2 (ev s x) (ev s y) d s k = some out) : Fine P N o s k out := by
  have ha' : cl.args = #[x, y] := by rw [← Array.toArray_toList (xs := cl.args), ha]
  have ht' : cl.argTypes = #[t, t2] := by rw [← Array.toArray_toList (xs := cl.argTypes), hts]
  have hox : x ∈ o.op.operands := by rw [ho]; simp [Op.operands, Call.operands, ha']
  have hoy : y ∈ o.op.operands := by rw [ho]; simp [Op.operands, Call.operands, ha']
  have fin : ∀ (c : S.C) (zs : List (S.den c)) (b : Option Nat) (rd : List Nat) (e : Eff S), e = ⟨.own d c zs.length, (match b with | some b => [(b, .dead), (d, .rows c zs)] | none => [(d, .rows c zs)]), rd⟩ →
      (∀ (B : Nat) (M : Nat → Prop) (s' : AS S), (∀ b ∈ rd, s'.m b = s.m b) → s'.m d = none → ∀ (cx : Cx) (w : World) (vx vy : Value), Inv B M cx s'.m w → cx.rel vx (ev s x) → cx.rel vy (ev s y) →
        Made P B M cx (match b with | some b => upd s'.m b (some .dead) | none => s'.m) w d c zs (Builtin.append_ #[t, t2] o.type #[vx, vy])) → s.m d = none →
      ∀ (B : Nat) (M : Nat → Prop) (s' : AS S), AgreeO o e s s' → Does P N B M o s' e := fun c zs b rd e he hmade hfree B M s' hag cx a w hr next Q hn => by
    subst he
    have hd' : s'.m d = none := by
      have := hag.2.2 (d, .rows c zs) (by cases b <;> simp)
      exact this.trans hfree
    have hx := ev_rel hr x
    rw [ev_same hag.1 hox] at hx
    have hy := ev_rel hr y
    rw [ev_same hag.1 hoy] at hy
    obtain ⟨cx', v, w', h1, h2, h3, h4, h5⟩ := hmade B M s' hag.2.1 hd' cx w _ _ hr.inv hx hy
    refine wp_run_value (v := v) (w' := w') ?_ (hn cx' v w' h2 h3 h4 ?_)
    · simp only [execOp, ho, resolve, hcal, ha', ht', Sem.run_bind, Sem.run_pure, Result.andThen_ok, invoke, builtin, List.map_toArray, List.map_cons, List.map_nil, h1]
    · cases b <;> exact h5
  unfold xappend at h
  split at h
  · rename_i ti hti
    split at h
    · rename_i el hk
      obtain ⟨dd, hdd, hkd⟩ := (hE.ty _ _ hti).desc
      rw [hk] at hkd
      have := kOK_slice hkd; subst this
      split at h
      · rename_i te hte
        have hteok := hE.ty _ _ hte
        split at h
        · rename_i c hc
          split at h
          · rename_i ys rd hys hcond
            rw [sel_eq] at hcond
            split at hcond
            · rename_i h2
              obtain ⟨e2, ht2⟩ := sliceTy_some hE h2
              have hb : 0 < te.bytes := Nat.le_of_ble_eq_true hcond
              have hyS : ∀ (B : Nat) (M : Nat → Prop) (s' : AS S), (∀ b ∈ rd, s'.m b = s.m b) → ∀ (cx : Cx) (w : World) (vy : Value), Inv B M cx s'.m w → cx.rel vy (ev s y) → ∃ news, Src P (Enc.size c) t2 vy ys.length news w ∧ ElRel cx.φ cx.St c ys fun q => news[q]? := fun B M s' hrd cx w vy hi hv => by
                obtain ⟨_, _, _, news, _, _, g1, g2⟩ := elems_src (P := P) hi ht2 (elems_same hys hrd) hv
                exact ⟨news, g1, g2⟩
              have hbase : ∀ (B : Nat) (M : Nat → Prop) (cx : Cx) (m1 : Nat → Option (Blk S)) (w : World) (vy : Value) (news : List Value), Inv B M cx m1 w → m1 d = none → Src P (Enc.size c) t2 vy ys.length news w → ElRel cx.φ cx.St c ys (fun q => news[q]?) → ys.length * te.bytes ≤ 2 ^ 47 →
                  Made P B M cx m1 w d c ys (Builtin.append_ #[t, t2] o.type #[.slice none 0 0, vy]) := fun B M cx m1 w vy news hi hd hs hr hby => by
                by_cases hy0 : ys = []
                · subst hy0
                  refine append_nil hi hd ?_
                  obtain ⟨i, z, hi', hsz, hbz, hz, hzk⟩ := hteok.info
                  have hn0 : news = [] := List.eq_nil_of_length_eq_zero (by simpa using hs.newsLen)
                  have hlen := hs.len
                  have hcells := hs.cells
                  simp only [List.length_nil, hn0] at hlen hcells
                  rw [← hteok.code c hc, ← hsz] at hcells
                  simp [Builtin.append_, run_underlying hdd, run_underlying ht2, sizeOf, typeInfo, hi', hlen, hcells]
                · have := append_grow (ty := o.type) (xs := ([] : List (S.den c))) (olds := []) (a := none) (cap := 0) hdd hteok hc hb hi hd (Src.ofNil w hdd 0) (fun i j x r hx => by simp at hx) hs hr (by simpa using List.length_pos_iff.2 hy0) (by simpa using hby)
                  simpa using this
              split at h
              · rename_i hxe
                obtain ⟨hfree, h⟩ := isFree_some h
                obtain ⟨hby, h⟩ := cond_none h
                have hby : ys.length * te.bytes ≤ 2 ^ 47 := by simpa using hby
                refine ⟨_, h, fin c ys none rd _ rfl (fun B M s' hrd hd' cx w vx vy hi hvx hvy => ?_) hfree⟩
                rw [hxe] at hvx
                cases hvx
                obtain ⟨news, g1, g2⟩ := hyS B M s' hrd cx w vy hi hvy
                exact hbase B M cx s'.m w vy news hi hd' g1 g2 hby
              · rename_i b c' n' hxe
                split at h
                · rename_i c0 xs0 hm
                  split at h
                  · rename_i xs hxs
                    obtain ⟨e, hxx⟩ := castC_some hxs
                    subst e
                    subst hxx
                    obtain ⟨hfree, h⟩ := isFree_some h
                    obtain ⟨hby, h⟩ := cond_none h
                    have hby : (xs ++ ys).length * te.bytes ≤ 2 ^ 47 := of_decide_eq_true hby
                    refine ⟨_, h, fin c0 (xs ++ ys) (some b) (b :: rd) _ rfl (fun B M s' hrd hd' cx w vx vy hi hvx hvy => ?_) hfree⟩
                    have hm' : s'.m b = some (.rows c0 xs) := (hrd b (by simp)).trans hm
                    rw [hxe] at hvx
                    obtain ⟨news, g1, g2⟩ := hyS B M s' (fun b hb => hrd b (by simp [hb])) cx w vy hi hvy
                    have hdb : d ≠ b := fun e => by subst e; rw [hd'] at hm'; cases hm'
                    have hd1 : upd s'.m b (some Blk.dead) d = none := by rw [upd_other _ _ hdb]; exact hd'
                    have hi1 := hi.kill hm'
                    cases hvx with
                    | @own _ _ kk _ cap hl hcap =>
                      obtain ⟨f1, f2⟩ := hi.blk _ _ _ hm' hl
                      simp only at f1 f2
                      subst f1
                      by_cases hroom : xs.length + ys.length ≤ cap
                      · exact append_room hdd hteok hc hi hd' hm' hl rfl g1 g2 hroom (by
                          have := Nat.le_trans (Nat.le_mul_of_pos_right (xs ++ ys).length hb) hby
                          rw [List.length_append] at this
                          omega)
                      · obtain ⟨arr, ty0, q1, q2, q3, q4⟩ := f2
                        obtain ⟨olds, p1, p2⟩ := src_at (P := P) (cx := cx) (xs := xs) (off := 0) (len := xs.length) (cap := cap) q1 hdd rfl (by rw [q2, Nat.zero_add]; exact Nat.mul_le_mul_right _ hcap.1) (fun i j x r hx hr => by simpa using q4 i j x r hx hr)
                        exact append_grow hdd hteok hc hb hi1 hd1 p1 p2 g1 g2 (by omega) hby
                    | own0 hl =>
                      obtain ⟨f1, f2⟩ := hi.blk _ _ _ hm' hl
                      simp only at f2
                      subst f2
                      simp only [List.nil_append] at hby ⊢
                      exact hbase B M cx _ w vy news hi1 hd1 g1 g2 hby
                  · cases h
                · cases h
              · cases h
            · cases hcond
          · cases h
        · cases h
      · cases h
    · cases h
  · cases h
end
end Go.SX

/- Makes, built slices, stores: sound. No statement of the seat is proved here. -/
namespace Go.SX
section
variable {S : Sg} [Enc S] [EncLaws S] {P : Program} {E : Env S} {N B : Nat} {M : Nat → Prop} {s s' : AS S} {gd : List (Nat × Bool)} {o : Oper} {k : Eff S → Ans S} {out : Out S}

theorem madeCells_get (z : Array Value) (n q : Nat) (hq : q < n) (hz : 0 < z.size) : (madeCells z n)[q]? = z[q % z.size]? := by
  have hlt : q % z.size < z.size := Nat.mod_lt _ hz
  simp [madeCells, hq, getElem!_pos, hlt]

theorem makeSlice_fine (hE : EnvTy P E) {dst : Option Nat} {t type : Nat} {l c : Operand} {pos : String} {after : Array Edge} {guard : Option (Nat × Bool)} {d : Nat} (_hd : dst = some d)
    (h : xmakeSlice E t (ev s l) (ev s c) (match l, c with | .tmp a, .tmp b => Nat.beq a b | .const (.int _ a), .const (.int _ b) => decide (a = b) | _, _ => false) d s k = some out) : Fine P N ⟨dst, .makeSlice t l c, type, pos, after, guard⟩ s k out := by
  unfold xmakeSlice at h
  split at h
  · rename_i ti hti
    split at h
    · rename_i el hk
      obtain ⟨dd, hdd, hkd⟩ := (hE.ty _ _ hti).desc
      rw [hk] at hkd
      have := kOK_slice hkd; subst this
      split at h
      · rename_i te hte
        have hteok := hE.ty _ _ hte
        split at h
        · rename_i q hq
          split at h
          · rename_i z hz
            split at h
            · rename_i k1 n k2 n' hl hc
              obtain ⟨hfree, h⟩ := isFree_some h
              obtain ⟨hcond, h⟩ := cond_none h
              obtain ⟨h0, hby, hb⟩ := of_decide_eq_true hcond
              obtain ⟨i, zv, hi, hsz, hbz, hzv, hzk⟩ := hteok.info
              have hszc : i.size = Enc.size q := hsz.trans (hteok.code q hq)
              have hzs : zv.cells.size = Enc.size q := by
                have h1 := (zOK_spec _ _ hzk).1
                rw [hteok.zsize, hteok.code q hq] at h1
                simpa using h1
              have hpos := EncLaws.pos q
              have hn63 : n' ≤ 2 ^ 47 := by
                have : n' * 1 ≤ n' * (te.bytes : Int) := Int.mul_le_mul_of_nonneg_left (by omega) h0
                omega
              have fin : ∀ (zs : List (S.den q)), (zs.length : Int) = n → zs.length ≤ n'.toNat → (∀ i x, zs[i]? = some x → x = z) → k ⟨.own d q zs.length, [(d, .rows q zs)], []⟩ = some out → Fine P N ⟨dst, .makeSlice t l c, type, pos, after, guard⟩ s k out := fun zs hlen hle hall hk => by
                refine ⟨_, hk, fun B M s' hag cx a w hr next Q hn => ?_⟩
                have hd' : s'.m d = none := (hag.2.2 (d, .rows q zs) (by simp)).trans hfree
                have h1 := ev_rel hr l
                have h2 := ev_rel hr c
                rw [ev_same hag.1 (by simp [Op.operands]), hl] at h1
                rw [ev_same hag.1 (by simp [Op.operands]), hc] at h2
                have hrun := run_make (P := P) w t el i zv hdd hi hzv k1 k2 n n' (by omega) (by omega) (by rw [hbz, Int.mul_comm]; omega) (by omega)
                have hln : n.toNat = zs.length := by omega
                rw [hln] at hrun
                obtain ⟨cx', v, w', g1, g2, g3, g4, g5⟩ := made_new (B := B) (M := M) (sem := Instr.makeSlice t (.int k1 n) (.int k2 n')) hr.inv hd' w ⟨rfl, Fr.refl _ _⟩ hrun ⟨hle, by omega⟩ (by rw [size_madeCells, hszc]) (fun i' j x r hx hrr => by
                  have hxz := hall i' x hx
                  subst hxz
                  obtain ⟨e1, e2⟩ := EncLaws.dec q _ _ hz
                  have hj := enc_lt hrr
                  have hjz : j < te.zero.length := by rw [e1]; exact (List.getElem?_eq_some_iff.1 hrr).1
                  have hjv : j < zv.cells.size := by rw [hzs]; exact hj
                  have hi' : i' < zs.length := (List.getElem?_eq_some_iff.1 hx).1
                  have hzrel := (zOK_spec _ _ hzk).2 cx.φ cx.St j zv.cells[j] _ (by rw [Array.getElem?_toList]; exact Array.getElem?_eq_getElem hjv) (List.getElem?_eq_getElem hjz)
                  refine ⟨zv.cells[j], ?_, e2 cx.φ cx.St j _ _ r (List.getElem?_eq_getElem hjz) hrr hzrel⟩
                  show (madeCells zv.cells (n'.toNat * i.size))[i' * Enc.size q + j]? = _
                  rw [madeCells_get _ _ _ (by rw [hszc]; exact row_at hj (by omega)) (by omega), hzs, Nat.mul_comm, Nat.mul_add_mod, Nat.mod_eq_of_lt hj]
                  exact Array.getElem?_eq_getElem hjv)
                refine wp_run_value (v := v) (w' := w') ?_ (hn cx' v w' g2 g3 g4 g5)
                simp only [execOp, h1.inv_int, h2.inv_int, Sem.run_bind, g1, Result.andThen_ok, Sem.run_pure]
              rcases cond_some h with ⟨hsame, h⟩ | ⟨_, h⟩
              · have hnn : n = n' := by
                  split at hsame
                  · rename_i a b
                    have := Nat.eq_of_beq_eq_true hsame
                    subst this
                    rw [hl] at hc
                    cases hc
                    rfl
                  · rename_i ka a kb b _ _
                    have e := of_decide_eq_true hsame
                    have h1 : (RV.int ka a : RV S) = .int k1 n := hl
                    have h2 : (RV.int kb b : RV S) = .int k2 n' := hc
                    cases h1
                    cases h2
                    exact e
                  · cases hsame
                exact fin (List.replicate n'.toNat z) (by simp; omega) (by simp) (fun i x hx => by
                  have := List.mem_of_getElem? hx
                  exact (List.mem_replicate.1 this).2) h
              · obtain ⟨hn0, h⟩ := cond_none h
                have hn0 : n = 0 := by simpa using hn0
                exact fin [] (by simp [hn0]) (by simp) (fun i x hx => by simp at hx) h
            · cases h
          · cases h
        · cases h
      · cases h
    · cases h
  · cases h

theorem decs_rel {c : S.C} {sz : Nat} : ∀ (n : Nat) (l : List (RV S)) (xs : List (S.den c)), decs c sz n l = some xs → xs.length = n ∧ ∀ (i j : Nat) (x : S.den c) (r : RV S), xs[i]? = some x → (Enc.enc c x)[j]? = some r →
    sz = Enc.size c ∧ ∃ r0, l[i * sz + j]? = some r0 ∧ ∀ (φ : Phi) (St : Stb) (v : Value), RVal φ St v r0 → RVal φ St v r
  | 0, l, xs, h => by
    simp only [decs, Option.some.injEq] at h
    subst h
    exact ⟨rfl, fun i j x r hx => by simp at hx⟩
  | n + 1, l, xs, h => by
    simp only [decs] at h
    split at h
    · cases h
    · rename_i ch hch
      split at h
      · cases h
      · rename_i x hx
        split at h
        · cases h
        · rename_i xs' hxs
          cases h
          obtain ⟨t1, t2, t3⟩ := takeN_some _ _ _ hch
          obtain ⟨d1, d2⟩ := EncLaws.dec c _ _ hx
          have hszc : sz = Enc.size c := by rw [← t1, d1, EncLaws.size]
          obtain ⟨ih1, ih2⟩ := decs_rel n _ xs' hxs
          refine ⟨by simp [ih1], fun i j y r hy hr => ⟨hszc, ?_⟩⟩
          cases i with
          | zero =>
            simp only [List.getElem?_cons_zero, Option.some.injEq] at hy
            subst hy
            have hj : j < sz := by rw [hszc]; exact enc_lt hr
            have hjc : j < ch.length := by omega
            refine ⟨ch[j], by rw [Nat.zero_mul, Nat.zero_add, ← t3 j hj]; exact List.getElem?_eq_getElem hjc, fun φ St v hv => d2 φ St j v _ r (List.getElem?_eq_getElem hjc) hr hv⟩
          | succ i =>
            obtain ⟨_, r0, g1, g2⟩ := ih2 i j y r (by simpa using hy) hr
            refine ⟨r0, ?_, g2⟩
            rw [dropN_eq, List.getElem?_drop] at g1
            rw [← g1]
            congr 1
            rw [Nat.add_mul, Nat.one_mul]
            omega

theorem reps_get {α : Type} (l : List α) : ∀ (n : Nat), (reps n l).length = n * l.length ∧ ∀ q, q < n * l.length → (reps n l)[q]? = l[q % l.length]?
  | 0 => ⟨by simp [reps], fun q hq => by omega⟩
  | n + 1 => by
    obtain ⟨h1, h2⟩ := reps_get l n
    have hm : (n + 1) * l.length = l.length + n * l.length := by rw [Nat.add_mul, Nat.one_mul, Nat.add_comm]
    refine ⟨by simp only [reps, app_eq, List.length_append, h1, hm], fun q hq => ?_⟩
    simp only [reps, app_eq]
    by_cases hlt : q < l.length
    · rw [List.getElem?_append_left hlt, Nat.mod_eq_of_lt hlt]
    · rw [List.getElem?_append_right (by omega), h2 _ (by omega), ← Nat.mod_eq_sub_mod (by omega)]

omit [Enc S] [EncLaws S] in
theorem xfill_len {place : Nat → Option (Nat × Nat)} {ρ : Operand → RV S} : ∀ (parts : List (Nat × Operand)) (l l' : List (RV S)), xfill place ρ parts l = some l' → l'.length = l.length
  | [], l, l', h => by simp only [xfill, Option.some.injEq] at h; rw [h]
  | (i, x) :: r, l, l', h => by
    simp only [xfill] at h
    split at h
    · cases h
    · split at h
      · cases h
      · rw [sel_eq] at h
        split at h
        · rw [sel_eq] at h
          split at h
          · cases h
          · split at h
            · rename_i l1 hl1
              rw [xfill_len r l1 l' h, (putN_some _ _ _ _ hl1).1]
            · cases h
        · cases h

theorem castC_self {c : S.C} (xs : List (S.den c)) : castC (d := c) xs = some xs := by
  unfold castC
  split
  · rfl
  · rename_i h _
    exact absurd rfl h
/-- A new row told by its content. -/
theorem made_content {cx : Cx} {m1 : Nat → Option (Blk S)} {w : World} {d : Nat} {c : S.C} {zs : List (S.den c)} {sem : Sem Value} (h : Made P B M cx m1 w d c zs sem) :
    ∃ cx' v w', sem.run P w = .ok v w' ∧ Cx.ext B M cx cx' ∧ FrB B M w w' ∧ cx'.rel v (.rslice c zs : RV S) ∧ Inv B M cx' (upd m1 d (some .dead)) w' := by
  obtain ⟨cx', v, w', a1, a2, a3, a4, a5⟩ := h
  have hu : upd m1 d (some (Blk.rows c zs)) d = some (.rows c zs) := by simp [upd, sel]
  have hp : mapO (purify (upd m1 d (some (Blk.rows c zs))) deep) [RV.own d c zs.length] = some [.rslice c zs] := by
    show mapO (purify (upd m1 d (some (Blk.rows c zs))) (7 + 1)) [RV.own d c zs.length] = _
    simp only [mapO, purify, hu, castC_self]
  obtain ⟨St1, i1, e1, f1⟩ := purify_frozen a5 hp
  have hn : ([RV.own d c zs.length] : List (RV S)).flatMap (named (upd m1 d (some (Blk.rows c zs))) deep) = [d] := by
    show ([RV.own d c zs.length] : List (RV S)).flatMap (named (upd m1 d (some (Blk.rows c zs))) (7 + 1)) = _
    simp only [List.flatMap_cons, List.flatMap_nil, named, hu]
    rfl
  rw [hn] at i1
  have hm : ups1 (mapL (fun b => (b, Blk.dead)) [d]) (upd m1 d (some (Blk.rows c zs))) = upd m1 d (some .dead) := by
    funext k
    simp only [mapL, ups1, upd, sel_eq]
    split <;> rfl
  rw [hm] at i1
  exact ⟨⟨cx'.φ, St1⟩, v, w', a1, a2.trans e1, a3, RVal.mono (fun _ _ h => by cases h) (Le.refl _) (f1 0 v _ _ rfl rfl a4), i1⟩
theorem buildSlice_fine (hE : EnvTy P E) {dst : Option Nat} {t type n : Nat} {ps : Array (Nat × Operand)} {pos : String} {after : Array Edge} {guard : Option (Nat × Bool)} {d : Nat} (_hd : dst = some d)
    (h : xbuildSlice E t n ps.toList d s k = some out) : Fine P N ⟨dst, .buildSlice t n ps, type, pos, after, guard⟩ s k out := by
  unfold xbuildSlice at h
  split at h
  · rename_i ti hti
    split at h
    · rename_i el hk
      obtain ⟨dd, hdd, hkd⟩ := (hE.ty _ _ hti).desc
      rw [hk] at hkd
      have := kOK_slice hkd; subst this
      split at h
      · rename_i te hte
        have hteok := hE.ty _ _ hte
        split at h
        · rename_i c hc
          split at h
          · rename_i l hl
            obtain ⟨hfree, h⟩ := isFree_some h
            split at h
            · rename_i l' hbig hl'
              split at h
              · rename_i xs hxs
                have main : ∀ (B : Nat) (M : Nat → Prop) (s' : AS S) (cx : Cx) (a : Act) (w : World), SameT (opT ⟨dst, .buildSlice t n ps, type, pos, after, guard⟩) s s' → (∀ b ∈ l.flatMap (named s.m deep), s'.m b = s.m b) → s'.m d = s.m d → Rel N B M cx s' a w →
                    ∃ St1, Cx.ext B M cx ⟨cx.φ, St1⟩ ∧ Made P B M ⟨cx.φ, St1⟩ (ups1 (mapL (fun b => (b, Blk.dead)) (l.flatMap (named s.m deep))) s'.m) w d c xs (Instr.buildSlice t n (ps.map fun x => (x.1, a.eval x.2))) := by
                  intro B M s' cx a w g1 g2 g3 hr
                  obtain ⟨i, zv, hi, hsz, hbz, hzv, hzk⟩ := hteok.info
                  have hszc : te.size = Enc.size c := hteok.code c hc
                  have hpos := EncLaws.pos c
                  obtain ⟨z1, z2⟩ := zOK_spec _ _ hzk
                  have hzs : zv.cells.size = te.size := by rw [← hteok.zsize]; simpa using z1
                  have hops : ∀ p ∈ ps.toList, p.2 ∈ (Op.buildSlice t n ps).operands := fun p hp => by
                    simp only [Op.operands]
                    simp
                    exact ⟨p.1, by simpa using hp⟩
                  have hd' : s'.m d = none := g3.trans hfree
                  have hnm : ∀ b ∈ l.flatMap (named s.m deep), s'.m b = s.m b := g2
                  obtain ⟨q1, q2⟩ := named_purifyL (m := s.m) (m' := s'.m) deep l hnm
                  rw [hl'] at q1
                  obtain ⟨rg1, rg2⟩ := reps_get te.zero n
                  obtain ⟨cells, hc1, hc2⟩ := xfill_rel (φ := cx.φ) (St := cx.St) (ρ := a.eval) ps.toList (reps n te.zero) l (madeCells zv.cells (n * te.size)) hl
                    (fun p hp => by
                      have := ev_rel hr p.2
                      rw [ev_same g1 (hops p hp)] at this
                      exact this)
                    ⟨by rw [size_madeCells, rg1, hteok.zsize], fun j u r hu hr => by
                      have hj : j < n * te.size := by rw [← size_madeCells zv.cells (n * te.size)]; exact (Array.getElem?_eq_some_iff.1 hu).1
                      rw [madeCells_get _ _ _ hj (by omega)] at hu
                      rw [rg2 j (by rw [hteok.zsize]; exact hj), hteok.zsize] at hr
                      rw [hzs] at hu
                      exact z2 cx.φ cx.St _ u r (by simpa using hu) hr⟩
                  obtain ⟨St1, i1, e1, f1⟩ := purify_frozen hr.inv q1
                  rw [q2] at i1
                  have hd1 : ups1 (mapL (fun b => (b, Blk.dead)) (l.flatMap (named s.m deep))) s'.m d = none := by
                    rw [deads_other _ _ _ fun hin => ?_]
                    · exact hd'
                    · obtain ⟨r, hr', hbr⟩ := List.mem_flatMap.1 hin
                      obtain ⟨p1, p2⟩ := mapO_some _ _ hl'
                      obtain ⟨j, hj⟩ := List.getElem?_of_mem hr'
                      have hlt : j < l'.length := by rw [p1]; exact (List.getElem?_eq_some_iff.1 hj).1
                      obtain ⟨y, hy, hpy⟩ := p2 j _ (List.getElem?_eq_getElem hlt)
                      rw [hj] at hy; cases hy
                      obtain ⟨y, hy⟩ := purify_named deep r _ hpy d hbr
                      rw [hfree] at hy; cases hy
                  obtain ⟨x1, x2⟩ := decs_rel _ _ _ hxs
                  have hllen : l'.length = l.length := (mapO_some _ _ hl').1
                  have hsize : cells.size = n * te.size := by
                    obtain ⟨hfs, _⟩ := hc2
                    have : l.length = n * te.size := by rw [xfill_len _ _ _ hl, rg1, hteok.zsize]
                    omega
                  have hnb : n * te.size ≤ 2 ^ 24 := Nat.le_of_ble_eq_true hbig
                  have hrun : (Instr.buildSlice t n (ps.map fun x => (x.1, a.eval x.2))).run P w = .ok (.slice (some ⟨w.heap.size, 0, none⟩) n n) (w.alloc (.cells cells el)) := by
                    have hsz' := hteok.size (w := w)
                    have hg : ¬ (n * te.size > 2 ^ 24) := by omega
                    have hzr : (zeroValue el).run P w = .ok zv w := by simp [zeroValue, run_typeInfo w hi, hzv]
                    have hpl : (ps.map fun x => (x.1, a.eval x.2)).toList = ps.toList.map fun x => (x.1, a.eval x.2) := by simp
                    by_cases h0 : n * te.size = 0
                    · have hmm : madeCells zv.cells (n * te.size) = (Array.range (n * te.size)).map ((#[] : Array Value)[· % (#[] : Array Value).size]!) := by rw [h0]; simp [madeCells]
                      rw [hmm] at hc1
                      simp only [Instr.buildSlice, Sem.run_bind, run_underlying hdd, Result.andThen_ok, hsz', show ¬ (0 > 2 ^ 24) by omega, if_false, h0, if_true, Sem.run_pure, hpl]
                      rw [h0] at hc1
                      have hc1' : Instr.fill (fun i => some (i * te.size, te.size)) (Array.map (fun x => (#[] : Array Value)[x % (#[] : Array Value).size]!) (Array.range 0)) (List.map (fun x => (x.1, a.eval x.2)) ps.toList) = some cells := hc1
                      rw [hc1']
                      simp only [newRow, Sem.run_bind, run_newObj, Result.andThen_ok, Sem.run_pure]
                      rfl
                    · simp only [Instr.buildSlice, Sem.run_bind, run_underlying hdd, Result.andThen_ok, hsz', hg, if_false, h0, Sem.run_pure, hpl, hzr]
                      have hc1' : Instr.fill (fun i => some (i * te.size, te.size)) (Array.map (fun x => zv.cells[x % zv.cells.size]!) (Array.range (n * te.size))) (List.map (fun x => (x.1, a.eval x.2)) ps.toList) = some cells := hc1
                      rw [hc1']
                      simp only [newRow, Sem.run_bind, run_newObj, Result.andThen_ok, Sem.run_pure]
                      rfl
                  have hmade : Made P B M ⟨cx.φ, St1⟩ (ups1 (mapL (fun b => (b, Blk.dead)) (l.flatMap (named s.m deep))) s'.m) w d c xs (Instr.buildSlice t n (ps.map fun x => (x.1, a.eval x.2))) :=
                    made_new i1 hd1 w ⟨rfl, Fr.refl _ _⟩ (by rw [x1]; exact hrun) (cap := n) ⟨by omega, by
                      have hp : 0 < te.size := by rw [hteok.code c hc]; exact EncLaws.pos c
                      have := Nat.le_trans (Nat.le_mul_of_pos_right n hp) hnb
                      omega⟩ (by rw [hsize, hszc]) (fun i' j x r hx hrr => by
                      obtain ⟨_, r0, g1, g2⟩ := x2 i' j x r hx hrr
                      have hq : i' * te.size + j < l.length := by rw [← hllen]; exact (List.getElem?_eq_some_iff.1 g1).1
                      obtain ⟨u, hu, hrel⟩ := hc2.get (List.getElem?_eq_getElem hq)
                      rw [hszc] at hu
                      exact ⟨u, hu, RVal.mono (fun _ _ h => by cases h) (Le.refl _) (g2 _ _ _ (f1 _ u _ r0 (List.getElem?_eq_getElem hq) g1 hrel))⟩)
                  exact ⟨St1, e1, hmade⟩
                split at h
                · refine ⟨_, h, fun B M s' hag cx a w hr next Q hn => ?_⟩
                  obtain ⟨St1, e1, hmade⟩ := main B M s' cx a w hag.1 hag.2.1 (hag.2.2 (d, .dead) (by rw [app_eq]; simp)) hr
                  obtain ⟨cx', v, w', m1, m2, m3, m4, m5⟩ := made_content hmade
                  refine wp_run_value (v := v) (w' := w') ?_ (hn cx' v w' (e1.trans m2) m3 m4 ?_)
                  · simp only [execOp, Sem.run_bind, m1, Result.andThen_ok, Sem.run_pure]
                  · rw [ups1_app]; exact m5
                · refine ⟨_, h, fun B M s' hag cx a w hr next Q hn => ?_⟩
                  obtain ⟨St1, e1, hmade⟩ := main B M s' cx a w hag.1 hag.2.1 (hag.2.2 (d, .rows c xs) (by rw [app_eq]; simp)) hr
                  obtain ⟨cx', v, w', m1, m2, m3, m4, m5⟩ := hmade
                  refine wp_run_value (v := v) (w' := w') ?_ (hn cx' v w' (e1.trans m2) m3 m4 ?_)
                  · simp only [execOp, Sem.run_bind, m1, Result.andThen_ok, Sem.run_pure]
                  · rw [ups1_app]; exact m5
              · cases h
            · cases h
          · cases h
        · cases h
      · cases h
    · cases h
  · cases h
end
end Go.SX

/- Stores, sound; and all operations together. No statement of the seat is proved here. -/
namespace Go.SX
section
variable {S : Sg} [Enc S] [EncLaws S] {P : Program} {E : Env S} {N B : Nat} {M : Nat → Prop} {s s' : AS S} {gd : List (Nat × Bool)} {o : Oper} {k : Eff S → Ans S} {out : Out S}

omit [Enc S] [EncLaws S] in
theorem wp_run_skip {a : Act} {w w' : World} {next : Act → World → Prop} {Q : Exit → Act → World → Prop} (he : (execOp a.eval o).run P w = .ok .skip w') (hn : next (a.put o.dst undef) w') : o.wp P a w next Q := by
  unfold Oper.wp; rw [he]; exact hn

theorem store_cell {φ : Phi} {St : Stb} {cells : Array Value} {l : List (RV S)} (h : ArrRel φ St cells l) (ho : ∀ r ∈ l, oneC r = true) : ∀ v ∈ cells.toList, v.oneCell' = true := fun v hv => by
  obtain ⟨j, hj⟩ := List.getElem?_of_mem hv
  have hj' : cells[j]? = some v := by simpa using hj
  have hlt : j < l.length := by rw [← h.1]; exact (Array.getElem?_eq_some_iff.1 hj').1
  exact oneC_cell (h.2 j v _ hj' (List.getElem?_eq_getElem hlt)) (ho _ (List.getElem_mem hlt))

theorem xstore_fine (hE : EnvTy P E) {dst : Option Nat} {t type : Nat} {x y : Operand} {pos : String} {after : Array Edge} {guard : Option (Nat × Bool)}
    (h : xstore E t (ev s x) (ev s y) s k = some out) : Fine P N ⟨dst, .store t x y, type, pos, after, guard⟩ s k out := by
  unfold xstore at h
  split at h
  · cases h
  · rename_i ti hti
    rw [force_eq] at h
    have hti := hE.ty _ _ hti
    split at h
    · cases h
    · rename_i hj
      split at h
      · cases h
      · rename_i hcells
        rw [sel_eq] at hcells
        split at hcells
        · rename_i hsz
          have hsz := Nat.eq_of_beq_eq_true hsz
          rw [cnt_eq] at hsz
          rw [allL_eq, List.all_eq_true] at hcells
          -- what a store writes
          have hval : ∀ (B : Nat) (M : Nat → Prop) (s' : AS S) (cx : Cx) (a : Act) (w : World), SameT (opT ⟨dst, .store t x y, type, pos, after, guard⟩) s s' → Rel N B M cx s' a w → cx.rel (a.eval x) (ev s x) ∧ ArrRel cx.φ cx.St (a.eval y).cells (ev s y).cells := fun B M s' cx a w hs hr => by
            have h1 := ev_rel hr x
            have h2 := ev_rel hr y
            rw [ev_same hs (by simp [Op.operands])] at h1 h2
            exact ⟨h1, cells_rel h2 (fun e => hj e)⟩
          have hrun : ∀ (w : World) (a : Act) (kk off : Nat) (arr : Array Value) (ty : TypeId), w.heap[kk]? = some (.cells arr ty (0, 0)) → a.eval x = .pointer (some ⟨kk, off, none⟩) → (a.eval y).cells.size = ti.size → off + ti.size ≤ arr.size → (∀ v ∈ (a.eval y).cells.toList, v.oneCell' = true) →
              ∃ arr' : Array Value, (execOp a.eval ⟨dst, .store t x y, type, pos, after, guard⟩).run P w = .ok .skip (w.setRow kk arr') ∧ arr'.size = arr.size ∧ ∀ j : Nat, arr'[j]? = if off ≤ j ∧ j < off + ti.size then (a.eval y).cells[j - off]? else arr[j]? := fun w a kk off arr ty hk hx hs hle h1 => by
            obtain ⟨arr', g1, g2, g3⟩ := run_storeCells_at (P := P) ty off (a.eval y).cells.toList 0 arr w hk (by simpa [hs] using hle) h1
            refine ⟨arr', ?_, g2, fun j => ?_⟩
            · simp only [execOp, Instr.storeAt, Instr.sureAddr, hx, Sem.run_bind, Sem.run_pure, Result.andThen_ok, storeVar, hti.size, hs, ne_eq, not_true_eq_false, if_false, g1]
            · have := g3 j
              simp only [Nat.add_zero, Array.length_toList, hs, Array.getElem?_toList] at this
              exact this
          split at h
          · rename_i b e sz q hx
            split at h
            · rename_i l hm
              split at h
              · rename_i l' hl'
                refine ⟨_, h, fun B M s' hag cx a w hr next Q hn => ?_⟩
                have hm' : s'.m b = some (.cells l) := (hag.2.1 b (by simp)).trans hm
                obtain ⟨v1, v2⟩ := hval B M s' cx a w hag.1 hr
                rw [hx] at v1
                obtain ⟨kk, ln, cp, hxv, hl⟩ := v1.inv_ptr
                obtain ⟨k', arr, ty, c1, c2, c3, c4⟩ := hr.inv.blk _ _ _ hm' hl
                cases c1
                obtain ⟨p1, p2, p3⟩ := putN_some l _ _ l' hl'
                rw [hsz] at p2 p3
                have hadd : Nat.add (Nat.mul e sz) q = e * sz + q := rfl
                rw [hadd] at p2 p3
                by_cases hz : ti.size = 0
                · have hl0 : (ev s y).cells = [] := List.eq_nil_of_length_eq_zero (by omega)
                  have hll : l' = l := List.ext_getElem? fun j => by rw [p3 j, if_neg (by omega)]
                  subst hll
                  refine wp_run_skip (w' := w) ?_ (hn cx undef w (Cx.ext.refl _ _ _) (Fr.refl _ _) (.tuple rfl fun j u r hu => by simp at hu) ?_)
                  · have hs0 : (a.eval y).cells = #[] := Array.eq_empty_of_size_eq_zero (by rw [v2.1, hl0]; rfl)
                    simp only [execOp, Instr.storeAt, Instr.sureAddr, hxv, Sem.run_bind, Sem.run_pure, Result.andThen_ok, storeVar, hti.size, hs0, hz, List.size_toArray, List.length_nil, ne_eq, not_true_eq_false, if_false, storeCells]
                  · have : upd s'.m b (some (.cells l')) = s'.m := by
                      funext c
                      by_cases e : c = b
                      · subst e; rw [upd_same, hm']
                      · rw [upd_other _ _ e]
                    show Inv B M cx (upd s'.m b (some (.cells l'))) w
                    rw [this]; exact hr.inv
                · have p2 : e * sz + q + ti.size ≤ l.length := by
                    rcases p2 with p2 | p2
                    · rw [p2] at hsz; simp at hsz; omega
                    · exact p2
                  obtain ⟨arr', r1, r2, r3⟩ := hrun w a kk (e * sz + q) arr ty c2 hxv (by rw [v2.1, hsz]) (by omega) (store_cell v2 hcells)
                  obtain ⟨i1, f1⟩ := hr.inv.set hm' rfl hl rfl arr' (x' := .cells l') ⟨kk, arr', ty, rfl, setRow_heap w kk arr _ ty _ c2, by omega, fun j r hj' => by
                    rw [p3 j] at hj'
                    rw [r3 j]
                    split at hj'
                    · rename_i hc
                      rw [if_pos hc]
                      exact v2.get hj'
                    · rename_i hc
                      rw [if_neg hc]
                      exact c4 j r hj'⟩
                  exact wp_run_skip r1 (hn cx undef _ (Cx.ext.refl _ _ _) f1 (.tuple rfl fun j u r hu => by simp at hu) i1)
              · cases h
            · rename_i c xs hm
              obtain ⟨hsz2, h⟩ := cond_none h
              rw [sel_eq] at hsz2
              split at hsz2
              · cases hsz2
              rename_i hz0
              have hz0 : ti.size ≠ 0 := fun e => hz0 (by rw [e]; rfl)
              have hsz2 := Nat.eq_of_beq_eq_true hsz2
              split at h
              · cases h
              · rename_i cs hcs
                obtain ⟨z, hz, h⟩ := bindo_some h
                split at h
                · rename_i l' hl'
                  split at h
                  · rename_i z' hz'
                    split at h
                    · cases h
                    · rename_i hnb
                      refine ⟨_, h, fun B M s' hag cx a w hr next Q hn => ?_⟩
                      have hnb : b ∉ (ev s y).cells.flatMap (named s.m deep) := fun hin => by
                        rw [(memN_iff _ _).2 hin] at hnb; cases hnb
                      have hm' : s'.m b = some (.rows c xs) := (hag.2.1 b (by simp)).trans hm
                      obtain ⟨v1, v2⟩ := hval B M s' cx a w hag.1 hr
                      rw [hx] at v1
                      obtain ⟨kk, ln, cp, hxv, hl⟩ := v1.inv_ptr
                      obtain ⟨q1, q2⟩ := named_purifyL (m := s.m) (m' := s'.m) deep (ev s y).cells (fun b hb => hag.2.1 b (by simp [hb]))
                      rw [hcs] at q1
                      obtain ⟨St1, i1, e1, f1⟩ := purify_frozen hr.inv q1
                      rw [q2] at i1
                      have hm1 : ups1 (mapL (fun b => (b, Blk.dead)) ((ev s y).cells.flatMap (named s.m deep))) s'.m b = some (.rows c xs) := by rw [deads_other _ _ _ hnb]; exact hm'
                      obtain ⟨g1, g2⟩ := i1.blk _ _ _ hm1 hl
                      simp only at g1 g2
                      obtain ⟨arr, ty, c2, c3, c4, c5⟩ := g2
                      obtain ⟨p1, p2, p3⟩ := putN_some _ _ _ l' hl'
                      have hcl : cs.length = ti.size := by rw [(mapO_some _ _ hcs).1, hsz]
                      obtain ⟨d1, d2⟩ := EncLaws.dec c _ _ hz'
                      have hes := EncLaws.size c z
                      have hpos := EncLaws.pos c
                      have he : e < xs.length := (List.getElem?_eq_some_iff.1 hz).1
                      have hrow : (e + 1) * Enc.size c ≤ arr.size := by rw [c3]; exact Nat.mul_le_mul_right _ (by omega)
                      rw [Nat.add_mul, Nat.one_mul] at hrow
                      have hq : q + ti.size ≤ Enc.size c := by
                        rw [hcl, hes] at p2
                        rcases p2 with p2 | p2
                        · rw [p2] at hcl; exact absurd hcl.symm hz0
                        · exact p2
                      obtain ⟨arr', r1, r2, r3⟩ := hrun w a kk (e * sz + q) arr ty c2 hxv (by rw [v2.1, hsz]) (by rw [hsz2]; omega) (store_cell v2 hcells)
                      have hrel : ∀ (i j : Nat) (x : S.den c) (r : RV S), (xs.set e z')[i]? = some x → (Enc.enc c x)[j]? = some r → ∃ u, arr'[i * Enc.size c + j]? = some u ∧ RVal cx.φ St1 u r := fun i j y' r hi hj' => by
                        have hjs : j < Enc.size c := enc_lt hj'
                        rw [r3 (i * Enc.size c + j)]
                        by_cases hie : i = e
                        · subst hie
                          rw [List.getElem?_set_self he] at hi
                          cases hi
                          have hjl : j < l'.length := by rw [d1]; exact (List.getElem?_eq_some_iff.1 hj').1
                          have hp3 := p3 j
                          rw [List.getElem?_eq_getElem hjl] at hp3
                          rw [hsz2]
                          split at hp3
                          · rename_i hc
                            rw [hcl] at hc
                            rw [if_pos (by omega), show i * Enc.size c + j - (i * Enc.size c + q) = j - q by omega]
                            have hlt : j - q < (a.eval y).cells.size := by rw [v2.1, hsz]; omega
                            have hlt2 : j - q < (ev s y).cells.length := by omega
                            have hrel := f1 (j - q) _ _ _ (List.getElem?_eq_getElem hlt2) hp3.symm (v2.2 _ _ _ (Array.getElem?_eq_getElem hlt) (List.getElem?_eq_getElem hlt2))
                            exact ⟨_, Array.getElem?_eq_getElem hlt, RVal.mono (fun _ _ h => by cases h) (Le.refl _) (d2 _ _ _ _ _ _ (List.getElem?_eq_getElem hjl) hj' hrel)⟩
                          · rename_i hc
                            rw [hcl] at hc
                            rw [if_neg (by omega)]
                            obtain ⟨u, hu, hrel⟩ := c5 i j z _ hz hp3.symm
                            exact ⟨u, hu, d2 _ _ _ _ _ _ (List.getElem?_eq_getElem hjl) hj' hrel⟩
                        · rw [List.getElem?_set_ne (Ne.symm hie)] at hi
                          have hout : ¬ (e * sz + q ≤ i * Enc.size c + j ∧ i * Enc.size c + j < e * sz + q + ti.size) := by
                            rw [hsz2]
                            rcases Nat.lt_or_gt_of_ne hie with hlt | hgt
                            · have := Nat.mul_le_mul_right (Enc.size c) (show i + 1 ≤ e by omega)
                              rw [Nat.add_mul, Nat.one_mul] at this
                              omega
                            · have := Nat.mul_le_mul_right (Enc.size c) (show e + 1 ≤ i by omega)
                              rw [Nat.add_mul, Nat.one_mul] at this
                              omega
                          rw [if_neg hout]
                          exact c5 i j y' r hi hj'
                      obtain ⟨i2, f2⟩ := i1.set hm1 rfl hl rfl arr' (x' := .rows c (xs.set e z')) ⟨by rw [List.length_set]; exact g1, arr', ty, setRow_heap w kk arr _ ty _ c2, by rw [r2, c3], by rw [List.length_set]; exact c4, hrel⟩
                      refine wp_run_skip r1 (hn ⟨cx.φ, St1⟩ undef _ e1 f2 (.tuple rfl fun j u r hu => by simp at hu) ?_)
                      rw [ups1_app]; exact i2
                  · cases h
                · cases h
            · cases h
          · cases h
        · cases hcells
end
end Go.SX

/- All operations together. No statement of the seat is proved here. -/
namespace Go.SX
section
variable {S : Sg} [Enc S] [EncLaws S] {P : Program} {E : Env S} {N B : Nat} {M : Nat → Prop} {s s' : AS S} {gd : List (Nat × Bool)} {o : Oper} {k : Eff S → Ans S} {out : Out S}

theorem xone_fine (hE : EnvOk P E) (h : xone E o s k = some out) : Fine P N o s k out := by
  unfold xone at h
  split at h
  · rename_i v rd hp
    rw [force_eq] at h
    exact ⟨_, h, fun B M s' hag => peff_does hE hp hag⟩
  · rename_i hp
    clear hp
    obtain ⟨dst, op, type, pos, after, guard⟩ := o
    unfold xeff at h
    simp only at h
    cases op with
    | alloc e =>
      simp only at h
      split at h
      · rename_i d ti hti
        obtain ⟨hfree, h⟩ := isFree_some h
        exact ⟨_, h, fun B M s' hag => alloc_does hE.toEnvTy rfl hti ((hag.2.2 (d, .cells ti.zero) (by simp)).trans hfree)⟩
      · cases h
    | box e x =>
      simp only at h
      split at h
      · rename_i d
        rw [force_eq] at h
        split at h
        · cases h
        · rename_i hj
          obtain ⟨hfree, h⟩ := isFree_some h
          exact ⟨_, h, fun B M s' hag => box_does rfl (ev_same hag.1 (by simp [Op.operands])) (fun e => hj e) ((hag.2.2 (d, .cells (ev s x).cells) (by simp)).trans hfree)⟩
      · cases h
    | build t ps => exact xbuild_fine hE.toEnvTy h
    | buildSlice t n ps =>
      simp only at h
      split at h
      · exact buildSlice_fine hE.toEnvTy rfl h
      · cases h
    | load t x => exact xload_fine hE.toEnvTy h
    | store t x y => exact xstore_fine hE.toEnvTy h
    | binOp op t x y t' =>
      obtain ⟨e, h1, h2⟩ := xbin_does h
      exact ⟨e, h1, h2⟩
    | makeSlice t l c =>
      simp only at h
      split at h
      · exact makeSlice_fine hE.toEnvTy rfl h
      · cases h
    | slice t x lo hi mx =>
      cases mx with
      | none => exact xslice_fine hE.toEnvTy h
      | some _ => cases h
    | indexAddr t x i => exact xindexAddr_fine hE.toEnvTy h
    | index t x i => exact xindex_fine hE.toEnvTy h
    | call c =>
      simp only [xcallOp] at h
      split at h
      · rename_i b hcal
        split at h
        · rename_i x y t t2 d ha ht
          exact xappend_fine hE.toEnvTy rfl hcal ha ht h
        · cases h
      · rename_i f hcal
        split at h
        · rename_i g caps hx
          exact xcall_fine hE rfl hcal hx h
        · cases h
      · rename_i x name hcal
        split at h
        · rename_i t v hx
          split at h
          · rename_i g hm
            exact xinvoke_fine hE rfl hcal hx hm h
          · cases h
        · cases h
    | _ => cases h
end
end Go.SX

/- One step of a region, guarded or not. No statement of the seat is proved here. -/
namespace Go.SX
section
variable {S : Sg} [Enc S] [EncLaws S] {P : Program} {E : Env S} {N B : Nat} {M : Nat → Prop} {s s' : AS S} {o : Oper} {k : Eff S → Ans S} {out : Out S} {ops : Array Oper}

/-- The state in the middle of a region: what stands under a guard has its guard behind it. -/
structure RRel (N B : Nat) (M : Nat → Prop) (ops : Array Oper) (D : Nat → Prop) (cx : Cx) (s : AS S) (a : Act) (w : World) : Prop where
  rel : Rel N B M cx s a w
  whens : ∀ t g b r, s.t t = .when g b r → (isWhen r = false ∧ gTmps ops.toList ops.toList ≠ []) ∧ ∃ j oj, D j ∧ ops[j]? = some oj ∧ oj.dst = some g ∧ soleW j g 0 ops.toList = true

omit [Enc S] [EncLaws S] in
theorem soleW_spec (j g : Nat) : ∀ (l : List Oper) (i : Nat), soleW j g i l = true → ∀ (q : Nat) (o : Oper), l[q]? = some o → o.dst = some g → i + q = j
  | [], i, _, q, o, hq, _ => by simp at hq
  | p :: r, i, h, q, o, hq, hd => by
    simp only [soleW, sel_eq] at h
    have step : soleW j g (i + 1) r = true → ∀ q', q = q' + 1 → i + q = j := fun h' q' hq' => by
      subst hq'
      have := soleW_spec j g r (i + 1) h' q' o (by simpa using hq) hd
      omega
    split at h
    · rename_i he
      have he := Nat.eq_of_beq_eq_true he
      cases q with
      | zero => omega
      | succ q => exact step h q rfl
    · cases q with
      | zero =>
        simp only [List.getElem?_cons_zero, Option.some.injEq] at hq
        subst hq
        rw [hd] at h
        simp only [sel_eq, Nat.beq_refl, if_true] at h
        cases h
      | succ q =>
        split at h
        · split at h
          · cases h
          · exact step h q rfl
        · exact step h q rfl

omit [Enc S] [EncLaws S] in
theorem put_get (a : Act) (dst : Option Nat) (v : Value) (t : Nat) : (a.put dst v).tmps.size = a.tmps.size ∧ (a.put dst v).defers = a.defers ∧
    ((dst = some t ∧ t < a.tmps.size ∧ (a.put dst v).tmps.getD t undef = v) ∨ (dst = some t ∧ ¬ t < a.tmps.size) ∨ (dst ≠ some t ∧ (a.put dst v).tmps.getD t undef = a.tmps.getD t undef)) := by
  cases dst with
  | none => exact ⟨rfl, rfl, .inr (.inr ⟨by simp, rfl⟩)⟩
  | some d =>
    refine ⟨by simp [Act.put], rfl, ?_⟩
    by_cases e : d = t
    · subst e
      by_cases hlt : d < a.tmps.size
      · exact .inl ⟨rfl, hlt, by simp [Act.put, Array.getD, hlt]⟩
      · exact .inr (.inl ⟨rfl, hlt⟩)
    · refine .inr (.inr ⟨by simpa using e, ?_⟩)
      simp only [Act.put, Array.getD_eq_getD_getElem?]
      rw [Array.getElem?_setIfInBounds_ne e]

omit [EncLaws S] in
theorem TRel.plain {cx : Cx} {a : Act} {v : Value} {r : RV S} (h : isWhen r = false) : TRel cx a v r ↔ cx.rel v r := by
  cases r <;> first | exact Iff.rfl | cases h

omit [EncLaws S] in
theorem put_rel {D : Nat → Prop} {cx cx' : Cx} {a : Act} {w w' : World} {i : Nat} {m' : Nat → Option (Blk S)} {v : Value} {rv : RV S} (h : RRel N B M ops D cx s a w) (hi : ops[i]? = some o) (hD : ¬ D i) (hd : ∀ d, o.dst = some d → d < N)
    (he : cx.le cx') (hinv : Inv B M cx' m' w') (hv : o.dst ≠ none → TRel cx' (a.put o.dst v) v rv)
    (hw : o.dst ≠ none → ∀ g b r, rv = .when g b r → (isWhen r = false ∧ gTmps ops.toList ops.toList ≠ []) ∧ ∃ j oj, D j ∧ ops[j]? = some oj ∧ oj.dst = some g ∧ soleW j g 0 ops.toList = true) :
    RRel N B M ops (fun j => D j ∨ j = i) cx' (vdst o.dst rv { s with m := m' }) (a.put o.dst v) w' := by
  have hgs : ∀ t g b r, s.t t = .when g b r → (a.put o.dst v).tmps.getD g undef = a.tmps.getD g undef := fun t g b r ht => by
    obtain ⟨_, j, oj, h1, h2, h3, h4⟩ := h.whens t g b r ht
    have hne : o.dst ≠ some g := fun e => by
      have := soleW_spec j g _ 0 h4 i o (by simpa using hi) e
      rw [Nat.zero_add] at this
      subst this
      exact hD h1
    obtain ⟨_, _, g1 | g1 | g1⟩ := put_get a o.dst v g
    · exact absurd g1.1 hne
    · exact absurd g1.1 hne
    · exact g1.2
  have hslot : ∀ t, (vdst o.dst rv { s with m := m' }).t t = if o.dst = some t then rv else s.t t := fun t => by
    cases hdst : o.dst with
    | none => simp [vdst]
    | some d =>
      simp only [vdst, Option.some.injEq]
      by_cases e : d = t
      · subst e; rw [upd_same, if_pos rfl]
      · rw [upd_other _ _ (Ne.symm e), if_neg e]
  have hm : (vdst o.dst rv { s with m := m' }).m = m' := by cases o.dst <;> rfl
  refine ⟨{ size := ?_, defers := ?_, tmps := fun t => ?_, inv := by rw [hm]; exact hinv }, fun t g b r ht => ?_⟩
  · rw [(put_get a o.dst v 0).1]; exact h.rel.size
  · rw [(put_get a o.dst v 0).2.1]; exact h.rel.defers
  · rw [hslot t]
    obtain ⟨_, _, g1 | g1 | g1⟩ := put_get a o.dst v t
    · rw [if_pos g1.1, g1.2.2]
      exact hv (by rw [g1.1]; simp)
    · exact absurd (by rw [h.rel.size]; exact hd t g1.1) g1.2
    · rw [if_neg g1.1, g1.2]
      have old := h.rel.tmps t
      cases hst : s.t t with
      | when g b r =>
        rw [hst] at old
        obtain ⟨⟨hr, _⟩, _⟩ := h.whens t g b r hst
        have hg := hgs t g b r hst
        refine ⟨fun hb => ?_, fun hb => ?_⟩
        · rw [hg] at hb
          exact (TRel.plain hr).2 (Cx.rel.mono he ((TRel.plain hr).1 (old.1 hb)))
        · rw [hg] at hb
          exact old.2 hb
      | _ =>
        rw [hst] at old
        exact Cx.rel.mono he old
  · rw [hslot t] at ht
    split at ht
    · rename_i hdst
      obtain ⟨h1, j, oj, h2, h3⟩ := hw (by rw [hdst]; simp) g b r ht
      exact ⟨h1, j, oj, .inl h2, h3⟩
    · obtain ⟨h1, j, oj, h2, h3⟩ := h.whens t g b r ht
      exact ⟨h1, j, oj, .inl h2, h3⟩

/-- An operation has this effect wherever a state looks like this one to it. -/
def StepOk (P : Program) (N B : Nat) (M : Nat → Prop) (ops : Array Oper) (i : Nat) (o : Oper) (s : AS S) (e : Eff S) : Prop :=
  ∀ (s' : AS S) (D : Nat → Prop), (∀ t ∈ tmpsOf ops.toList o, s'.t t = s.t t) → (∀ b ∈ e.rd, s'.m b = s.m b) → (∀ x ∈ e.ups, s'.m x.1 = s.m x.1) → ¬ D i → (∀ j g b, gOf ops.toList o = some (j, g, b) → D j) →
    ∀ (cx : Cx) (a : Act) (w : World), RRel N B M ops D cx s' a w → ∀ (K : Act → World → Prop) (Q : Exit → Act → World → Prop),
      (∀ cx' a' w', Cx.ext B M cx cx' → FrB B M w w' → RRel N B M ops (fun j => D j ∨ j = i) cx' (e.app o.dst s') a' w' → K a' w') → wpOp P ops Q i K a w

omit [Enc S] [EncLaws S] in
theorem guardTmp_eq (j : Nat) : guardTmp ops.toList j = (ops[j]?).bind (·.dst) := by
  unfold guardTmp
  rw [getN_eq, Array.getElem?_toList]
  cases ops[j]? <;> rfl

omit [Enc S] [EncLaws S] in
theorem wanted_iff {j g : Nat} {b : Bool} (hg : o.guard = some (j, b)) (ht : guardTmp ops.toList j = some g) (a : Act) : Region.wanted o (yielded ops a.tmps) = true ↔ a.tmps.getD g undef = .bool b := by
  unfold Region.wanted yielded
  rw [hg]
  simp only
  rw [← guardTmp_eq, ht]
  simp only [Option.bind_some, Array.getD_eq_getD_getElem?, beq_iff_eq]
  cases hx : a.tmps[g]? with
  | none => simp [undef]
  | some v =>
    simp only [Option.getD_some]
    cases v <;> simp

omit [Enc S] [EncLaws S] in
theorem wanted_none {j : Nat} {b : Bool} (hg : o.guard = some (j, b)) (ht : guardTmp ops.toList j = none) (a : Act) : Region.wanted o (yielded ops a.tmps) = false := by
  unfold Region.wanted yielded
  rw [hg]
  simp only
  rw [← guardTmp_eq, ht]
  rfl

omit [EncLaws S] in
theorem decide1_some {need : List Nat} {d : Option Nat} {e : Eff S} (h : decide1 need d e k = some out) : k e = some out := by
  unfold decide1 at h
  split at h
  · exact h
  · split at h
    · exact h
    · split at h
      · rename_i b hb
        rcases cond_some h with ⟨hb', h⟩ | ⟨hb', h⟩
        · subst hb'
          have : ({ e with v := RV.bool true } : Eff S) = e := by rw [← hb]
          rw [this] at h; exact h
        · subst hb'
          have : ({ e with v := RV.bool false } : Eff S) = e := by rw [← hb]
          rw [this] at h; exact h
      · cases h

theorem rel_notwhen {cx : Cx} {v : Value} {r : RV S} (h : cx.rel v r) : isWhen r = false := by cases h <;> rfl

/-- An operation that runs. -/
theorem step_run {i : Nat} {e : Eff S} (hi : ops[i]? = some o) (hN : ∀ d, o.dst = some d → d < N) (hf : ∀ s', AgreeO o e s s' → Does P N B M o s' e)
    (hwant : ∀ (s' : AS S) (cx : Cx) (a : Act) (w : World), (∀ t ∈ tmpsOf ops.toList o, s'.t t = s.t t) → Rel N B M cx s' a w → Region.wanted o (yielded ops a.tmps) = true) : StepOk P N B M ops i o s e := by
  intro s' D ht hrd hups hD hg cx a w hr K Q hK
  unfold wpOp
  rw [hi]
  simp only [hwant s' cx a w ht hr.rel, if_true]
  refine .inl (hf s' ⟨fun t h => ht t (by unfold tmpsOf; rw [app_eq]; exact List.mem_append_left _ h), hrd, hups⟩ cx a w hr.rel K Q fun cx' v w' h1 h2 h3 h4 => ?_)
  exact hK cx' _ w' h1 h2 (put_rel hr hi hD hN h1.le h4 (fun _ => (TRel.plain (rel_notwhen h3)).2 h3) fun _ g b r e => by rw [e] at h3; cases h3)

/-- An operation that is passed over. -/
theorem step_skip {i : Nat} (hi : ops[i]? = some o) (hN : ∀ d, o.dst = some d → d < N)
    (hwant : ∀ (s' : AS S) (cx : Cx) (a : Act) (w : World), (∀ t ∈ tmpsOf ops.toList o, s'.t t = s.t t) → Rel N B M cx s' a w → Region.wanted o (yielded ops a.tmps) = false) : StepOk P N B M ops i o s ⟨.tuple [], [], []⟩ := by
  intro s' D ht hrd hups hD hg cx a w hr K Q hK
  unfold wpOp
  rw [hi]
  simp only [hwant s' cx a w ht hr.rel, Bool.false_eq_true, if_false]
  have hu : cx.rel undef (.tuple [] : RV S) := .tuple rfl fun j u r hu => by simp at hu
  exact hK cx _ w (Cx.ext.refl _ _ _) (Fr.refl _ _) (put_rel hr hi hD hN (Cx.le.refl _) hr.rel.inv (fun _ => hu) fun _ g b r e => by cases e)

omit [Enc S] [EncLaws S] in
theorem gOf_some {j g : Nat} {b : Bool} (h : gOf ops.toList o = some (j, g, b)) : o.guard = some (j, b) ∧ guardTmp ops.toList j = some g := by
  unfold gOf at h
  split at h
  · cases h
  · rename_i j' b' hg
    split at h
    · rename_i g' hgt
      cases h
      exact ⟨hg, hgt⟩
    · cases h

omit [Enc S] [EncLaws S] in
theorem guardsOf_mem {n j g : Nat} {b : Bool} (h : gOf ops.toList o = some (j, g, b)) : g ∈ guardsOf ops.toList (n + 1) o := by
  obtain ⟨h1, h2⟩ := gOf_some h
  unfold guardTmp at h2
  split at h2
  · rename_i oj hoj
    simp only [guardsOf, h1, hoj, h2]
    exact List.mem_cons_self
  · cases h2

omit [EncLaws S] in
/-- The guards behind a guard hold, if it does. -/
theorem chain_ok {cx : Cx} {a : Act} {w : World} (hr : Rel N B M cx s a w) : ∀ (n j : Nat) (b : Bool), (∀ g, guardTmp ops.toList j = some g → a.tmps.getD g undef = .bool b) → GdOK a (chain ops.toList s n j b)
  | 0, j, b, _ => fun x hx => by simp [chain] at hx
  | n + 1, j, b, h => fun x hx => by
    simp only [chain] at hx
    split at hx
    · simp at hx
    · rename_i oj hoj
      split at hx
      · simp at hx
      · rename_i g hg
        have hgt : guardTmp ops.toList j = some g := by unfold guardTmp; rw [hoj]; exact hg
        have hb := h g hgt
        rcases List.mem_cons.1 hx with rfl | hx
        · exact hb
        · split at hx
          · rename_i q u r j' h' c hs hgo
            rw [sel_eq] at hx
            split at hx
            · rename_i he
              have he := Nat.eq_of_beq_eq_true he
              subst he
              refine chain_ok hr n j' u (fun g' hg' => ?_) x hx
              obtain ⟨_, h2⟩ := gOf_some hgo
              rw [h2] at hg'; cases hg'
              have hrel := hr.tmps g
              rw [hs] at hrel
              refine Classical.byContradiction fun hne => ?_
              have := hrel.2 hne
              rw [hb] at this
              cases this
            · simp at hx
          · simp at hx

omit [Enc S] [EncLaws S] in
theorem chain_same : ∀ (n j : Nat) (b : Bool), (∀ g, guardTmp ops.toList j = some g → s'.t g = s.t g) → (∀ oj, getN ops.toList j = some oj → ∀ g ∈ guardsOf ops.toList n oj, s'.t g = s.t g) → chain ops.toList s' n j b = chain ops.toList s n j b
  | 0, j, b, _, _ => rfl
  | n + 1, j, b, h0, h => by
    simp only [chain]
    cases hoj : getN ops.toList j with
    | none => rfl
    | some oj =>
      simp only
      cases hg : oj.dst with
      | none => rfl
      | some g =>
        simp only
        have hgt : guardTmp ops.toList j = some g := by unfold guardTmp; rw [hoj]; exact hg
        rw [h0 g hgt]
        congr 1
        split
        · rename_i q u r j' h' c hs hgo
          obtain ⟨e1, e2⟩ := gOf_some hgo
          have hin := h oj hoj
          have e2' := e2
          unfold guardTmp at e2'
          split at e2'
          · rename_i oj' hoj'
            have hlist : guardsOf ops.toList (n + 1) oj = h' :: guardsOf ops.toList n oj' := by simp only [guardsOf, e1, hoj', e2']
            rw [hlist] at hin
            rw [chain_same n j' u (fun g' hg' => by rw [e2] at hg'; cases hg'; exact hin _ List.mem_cons_self) (fun oj2 h2 g' hg' => by
              rw [hoj'] at h2; cases h2
              exact hin g' (List.mem_cons_of_mem _ hg'))]
          · cases e2'
        · rfl

omit [Enc S] [EncLaws S] in
theorem gTmps_mem {all : List Oper} {j g : Nat} {b : Bool} (hg : gOf all o = some (j, g, b)) : ∀ L : List Oper, o ∈ L → (j, g) ∈ gTmps all L
  | [], h => by simp at h
  | p :: r, h => by
    simp only [gTmps]
    rcases List.mem_cons.1 h with rfl | h
    · unfold gOf at hg
      split at hg
      · cases hg
      · rename_i j' b' hgd
        split at hg
        · rename_i g' hgt
          cases hg
          simp only [hgd, hgt]
          exact List.mem_cons_self
        · cases hg
    · have := gTmps_mem hg r h
      split
      · split
        · exact List.mem_cons_of_mem _ this
        · exact this
      · exact this

omit [Enc S] [EncLaws S] in
theorem gTmps_ne {i j g : Nat} {b : Bool} (hi : ops[i]? = some o) (hg : gOf ops.toList o = some (j, g, b)) : gTmps ops.toList ops.toList ≠ [] := fun e => by
  have := gTmps_mem hg ops.toList (by simpa using Array.mem_of_getElem? hi)
  rw [e] at this
  simp at this

theorem xstep_fine (hE : EnvOk P E) {need : List Nat} {i : Nat} (hi : ops[i]? = some o) (hN : ∀ d, o.dst = some d → d < N) (hsole : ∀ j g b, gOf ops.toList o = some (j, g, b) → j < i ∧ soleW j g 0 ops.toList = true)
    (h : xstep E ops.toList need o s k = some out) : ∃ e, k e = some out ∧ ∀ (B : Nat) (M : Nat → Prop), StepOk P N B M ops i o s e := by
  unfold xstep at h
  split at h
  · rename_i hg
    split at h
    · rename_i hgd
      obtain ⟨e, h1, h2⟩ := xone_fine (N := N) hE h
      exact ⟨e, decide1_some h1, fun B M => step_run hi hN (h2 B M) fun s' cx a w _ _ => by unfold Region.wanted; rw [hgd]⟩
    · rename_i jb hgd
      obtain ⟨j, b⟩ := jb
      refine ⟨_, h, fun B M => step_skip hi hN fun s' cx a w _ _ => wanted_none hgd ?_ a⟩
      unfold gOf at hg
      rw [hgd] at hg
      simp only at hg
      split at hg
      · cases hg
      · assumption
  · rename_i j g b hg
    obtain ⟨hgd, hgt⟩ := gOf_some hg
    obtain ⟨hji, hsl⟩ := hsole j g b hg
    have hgin : g ∈ tmpsOf ops.toList o := by unfold tmpsOf; rw [app_eq]; exact List.mem_append_right _ (guardsOf_mem hg)
    have hval : ∀ (B : Nat) (M : Nat → Prop) (s' : AS S) (cx : Cx) (a : Act) (w : World), (∀ t ∈ tmpsOf ops.toList o, s'.t t = s.t t) → Rel N B M cx s' a w → TRel cx a (a.tmps.getD g undef) (s.t g) := fun B M s' cx a w ht hr => by
      rw [← ht g hgin]; exact hr.tmps g
    split at h
    · rename_i hk
      have hsg : s.t g = .bool b := by
        unfold gkind at hk
        split at hk
        · rename_i q _ hs
          split at hk
          · exact hs
          · exact hs
          · cases hk
        all_goals cases hk
      obtain ⟨e, h1, h2⟩ := xone_fine (N := N) hE h
      refine ⟨e, decide1_some h1, fun B M => step_run hi hN (h2 B M) fun s' cx a w ht hr => (wanted_iff hgd hgt a).2 ?_⟩
      have := hval B M s' cx a w ht hr
      rw [hsg] at this
      exact RVal.inv_bool this
    · rename_i hk
      refine ⟨_, h, fun B M => step_skip hi hN fun s' cx a w ht hr => ?_⟩
      have hv := hval B M s' cx a w ht hr
      have hcase : (∃ q, s.t g = .bool q ∧ q ≠ b) ∨ s.t g = .tuple [] := by
        cases hs : s.t g with
        | bool q =>
          rw [hs] at hk
          unfold gkind at hk
          cases hm : memN g need with
          | false => rw [hm] at hk; cases hk
          | true =>
            rw [hm] at hk
            refine .inl ⟨q, rfl, fun e => ?_⟩
            subst e
            cases q <;> cases hk
        | tuple l =>
          cases l with
          | nil => exact .inr rfl
          | cons x r =>
            rw [hs] at hk
            unfold gkind at hk
            cases hm : memN g need <;> rw [hm] at hk <;> cases hk
        | when g' b' r' =>
          rw [hs] at hk
          unfold gkind at hk
          cases hm : memN g need <;> rw [hm] at hk <;> cases r' <;> cases hk
        | _ =>
          rw [hs] at hk
          unfold gkind at hk
          cases hm : memN g need <;> rw [hm] at hk <;> cases hk
      have hne : a.tmps.getD g undef ≠ .bool b := by
        rcases hcase with ⟨q, hs, hq⟩ | hs
        · rw [hs] at hv
          rw [RVal.inv_bool hv]
          intro e
          cases e
          exact hq rfl
        · rw [hs] at hv
          obtain ⟨arr, he, _⟩ := RVal.inv_tuple hv
          rw [he]
          intro e; cases e
      cases hw : Region.wanted o (yielded ops a.tmps) with
      | false => rfl
      | true => exact absurd ((wanted_iff hgd hgt a).1 hw) hne
    · rename_i hk
      split at h
      · rename_i v rd hp
        rw [force_eq, sel_eq] at h
        split at h
        · cases h
        · rename_i hnw
          have hnw : isWhen v = false := by simpa using hnw
          refine ⟨_, h, fun B M s' D ht hrd hups hD hgD cx a w hr K Q hK => ?_⟩
          have hdj : D j := hgD j g b hg
          obtain ⟨oj, hoj, hojd⟩ : ∃ oj, ops[j]? = some oj ∧ oj.dst = some g := by
            rw [guardTmp_eq] at hgt
            exact Option.bind_eq_some_iff.1 hgt
          have hne : o.dst ≠ some g := fun e => by
            have := soleW_spec j g _ 0 hsl i o (by simpa using hi) e
            omega
          have hwhen : ∀ g' b' r', RV.when g b v = .when g' b' r' → (isWhen r' = false ∧ gTmps ops.toList ops.toList ≠ []) ∧ ∃ j oj, D j ∧ ops[j]? = some oj ∧ oj.dst = some g' ∧ soleW j g' 0 ops.toList = true := fun g' b' r' e => by
            cases e; exact ⟨⟨hnw, gTmps_ne hi hg⟩, j, oj, hdj, hoj, hojd, hsl⟩
          have hput : ∀ v', (a.put o.dst v').tmps.getD g undef = a.tmps.getD g undef := fun v' => by
            obtain ⟨_, _, g1 | g1 | g1⟩ := put_get a o.dst v' g
            · exact absurd g1.1 hne
            · exact absurd g1.1 hne
            · exact g1.2
          unfold wpOp
          rw [hi]
          simp only
          by_cases hw : Region.wanted o (yielded ops a.tmps) = true
          · rw [if_pos hw]
            have hb := (wanted_iff hgd hgt a).1 hw
            have hgd' : GdOK a (chain ops.toList s' deep j b) := chain_ok hr.rel deep j b fun g' hg' => by rw [hgt] at hg'; cases hg'; exact hb
            have hcs : chain ops.toList s' deep j b = chain ops.toList s deep j b := chain_same deep j b (fun g' hg' => by rw [hgt] at hg'; cases hg'; exact ht g hgin) (fun oj' ho' g' hg' => ht g' (by
              unfold tmpsOf
              rw [app_eq]
              refine List.mem_append_right _ ?_
              have : getN ops.toList j = some oj := by rw [getN_eq]; simpa using hoj
              rw [this] at ho'; cases ho'
              show g' ∈ guardsOf ops.toList (deep + 1) o
              simp only [guardsOf, hgd, this, hojd]
              exact List.mem_cons_of_mem _ hg'))
            rw [hcs] at hgd'
            have hp' := peff_same hp (s' := s') (fun t h => ht t (by unfold tmpsOf; rw [app_eq]; exact List.mem_append_left _ h)) hrd
            refine .inl (peff_wp hE hr.rel hgd' hp' fun x w' hx hf => ?_)
            refine hK cx _ w' (Cx.ext.refl _ _ _) hf.toB (put_rel hr hi hD hN (Cx.le.refl _) (hr.rel.inv.fr0 hf) (fun _ => ⟨fun _ => (TRel.plain hnw).2 hx, fun hn => ?_⟩) fun _ g' b' r' e => hwhen g' b' r' e)
            rw [hput] at hn
            exact absurd hb hn
          · rw [if_neg hw]
            refine hK cx _ w (Cx.ext.refl _ _ _) (Fr.refl _ _) (put_rel hr hi hD hN (Cx.le.refl _) hr.rel.inv (fun _ => ⟨fun hb => ?_, fun _ => rfl⟩) fun _ g' b' r' e => hwhen g' b' r' e)
            rw [hput] at hb
            exact absurd ((wanted_iff hgd hgt a).2 hb) hw
      · cases h
    · cases h
end
end Go.SX

/- A region's operations in any order that the region allows. No statement of the seat is proved here. -/
namespace Go.SX
section
variable {S : Sg}

/-- What some of a list of operations, in the text's order, make of a state. -/
def foldOn (D : Nat → Bool) : Nat → List (Oper × Eff S) → AS S → AS S
  | _, [], s => s
  | i, (o, e) :: r, s => foldOn D (i + 1) r (if D i = true then e.app o.dst s else s)

theorem app_t (e : Eff S) (d : Option Nat) (s : AS S) (x : Nat) : (e.app d s).t x = if d = some x then e.v else s.t x := by
  cases d with
  | none => simp [Eff.app, vdst]
  | some k =>
    simp only [Eff.app, vdst, Option.some.injEq]
    by_cases h : k = x
    · subst h; rw [upd_same, if_pos rfl]
    · rw [upd_other _ _ (Ne.symm h), if_neg h]

theorem app_m (e : Eff S) (d : Option Nat) (s : AS S) : (e.app d s).m = ups1 e.ups s.m := by cases d <;> rfl

theorem ups1_other : ∀ (l : List (Nat × Blk S)) (m : Nat → Option (Blk S)) (b : Nat), b ∉ l.map (·.1) → ups1 l m b = m b
  | [], _, _, _ => rfl
  | (c, x) :: r, m, b, h => by
    simp only [List.map_cons, List.mem_cons, not_or] at h
    simp only [ups1]
    rw [ups1_other r _ b h.2, upd_other _ _ h.1]

theorem ups1_indep : ∀ (l : List (Nat × Blk S)) (m m' : Nat → Option (Blk S)) (b : Nat), b ∈ l.map (·.1) → ups1 l m b = ups1 l m' b
  | [], _, _, _, h => by simp at h
  | (c, x) :: r, m, m', b, h => by
    simp only [ups1]
    by_cases hr : b ∈ r.map (·.1)
    · exact ups1_indep r _ _ b hr
    · simp only [List.map_cons, List.mem_cons] at h
      have := h.resolve_right hr
      subst this
      rw [ups1_other r _ b hr, ups1_other r _ b hr, upd_same, upd_same]

theorem foldOn_t : ∀ (Z : List (Oper × Eff S)) (i : Nat) (D D' : Nat → Bool) (s s' : AS S) (x : Nat), s.t x = s'.t x → (∀ q o e, Z[q]? = some (o, e) → o.dst = some x → D (i + q) = D' (i + q)) → (foldOn D i Z s).t x = (foldOn D' i Z s').t x
  | [], _, _, _, _, _, _, h, _ => h
  | (o, e) :: r, i, D, D', s, s', x, h, hd => by
    simp only [foldOn]
    refine foldOn_t r (i + 1) D D' _ _ x ?_ fun q o' e' hq ho => ?_
    · by_cases hx : o.dst = some x
      · have := hd 0 o e rfl hx
        simp only [Nat.add_zero] at this
        rw [this]
        split
        · rw [app_t, app_t, if_pos hx, if_pos hx]
        · exact h
      · have h1 : ∀ (c : Prop) [Decidable c] (u : AS S), (if c then e.app o.dst u else u).t x = u.t x := fun c _ u => by
          split
          · rw [app_t, if_neg hx]
          · rfl
        rw [h1, h1]; exact h
    · have := hd (q + 1) o' e' (by simpa using hq) ho
      rwa [show i + (q + 1) = i + 1 + q by omega] at this

theorem foldOn_m : ∀ (Z : List (Oper × Eff S)) (i : Nat) (D D' : Nat → Bool) (s s' : AS S) (b : Nat), s.m b = s'.m b → (∀ q o e, Z[q]? = some (o, e) → b ∈ e.ups.map (·.1) → D (i + q) = D' (i + q)) → (foldOn D i Z s).m b = (foldOn D' i Z s').m b
  | [], _, _, _, _, _, _, h, _ => h
  | (o, e) :: r, i, D, D', s, s', b, h, hd => by
    simp only [foldOn]
    refine foldOn_m r (i + 1) D D' _ _ b ?_ fun q o' e' hq ho => ?_
    · by_cases hx : b ∈ e.ups.map (·.1)
      · have := hd 0 o e rfl hx
        simp only [Nat.add_zero] at this
        rw [this]
        split
        · rw [app_m, app_m]; exact ups1_indep _ _ _ _ hx
        · exact h
      · have h1 : ∀ (c : Prop) [Decidable c] (u : AS S), (if c then e.app o.dst u else u).m b = u.m b := fun c _ u => by
          split
          · rw [app_m, ups1_other _ _ _ hx]
          · rfl
        rw [h1, h1]; exact h
    · have := hd (q + 1) o' e' (by simpa using hq) ho
      rwa [show i + (q + 1) = i + 1 + q by omega] at this

theorem foldOn_t_last : ∀ (Z : List (Oper × Eff S)) (i : Nat) (D : Nat → Bool) (s : AS S) (x q : Nat) (o : Oper) (e : Eff S), Z[q]? = some (o, e) → D (i + q) = true → o.dst = some x →
    (∀ q' o' e', q < q' → Z[q']? = some (o', e') → D (i + q') = true → o'.dst ≠ some x) → (foldOn D i Z s).t x = e.v
  | [], _, _, _, _, q, _, _, hq, _, _, _ => by simp at hq
  | (o1, e1) :: r, i, D, s, x, q, o, e, hq, hD, hx, hl => by
    simp only [foldOn]
    cases q with
    | zero =>
      simp only [List.getElem?_cons_zero, Option.some.injEq, Prod.mk.injEq] at hq
      obtain ⟨rfl, rfl⟩ := hq
      simp only [Nat.add_zero] at hD
      rw [if_pos hD]
      have : ∀ (Z : List (Oper × Eff S)) (i : Nat) (s : AS S), (∀ q' o' e', Z[q']? = some (o', e') → D (i + q') = true → o'.dst ≠ some x) → (foldOn D i Z s).t x = s.t x := fun Z => by
        induction Z with
        | nil => intro i s _; rfl
        | cons p r ih =>
          intro i s h
          obtain ⟨o2, e2⟩ := p
          simp only [foldOn]
          rw [ih (i + 1) _ fun q' o' e' hq' hd => h (q' + 1) o' e' (by simpa using hq') (by rwa [show i + (q' + 1) = i + 1 + q' by omega])]
          split
          · rename_i hd
            rw [app_t, if_neg (h 0 o2 e2 rfl (by simpa using hd))]
          · rfl
      rw [this r (i + 1) _ fun q' o' e' hq' hd => hl (q' + 1) o' e' (by omega) (by simpa using hq') (by rwa [show i + (q' + 1) = i + 1 + q' by omega])]
      rw [app_t, if_pos hx]
    | succ q =>
      exact foldOn_t_last r (i + 1) D _ x q o e (by simpa using hq) (by rwa [show i + (q + 1) = i + 1 + q by omega] at hD) hx
        fun q' o' e' h1 h2 h3 => hl (q' + 1) o' e' (by omega) (by simpa using h2) (by rwa [show i + (q' + 1) = i + 1 + q' by omega])

theorem foldOn_m_last : ∀ (Z : List (Oper × Eff S)) (i : Nat) (D : Nat → Bool) (s : AS S) (b q : Nat) (o : Oper) (e : Eff S) (m : Nat → Option (Blk S)), Z[q]? = some (o, e) → D (i + q) = true → b ∈ e.ups.map (·.1) →
    (∀ q' o' e', q < q' → Z[q']? = some (o', e') → D (i + q') = true → b ∉ e'.ups.map (·.1)) → (foldOn D i Z s).m b = ups1 e.ups m b
  | [], _, _, _, _, q, _, _, _, hq, _, _, _ => by simp at hq
  | (o1, e1) :: r, i, D, s, b, q, o, e, m, hq, hD, hx, hl => by
    simp only [foldOn]
    cases q with
    | zero =>
      simp only [List.getElem?_cons_zero, Option.some.injEq, Prod.mk.injEq] at hq
      obtain ⟨rfl, rfl⟩ := hq
      simp only [Nat.add_zero] at hD
      rw [if_pos hD]
      have : ∀ (Z : List (Oper × Eff S)) (i : Nat) (s : AS S), (∀ q' o' e', Z[q']? = some (o', e') → D (i + q') = true → b ∉ e'.ups.map (·.1)) → (foldOn D i Z s).m b = s.m b := fun Z => by
        induction Z with
        | nil => intro i s _; rfl
        | cons p r ih =>
          intro i s h
          obtain ⟨o2, e2⟩ := p
          simp only [foldOn]
          rw [ih (i + 1) _ fun q' o' e' hq' hd => h (q' + 1) o' e' (by simpa using hq') (by rwa [show i + (q' + 1) = i + 1 + q' by omega])]
          split
          · rename_i hd
            rw [app_m, ups1_other _ _ _ (h 0 o2 e2 rfl (by simpa using hd))]
          · rfl
      rw [this r (i + 1) _ fun q' o' e' hq' hd => hl (q' + 1) o' e' (by omega) (by simpa using hq') (by rwa [show i + (q' + 1) = i + 1 + q' by omega])]
      rw [app_m]
      exact ups1_indep _ _ _ _ hx
    | succ q =>
      exact foldOn_m_last r (i + 1) D _ b q o e m (by simpa using hq) (by rwa [show i + (q + 1) = i + 1 + q by omega] at hD) hx
        fun q' o' e' h1 h2 h3 => hl (q' + 1) o' e' (by omega) (by simpa using h2) (by rwa [show i + (q' + 1) = i + 1 + q' by omega])

theorem AS.ext' {s s' : AS S} (ht : ∀ x, s.t x = s'.t x) (hm : ∀ b, s.m b = s'.m b) : s = s' := by
  cases s; cases s'
  simp only [AS.mk.injEq]
  exact ⟨funext ht, funext hm⟩

/-- One more operation, after all that are done: as if it had stood in its place. -/
theorem foldOn_insert {Z : List (Oper × Eff S)} {D D' : Nat → Bool} {s : AS S} {q : Nat} {o : Oper} {e : Eff S} (hq : Z[q]? = some (o, e)) (h0 : D' q = true) (hD : ∀ j, j ≠ q → D' j = D j)
    (hl : ∀ q' o' e', q < q' → Z[q']? = some (o', e') → D q' = true → (∀ x, o.dst = some x → o'.dst ≠ some x) ∧ ∀ b ∈ e.ups.map (·.1), b ∉ e'.ups.map (·.1)) : foldOn D' 0 Z s = e.app o.dst (foldOn D 0 Z s) := by
  refine AS.ext' (fun x => ?_) fun b => ?_
  · rw [app_t]
    split
    · rename_i hx
      exact foldOn_t_last Z 0 D' s x q o e hq (by simpa using h0) hx fun q' o' e' h1 h2 h3 => by
        rw [Nat.zero_add, hD q' (by omega)] at h3
        exact (hl q' o' e' h1 h2 h3).1 x hx
    · rename_i hx
      refine foldOn_t Z 0 D' D s s x rfl fun q' o' e' h1 h2 => ?_
      rw [Nat.zero_add]
      refine hD q' fun e => ?_
      subst e
      rw [hq] at h1; cases h1
      exact hx h2
  · rw [app_m]
    by_cases hx : b ∈ e.ups.map (·.1)
    · exact foldOn_m_last Z 0 D' s b q o e _ hq (by simpa using h0) hx fun q' o' e' h1 h2 h3 => by
        rw [Nat.zero_add, hD q' (by omega)] at h3
        exact (hl q' o' e' h1 h2 h3).2 b hx
    · rw [ups1_other _ _ _ hx]
      refine foldOn_m Z 0 D' D s s b rfl fun q' o' e' h1 h2 => ?_
      rw [Nat.zero_add]
      refine hD q' fun e => ?_
      subst e
      rw [hq] at h1; cases h1
      exact hx h2

/-! ### what has come before -/
theorem bindsAny_eq (e : Edge) : Region.binds .any e = bindsAny e := by
  unfold Region.binds bindsAny
  cases e.ground <;> rfl

theorem befOf_bit {acc : List Nat} {o : Oper} {k : Nat} (h : (befOf acc o).testBit k = true) : ∃ e ∈ o.after, bindsAny e = true ∧ (k = e.on ∨ ∃ x, getN acc e.on = some x ∧ x.testBit k = true) := by
  have : ∀ (l : List Edge) (s : Nat), (l.foldl (fun s e => sel (bindsAny e) (s ||| 2 ^ e.on ||| (match getN acc e.on with | some x => x | none => 0)) s) s).testBit k = true →
      s.testBit k = true ∨ ∃ e ∈ l, bindsAny e = true ∧ (k = e.on ∨ ∃ x, getN acc e.on = some x ∧ x.testBit k = true) := fun l => by
    induction l with
    | nil => intro s h; exact .inl h
    | cons e r ih =>
      intro s h
      simp only [List.foldl_cons] at h
      rcases ih _ h with h | ⟨e', h1, h2⟩
      · rw [sel_eq] at h
        split at h
        · rename_i hb
          simp only [Nat.testBit_or, Bool.or_eq_true] at h
          rcases h with (h | h) | h
          · exact .inl h
          · rw [Nat.testBit_two_pow] at h
            exact .inr ⟨e, by simp, hb, .inl (by simpa using (of_decide_eq_true h).symm)⟩
          · split at h
            · rename_i x hx
              exact .inr ⟨e, by simp, hb, .inr ⟨x, hx, h⟩⟩
            · simp at h
        · exact .inl h
      · exact .inr ⟨e', by simp [h1], h2⟩
  rcases this _ _ h with h | ⟨e, h1, h2⟩
  · simp at h
  · exact ⟨e, by simpa using h1, h2⟩

theorem befs_get : ∀ (L : List Oper) (acc : List Nat) (i : Nat) (o : Oper), L[i]? = some o → getN (befs L acc) (acc.length + i) = some (befOf ((befs L acc).take (acc.length + i)) o) ∧ (befs L acc).take acc.length = acc
  | [], acc, i, o, h => by simp at h
  | p :: r, acc, i, o, h => by
    have hpre : ∀ (L : List Oper) (acc : List Nat), (befs L acc).take acc.length = acc ∧ acc.length + L.length = (befs L acc).length := fun L => by
      induction L with
      | nil => intro acc; exact ⟨by simp [befs], by simp [befs]⟩
      | cons p r ih =>
        intro acc
        simp only [befs, app_eq]
        obtain ⟨h1, h2⟩ := ih (acc ++ [befOf acc p])
        refine ⟨?_, by rw [← h2]; simp; omega⟩
        have := congrArg (List.take acc.length) h1
        rw [List.take_take] at this
        simp only [List.length_append, List.length_cons, List.length_nil, List.take_left] at this
        rwa [Nat.min_eq_left (by omega)] at this
    refine ⟨?_, (hpre _ _).1⟩
    cases i with
    | zero =>
      simp only [List.getElem?_cons_zero, Option.some.injEq] at h
      subst h
      rw [Nat.add_zero, (hpre _ _).1]
      simp only [befs, app_eq]
      have h1 := (hpre r (acc ++ [befOf acc p])).1
      rw [getN_eq]
      have h2 := congrArg (fun l => l[acc.length]?) h1
      simp only [List.getElem?_take, List.length_append, List.length_cons, List.length_nil] at h2
      rw [if_pos (by omega)] at h2
      rw [h2]
      simp
    | succ i =>
      have ih := (befs_get r (acc ++ [befOf acc p]) i o (by simpa using h)).1
      simp only [List.length_append, List.length_cons, List.length_nil] at ih
      simp only [befs, app_eq]
      have e : acc.length + (i + 1) = acc.length + (0 + 1) + i := by omega
      rw [e]
      exact ih
end
end Go.SX

/- Regions, sound. No statement of the seat is proved here. -/
namespace Go.SX
section
variable {S : Sg} [Enc S] [EncLaws S] {P : Program} {E : Env S} {N B : Nat} {M : Nat → Prop} {s s' : AS S} {o : Oper} {out : Out S} {ops : Array Oper}

/-- The list of operations with what each comes to, in the text's order. -/
def StepsOk (P : Program) (N B : Nat) (M : Nat → Prop) (ops : Array Oper) (s : AS S) (Z : List (Oper × Eff S)) (i : Nat) : Prop :=
  ∀ q o e, Z[q]? = some (o, e) → StepOk P N B M ops (i + q) o (foldOn (fun j => decide (j < i + q)) i Z s) e

omit [Enc S] [EncLaws S] in
theorem foldOn_none : ∀ (Z : List (Oper × Eff S)) (i : Nat) (D : Nat → Bool) (s : AS S), (∀ q, D (i + q) = false) → foldOn D i Z s = s
  | [], _, _, _, _ => rfl
  | (o, e) :: r, i, D, s, h => by
    simp only [foldOn]
    rw [if_neg (by rw [show D i = false from h 0]; simp)]
    exact foldOn_none r (i + 1) D s fun q => by rw [show i + 1 + q = i + (q + 1) by omega]; exact h (q + 1)

omit [Enc S] [EncLaws S] in
theorem foldOn_congr : ∀ (Z : List (Oper × Eff S)) (i : Nat) (D D' : Nat → Bool) (s : AS S), (∀ q, q < Z.length → D (i + q) = D' (i + q)) → foldOn D i Z s = foldOn D' i Z s
  | [], _, _, _, _, _ => rfl
  | (o, e) :: r, i, D, D', s, h => by
    simp only [foldOn]
    rw [show D i = D' i from h 0 (by simp)]
    exact foldOn_congr r (i + 1) D D' _ fun q hq => by rw [show i + 1 + q = i + (q + 1) by omega]; exact h (q + 1) (by simpa using hq)

def BackOK (ops : Array Oper) : Prop := ∀ i o j g b, ops[i]? = some o → gOf ops.toList o = some (j, g, b) → j < i ∧ soleW j g 0 ops.toList = true

theorem xops_fine (hE : EnvOk P E) {need : List Nat} (hN : ∀ o ∈ ops, ∀ d, o.dst = some d → d < N) (hback : BackOK ops) {K : AS S → List Foot → Ans S} : ∀ (L : List Oper) (i : Nat) (s : AS S) (fs : List Foot), ops.toList.drop i = L → xops E ops.toList need L s fs K = some out →
    ∃ Z : List (Oper × Eff S), Z.map (·.1) = L ∧ K (foldOn (fun _ => true) i Z s) ((Z.map fun x => foot x.2).reverse ++ fs) = some out ∧ ∀ (B : Nat) (M : Nat → Prop), StepsOk P N B M ops s Z i
  | [], i, s, fs, hL, h => by
    refine ⟨[], rfl, h, fun B M q o e hq => by simp at hq⟩
  | o :: r, i, s, fs, hL, h => by
    have hi : ops[i]? = some o := by
      have := congrArg (fun l => l[0]?) hL
      simp only [List.getElem?_drop, Nat.add_zero, List.getElem?_cons_zero, Array.getElem?_toList] at this
      exact this
    have hr : ops.toList.drop (i + 1) = r := by
      have := congrArg (List.drop 1) hL
      rw [List.drop_drop] at this
      simpa using this
    simp only [xops] at h
    obtain ⟨e, h1, h2⟩ := xstep_fine (N := N) hE hi (fun d hd => hN o (Array.mem_of_getElem? hi) d hd) (fun j g b hg => hback i o j g b hi hg) h
    obtain ⟨Z, z1, z2, z3⟩ := xops_fine hE hN hback r (i + 1) _ _ hr h1
    refine ⟨(o, e) :: Z, by simp [z1], ?_, fun B M q o' e' hq => ?_⟩
    · simp only [foldOn, if_true, List.map_cons, List.reverse_cons, List.append_assoc, List.singleton_append]
      exact z2
    · cases q with
      | zero =>
        simp only [List.getElem?_cons_zero, Option.some.injEq, Prod.mk.injEq] at hq
        obtain ⟨rfl, rfl⟩ := hq
        rw [foldOn_none _ _ _ _ fun q => by simp]
        exact h2 B M
      | succ q =>
        have := z3 B M q o' e' (by simpa using hq)
        simp only [foldOn]
        rw [if_pos (by simp)]
        rw [show i + (q + 1) = i + 1 + q by omega]
        exact this

/-! ### the text's order -/
theorem foldOn_upto {Z : List (Oper × Eff S)} {s : AS S} {q : Nat} {o : Oper} {e : Eff S} (hq : Z[q]? = some (o, e)) :
    foldOn (fun j => decide (j < q + 1)) 0 Z s = e.app o.dst (foldOn (fun j => decide (j < q)) 0 Z s) :=
  foldOn_insert hq (by simp) (fun j hj => by
    have : (j < q + 1) ↔ (j < q) := by omega
    simp only [this]) fun q' o' e' h1 _ h3 => by
    have := of_decide_eq_true h3
    omega

theorem RRel.weaken {D D' : Nat → Prop} {cx : Cx} {a : Act} {w : World} (h : RRel N B M ops D cx s a w) (hD : ∀ j, D j → D' j) : RRel N B M ops D' cx s a w :=
  ⟨h.rel, fun t g b r ht => by
    obtain ⟨h1, j, oj, h2, h3⟩ := h.whens t g b r ht
    exact ⟨h1, j, oj, hD j h2, h3⟩⟩

theorem FrB.trans {a b c : World} (h : FrB B M a b) (g : FrB B M b c) : FrB B M a c := Fr.trans h g

theorem region_text {Z : List (Oper × Eff S)} (hZ : Z.map (·.1) = ops.toList) (hst : StepsOk P N B M ops s Z 0) (hback : BackOK ops) {Q : Exit → Act → World → Prop} {cx0 : Cx} {w0 : World}
    (hQ : ∀ cx a w, Cx.ext B M cx0 cx → FrB B M w0 w → RRel N B M ops (fun _ => True) cx (foldOn (fun _ => true) 0 Z s) a w → Q .normal a w) :
    ∀ (n q : Nat) (cx : Cx) (a : Act) (w : World), q + n = ops.size → Cx.ext B M cx0 cx → FrB B M w0 w → RRel N B M ops (fun j => j < q) cx (foldOn (fun j => decide (j < q)) 0 Z s) a w → wpOps P ops Q (List.range' q n) a w
  | 0, q, cx, a, w, hq, he, hf, hr => by
    simp only [List.range'_zero, wpOps]
    have hlen : Z.length = ops.size := by have := congrArg List.length hZ; simpa using this
    refine hQ cx a w he hf ?_
    rw [foldOn_congr Z 0 (fun _ => true) (fun j => decide (j < q)) s fun j hj => by simp; omega]
    exact hr.weaken fun _ _ => trivial
  | n + 1, q, cx, a, w, hq, he, hf, hr => by
    rw [List.range'_succ, wpOps_cons]
    have hlt : q < ops.size := by omega
    have hlen : Z.length = ops.size := by have := congrArg List.length hZ; simpa using this
    obtain ⟨o, e, hzq⟩ : ∃ o e, Z[q]? = some (o, e) := ⟨(Z[q]'(by omega)).1, (Z[q]'(by omega)).2, List.getElem?_eq_getElem _⟩
    have ho : ops[q]? = some o := by
      have := congrArg (fun l => l[q]?) hZ
      simp only [List.getElem?_map, hzq, Option.map_some, Array.getElem?_toList] at this
      exact this.symm
    have hs := hst q o e hzq
    simp only [Nat.zero_add] at hs
    refine hs _ (fun j => j < q) (fun _ _ => rfl) (fun _ _ => rfl) (fun _ _ => rfl) (by omega) (fun j g b hg => (hback q o j g b ho hg).1) cx a w hr _ Q fun cx' a' w' h1 h2 h3 => ?_
    refine region_text hZ hst hback hQ n (q + 1) cx' a' w' (by omega) (he.trans h1) (hf.trans h2) ?_
    rw [foldOn_upto hzq]
    exact h3.weaken fun j hj => by omega

/-! ### any order -/
theorem sel_and {a b : Bool} (h : sel a b false = true) : a = true ∧ b = true := by cases a <;> simp_all [sel]
theorem sel_nand {a b : Bool} (h : sel a false b = true) : a = false ∧ b = true := by cases a <;> simp_all [sel]
theorem sel_or {a b : Bool} (h : sel a true b = true) : a = true ∨ b = true := by cases a <;> simp_all [sel]

theorem pairOK1_spec {all : List Oper} {bf : List Nat} {i : Nat} {o : Oper} {f : Foot} : ∀ (L : List Oper) (fs : List Foot) (j : Nat), pairOK1 all bf i o f j L fs = true → ∀ (q : Nat) (p : Oper), L[q]? = some p → ∃ g, fs[q]? = some g ∧
    ((∃ x, getN bf (j + q) = some x ∧ x.testBit i = true) ∨ apart1 all o p f g = true)
  | [], fs, j, _, q, p, hq => by simp at hq
  | p0 :: r, [], j, h, q, p, hq => by simp [pairOK1] at h
  | p0 :: r, g :: fr, j, h, q, p, hq => by
    simp only [pairOK1] at h
    obtain ⟨hc, h⟩ := sel_and h
    cases q with
    | zero =>
      simp only [List.getElem?_cons_zero, Option.some.injEq] at hq
      subst hq
      refine ⟨g, rfl, ?_⟩
      rcases sel_or hc with hb | hb
      · split at hb
        · exact .inl ⟨_, by assumption, hb⟩
        · cases hb
      · exact .inr hb
    | succ q =>
      obtain ⟨g', h1, h2⟩ := pairOK1_spec r fr (j + 1) h q p (by simpa using hq)
      exact ⟨g', by simpa using h1, by rwa [show j + (q + 1) = j + 1 + q by omega]⟩

theorem pairOK_spec {all : List Oper} {bf : List Nat} : ∀ (L : List Oper) (fs : List Foot) (i : Nat), pairOK all bf i L fs = true → ∀ (p q : Nat) (x y : Oper), p < q → L[p]? = some x → L[q]? = some y → ∃ f g, fs[p]? = some f ∧ fs[q]? = some g ∧
    ((∃ z, getN bf (i + q) = some z ∧ z.testBit (i + p) = true) ∨ apart1 all x y f g = true)
  | [], fs, i, _, p, q, x, y, _, hp, _ => by simp at hp
  | o :: r, [], i, h, p, q, x, y, _, _, _ => by simp [pairOK] at h
  | o :: r, f :: fr, i, h, p, q, x, y, hpq, hp, hq => by
    simp only [pairOK, sel_eq] at h
    split at h
    · rename_i h1
      cases q with
      | zero => omega
      | succ q =>
        cases p with
        | zero =>
          simp only [List.getElem?_cons_zero, Option.some.injEq] at hp
          subst hp
          obtain ⟨g, g1, g2⟩ := pairOK1_spec r fr (i + 1) h1 q y (by simpa using hq)
          exact ⟨f, g, rfl, by simpa using g1, by rwa [show i + (q + 1) = i + 1 + q by omega, Nat.add_zero]⟩
        | succ p =>
          obtain ⟨f', g', h2, h3, h4⟩ := pairOK_spec r fr (i + 1) h p q x y (by omega) (by simpa using hp) (by simpa using hq)
          exact ⟨f', g', by simpa using h2, by simpa using h3, by rwa [show i + (q + 1) = i + 1 + q by omega, show i + (p + 1) = i + 1 + p by omega]⟩
    · cases h

theorem meets_false {a b : List Nat} (h : meets a b = false) : ∀ x ∈ a, x ∉ b := fun x hx hb => by
  unfold meets at h
  rw [anyL_eq, List.any_eq_false] at h
  exact h x hx ((memN_iff x b).2 hb)

theorem apart1_spec {all : List Oper} {x y : Oper} {f g : Foot} (h : apart1 all x y f g = true) :
    (∀ d, x.dst = some d → d ∉ tmpsOf all y ∧ y.dst ≠ some d) ∧ (∀ d, y.dst = some d → d ∉ tmpsOf all x) ∧ (∀ b ∈ f.wr, b ∉ g.rd) ∧ (∀ b ∈ f.wr, b ∉ g.wr) ∧ (∀ b ∈ g.wr, b ∉ f.rd) := by
  unfold apart1 at h
  obtain ⟨h1, h⟩ := sel_and h
  obtain ⟨h2, h⟩ := sel_and h
  obtain ⟨h3, h⟩ := sel_nand h
  obtain ⟨h4, h⟩ := sel_nand h
  obtain ⟨h5, _⟩ := sel_nand h
  refine ⟨fun d hd => ?_, fun d hd => ?_, meets_false h3, meets_false h4, meets_false h5⟩
  · rw [hd] at h1
    obtain ⟨h6, h1⟩ := sel_nand h1
    refine ⟨fun hin => ?_, fun hy => ?_⟩
    · rw [(memN_iff _ _).2 hin] at h6; cases h6
    · rw [hy] at h1
      have := (sel_nand h1).1
      simp at this
  · rw [hd] at h2
    obtain ⟨h6, _⟩ := sel_nand h2
    intro hin
    rw [(memN_iff _ _).2 hin] at h6; cases h6

theorem aBack_spec : ∀ (L : List Oper) (i : Nat), aBack i L = true → ∀ (q : Nat) (o : Oper), L[q]? = some o → ∀ e ∈ o.after, bindsAny e = true → e.on < i + q
  | [], i, _, q, o, hq => by simp at hq
  | p :: r, i, h, q, o, hq => by
    simp only [aBack, sel_eq] at h
    split at h
    · rename_i h1
      cases q with
      | zero =>
        simp only [List.getElem?_cons_zero, Option.some.injEq] at hq
        subst hq
        intro e he hb
        rw [allL_eq, List.all_eq_true] at h1
        have := h1 e (by simpa using he)
        rw [hb] at this
        simp only [sel] at this
        have := Nat.le_of_ble_eq_true this
        omega
      | succ q =>
        intro e he hb
        have := aBack_spec r (i + 1) h q o (by simpa using hq) e he hb
        omega
    · cases h

def unl (listed : Array Bool) (n : Nat) : Nat := (List.range n).countP fun j => !(listed.getD j true)

theorem countP_less {p q : Nat → Bool} : ∀ (l : List Nat), (∀ x ∈ l, p x = true → q x = true) → (∃ x ∈ l, q x = true ∧ p x = false) → l.countP p < l.countP q
  | [], _, h => by obtain ⟨x, hx, _⟩ := h; simp at hx
  | y :: r, h, ⟨x, hx, hq, hp⟩ => by
    have hle : ∀ l : List Nat, (∀ x ∈ l, p x = true → q x = true) → l.countP p ≤ l.countP q := fun l hl => List.countP_mono_left hl
    simp only [List.countP_cons]
    rcases List.mem_cons.1 hx with rfl | hx
    · rw [hq, hp]
      have := hle r fun x hx => h x (by simp [hx])
      simp
      omega
    · have := countP_less r (fun x hx => h x (by simp [hx])) ⟨x, hx, hq, hp⟩
      have h0 := h y (by simp)
      cases hpy : p y
      · simp; split <;> omega
      · rw [h0 hpy]; simp; omega
end
end Go.SX

/- Regions whose order is drawn, sound. No statement of the seat is proved here. -/
namespace Go.SX
section
variable {S : Sg} [Enc S] [EncLaws S] {P : Program} {E : Env S} {N B : Nat} {M : Nat → Prop} {s s' : AS S} {o : Oper} {out : Out S} {ops : Array Oper}

def Shut (ops : Array Oper) (D : Nat → Prop) : Prop := ∀ j o, D j → ops[j]? = some o → ∀ e ∈ o.after, bindsAny e = true → D e.on

omit [Enc S] [EncLaws S] in
theorem bef_in {D : Nat → Prop} (hs : Shut ops D) : ∀ (i : Nat) (o : Oper) (z p : Nat), ops[i]? = some o → (∀ e ∈ o.after, bindsAny e = true → D e.on) → getN (befs ops.toList []) i = some z → z.testBit p = true → D p := by
  intro i
  induction i using Nat.strongRecOn with
  | ind i ih =>
    intro o z p ho hD hz hp
    have h1 := (befs_get ops.toList [] i o (by simpa using ho)).1
    simp only [List.length_nil, Nat.zero_add] at h1
    rw [h1] at hz
    cases hz
    obtain ⟨e, he, hb, h2⟩ := befOf_bit hp
    have hDe := hD e he hb
    rcases h2 with rfl | ⟨x, hx, hxp⟩
    · exact hDe
    · rw [getN_eq, List.getElem?_take] at hx
      split at hx
      · rename_i hlt
        have hlen : e.on < ops.size := by have := (Array.getElem?_eq_some_iff.1 ho).1; omega
        have ho' := Array.getElem?_eq_getElem hlen
        exact ih e.on hlt _ x p ho' (fun e' he' hb' => hs e.on _ hDe ho' e' he' hb') (by rw [getN_eq]; exact hx) hxp
      · cases hx

theorem getD_both {listed : Array Bool} {j : Nat} (h : j < listed.size) (d d' : Bool) : listed.getD j d = listed.getD j d' := by simp [Array.getD, h]

theorem unl_zero {listed : Array Bool} {n : Nat} (h : unl listed n = 0) (hs : listed.size = n) : ∀ j, j < n → listed.getD j false = true := fun j hj => by
  unfold unl at h
  rw [List.countP_eq_zero] at h
  have := h j (List.mem_range.2 hj)
  rw [getD_both (by omega) false true]
  simpa using this

omit [Enc S] [EncLaws S] in
theorem all_listed {listed : Array Bool} (hs : listed.size = ops.size) (hab : aBack 0 ops.toList = true) (hr : Region.ready .any ops listed = []) : ∀ j, j < ops.size → listed.getD j false = true := by
  intro j
  induction j using Nat.strongRecOn with
  | ind j ih =>
    intro hj
    cases hb : listed.getD j false with
    | true => rfl
    | false =>
      have ho := Array.getElem?_eq_getElem hj
      have hin : j ∈ Region.ready .any ops listed := mem_ready.2 ⟨by rw [getD_both (by omega) true false]; exact hb, _, ho, fun e he hbe => by
        rw [bindsAny_eq] at hbe
        have := aBack_spec ops.toList 0 hab j _ (by simpa using ho) e he hbe
        exact ih e.on (by omega) (by omega)⟩
      rw [hr] at hin
      simp at hin

theorem region_any {Z : List (Oper × Eff S)} (hZ : Z.map (·.1) = ops.toList) (hst : StepsOk P N B M ops s Z 0) (hback : BackOK ops) (hab : aBack 0 ops.toList = true)
    (hp : pairOK ops.toList (befs ops.toList []) 0 ops.toList (Z.map fun x => foot x.2) = true) {Q : Exit → Act → World → Prop} {cx0 : Cx} {w0 : World}
    (hQ : ∀ cx a w, Cx.ext B M cx0 cx → FrB B M w0 w → RRel N B M ops (fun _ => True) cx (foldOn (fun _ => true) 0 Z s) a w → Q .normal a w) :
    ∀ (fuel : Nat) (listed : Array Bool) (cx : Cx) (a : Act) (w : World), listed.size = ops.size → unl listed ops.size ≤ fuel → Shut ops (fun j => listed.getD j false = true) → Cx.ext B M cx0 cx → FrB B M w0 w →
      RRel N B M ops (fun j => listed.getD j false = true) cx (foldOn (fun j => listed.getD j false) 0 Z s) a w → wpAny P .any ops Q fuel listed a w := by
  have hlen : Z.length = ops.size := by have := congrArg List.length hZ; simpa using this
  have hZo : ∀ (q : Nat) (o : Oper) (e : Eff S), Z[q]? = some (o, e) → ops[q]? = some o ∧ ops.toList[q]? = some o ∧ (Z.map fun x => foot x.2)[q]? = some (foot e) := fun q o e hq => by
    have h1 := congrArg (fun l => l[q]?) hZ
    simp only [List.getElem?_map, hq, Option.map_some] at h1
    exact ⟨by simpa using h1.symm, h1.symm, by rw [List.getElem?_map, hq]; rfl⟩
  have hpair : ∀ (p q : Nat) (x : Oper) (e : Eff S) (y : Oper) (f : Eff S), p < q → Z[p]? = some (x, e) → Z[q]? = some (y, f) → (∃ z, getN (befs ops.toList []) q = some z ∧ z.testBit p = true) ∨ apart1 ops.toList x y (foot e) (foot f) = true := fun p q x e y f hpq h1 h2 => by
    obtain ⟨f', g', g1, g2, g3⟩ := pairOK_spec _ _ _ hp p q x y hpq (hZo p x e h1).2.1 (hZo q y f h2).2.1
    rw [(hZo p x e h1).2.2] at g1
    rw [(hZo q y f h2).2.2] at g2
    cases g1; cases g2
    simpa using g3
  have hfin : ∀ (listed : Array Bool) (cx : Cx) (a : Act) (w : World), (∀ j, j < ops.size → listed.getD j false = true) → Cx.ext B M cx0 cx → FrB B M w0 w → RRel N B M ops (fun j => listed.getD j false = true) cx (foldOn (fun j => listed.getD j false) 0 Z s) a w → Q .normal a w := fun listed cx a w hall he hf hr => by
    refine hQ cx a w he hf ?_
    rw [foldOn_congr Z 0 (fun _ => true) (fun j => listed.getD j false) s fun j hj => by rw [Nat.zero_add]; exact (hall j (by omega)).symm]
    exact hr.weaken fun _ _ => trivial
  intro fuel
  induction fuel with
  | zero =>
    intro listed cx a w hs hu hsh he hf hr
    have hall := unl_zero (Nat.le_zero.1 hu) hs
    refine ⟨?_, hfin listed cx a w hall he hf hr⟩
    rw [List.eq_nil_iff_forall_not_mem]
    intro j hj
    obtain ⟨h1, o, ho, _⟩ := mem_ready.1 hj
    have hlt := (Array.getElem?_eq_some_iff.1 ho).1
    rw [getD_both (by omega) true false, hall j hlt] at h1
    cases h1
  | succ fuel ih =>
    intro listed cx a w hs hu hsh he hf hr
    refine ⟨fun hrd => hfin listed cx a w (all_listed hs hab hrd) he hf hr, fun i hi => ?_⟩
    obtain ⟨h1, o, ho, hbef⟩ := mem_ready.1 hi
    have hlt := (Array.getElem?_eq_some_iff.1 ho).1
    have hnot : listed.getD i false = false := by rw [getD_both (by omega) false true]; exact h1
    have hbef' : ∀ e ∈ o.after, bindsAny e = true → listed.getD e.on false = true := fun e he hb => hbef e he (by rw [bindsAny_eq]; exact hb)
    obtain ⟨o', e, hzi⟩ : ∃ o' e, Z[i]? = some (o', e) := ⟨(Z[i]'(by omega)).1, (Z[i]'(by omega)).2, List.getElem?_eq_getElem _⟩
    have : o' = o := by have := (hZo i o' e hzi).1; rw [ho] at this; cases this; rfl
    subst this
    -- earlier ones that are not done are apart; later ones that are done are apart
    have early : ∀ (q : Nat) (x : Oper) (f : Eff S), Z[q]? = some (x, f) → q < i → listed.getD q false = false → apart1 ops.toList x o' (foot f) (foot e) = true := fun q x f hq hlt' hn => by
      rcases hpair q i x f o' e hlt' hq hzi with ⟨z, hz, hb⟩ | h
      · have := bef_in hsh i o' z q ho hbef' hz hb
        rw [hn] at this; cases this
      · exact h
    have late : ∀ (q : Nat) (x : Oper) (f : Eff S), Z[q]? = some (x, f) → i < q → listed.getD q false = true → apart1 ops.toList o' x (foot e) (foot f) = true := fun q x f hq hlt' hn => by
      rcases hpair i q o' e x f hlt' hzi hq with ⟨z, hz, hb⟩ | h
      · have hox := (hZo q x f hq).1
        have := bef_in hsh q x z i hox (fun e' he' hb' => hsh q x hn hox e' he' hb') hz hb
        rw [hnot] at this; cases this
      · exact h
    have key : ∀ (q : Nat) (x : Oper) (f : Eff S), Z[q]? = some (x, f) → listed.getD q false ≠ decide (q < i) → (apart1 ops.toList x o' (foot f) (foot e) = true) ∨ (apart1 ops.toList o' x (foot e) (foot f) = true) := fun q x f hq hne => by
      by_cases hqi : q < i
      · refine .inl (early q x f hq hqi ?_)
        cases hb : listed.getD q false with
        | false => rfl
        | true => rw [hb] at hne; simp [hqi] at hne
      · have hb : listed.getD q false = true := by
          cases hb : listed.getD q false with
          | true => rfl
          | false => rw [hb] at hne; simp [hqi] at hne
        have : i < q := by
          rcases Nat.lt_or_ge i q with h | h
          · exact h
          · have : q = i := by omega
            subst this
            rw [hnot] at hb; cases hb
        exact .inr (late q x f hq this hb)
    have hmemW : ∀ (f : Eff S) b, b ∈ (foot f).wr ↔ b ∈ f.ups.map (·.1) := fun f b => by unfold foot; rw [mapL_eq]
    have hs' := hst i o' e hzi
    simp only [Nat.zero_add] at hs'
    refine hs' _ (fun j => listed.getD j false = true) (fun t ht => ?_) (fun b hb => ?_) (fun x hx => ?_) (by rw [hnot]; simp) (fun j g b hg => ?_) cx a w hr _ Q fun cx' a' w' c1 c2 c3 => ?_
    · refine foldOn_t Z 0 _ _ s s t rfl fun q x f hq hd => Classical.byContradiction fun hne => ?_
      rw [Nat.zero_add] at hne
      rcases key q x f hq hne with h | h
      · exact ((apart1_spec h).1 t hd).1 ht
      · exact (apart1_spec h).2.1 t hd ht
    · refine foldOn_m Z 0 _ _ s s b rfl fun q x f hq hd => Classical.byContradiction fun hne => ?_
      rw [Nat.zero_add] at hne
      rcases key q x f hq hne with h | h
      · exact (apart1_spec h).2.2.1 b ((hmemW f b).2 hd) hb
      · exact (apart1_spec h).2.2.2.2 b ((hmemW f b).2 hd) hb
    · refine foldOn_m Z 0 _ _ s s x.1 rfl fun q y f hq hd => Classical.byContradiction fun hne => ?_
      rw [Nat.zero_add] at hne
      have hxe : x.1 ∈ (foot e).wr := (hmemW e x.1).2 (List.mem_map.2 ⟨x, hx, rfl⟩)
      rcases key q y f hq hne with h | h
      · exact (apart1_spec h).2.2.2.1 x.1 ((hmemW f x.1).2 hd) hxe
      · exact (apart1_spec h).2.2.2.1 x.1 hxe ((hmemW f x.1).2 hd)
    · have hji := (hback i o' j g b ho hg).1
      obtain ⟨oj, f, hzj⟩ : ∃ oj f, Z[j]? = some (oj, f) := ⟨(Z[j]'(by omega)).1, (Z[j]'(by omega)).2, List.getElem?_eq_getElem _⟩
      cases hb : listed.getD j false with
      | true => rfl
      | false =>
        have hap := early j oj f hzj hji hb
        obtain ⟨_, hgt⟩ := gOf_some hg
        rw [guardTmp_eq, (hZo j oj f hzj).1] at hgt
        exact absurd (by unfold tmpsOf; rw [app_eq]; exact List.mem_append_right _ (guardsOf_mem hg)) ((apart1_spec hap).1 g hgt).1
    · have hset : ∀ j, j ≠ i → (listed.setIfInBounds i true).getD j false = listed.getD j false := fun j hj => getD_set_ne false (Ne.symm hj)
      have hself : (listed.setIfInBounds i true).getD i false = true := by
        have : i < listed.size := by omega
        simp [Array.getD, this]
      refine ih _ cx' a' w' (by simp [hs]) ?_ (fun j oj hj hoj e' he' hb' => ?_) (he.trans c1) (hf.trans c2) ?_
      · have hlt' : unl (listed.setIfInBounds i true) ops.size < unl listed ops.size := by
          unfold unl
          refine countP_less _ (fun x hx hpx => ?_) ⟨i, List.mem_range.2 hlt, by simp [h1], ?_⟩
          · by_cases hxi : x = i
            · subst hxi
              rw [getD_both (by simp; omega) true false, hself] at hpx
              simp at hpx
            · rwa [getD_set_ne true (Ne.symm hxi)] at hpx
          · rw [getD_both (by simp; omega) true false, hself]; rfl
        omega
      · change (listed.setIfInBounds i true).getD j false = true at hj
        by_cases hji : j = i
        · subst hji
          rw [ho] at hoj; cases hoj
          exact getD_set_true (hbef' e' he' hb')
        · rw [hset j hji] at hj
          exact getD_set_true (hsh j oj hj hoj e' he' hb')
      · have hins := foldOn_insert (D := fun j => listed.getD j false) (D' := fun j => (listed.setIfInBounds i true).getD j false) (s := s) hzi hself hset fun q x f hlt' hq hd => by
          have hap := apart1_spec (late q x f hq hlt' hd)
          exact ⟨fun d hd => (hap.1 d hd).2, fun b hb hb' => hap.2.2.2.1 b ((hmemW e b).2 hb) ((hmemW f b).2 hb')⟩
        rw [hins]
        exact c3.weaken fun j hj => by
          rcases hj with hj | hj
          · exact getD_set_true hj
          · subst hj; exact hself
end
end Go.SX

/- A region, as the executor has it. No statement of the seat is proved here. -/
namespace Go.SX
section
variable {S : Sg} [Enc S] [EncLaws S] {P : Program} {E : Env S} {N B : Nat} {M : Nat → Prop} {s s' : AS S} {o : Oper} {out : Out S} {ops : Array Oper}

/-- Between regions: no slot stands under a guard. -/
structure Rel1 (N B : Nat) (M : Nat → Prop) (cx : Cx) (s : AS S) (a : Act) (w : World) : Prop where
  rel : Rel N B M cx s a w
  flat : ∀ t, isWhen (s.t t) = false

def After (N B : Nat) (M : Nat → Prop) (cx : Cx) (w : World) (s1 : AS S) (a' : Act) (w' : World) : Prop := ∃ cx', Cx.ext B M cx cx' ∧ FrB B M w w' ∧ Rel1 N B M cx' s1 a' w'

omit [Enc S] [EncLaws S] in
theorem gBack_spec : ∀ (L : List Oper) (i : Nat), gBack i L = true → ∀ (q : Nat) (o : Oper) (j : Nat) (b : Bool), L[q]? = some o → o.guard = some (j, b) → j < i + q
  | [], i, _, q, o, j, b, hq, _ => by simp at hq
  | p :: r, i, h, q, o, j, b, hq, hg => by
    simp only [gBack] at h
    obtain ⟨h1, h2⟩ := sel_and h
    cases q with
    | zero =>
      simp only [List.getElem?_cons_zero, Option.some.injEq] at hq
      subst hq
      rw [hg] at h1
      simp only at h1
      have := Nat.le_of_ble_eq_true h1
      omega
    | succ q =>
      have := gBack_spec r (i + 1) h2 q o j b (by simpa using hq) hg
      omega

omit [Enc S] [EncLaws S] in
theorem back_of (h : gTmps ops.toList ops.toList = [] ∨ (gBack 0 ops.toList = true ∧ allL (fun x => soleW x.1 x.2 0 ops.toList) (gTmps ops.toList ops.toList) = true)) : BackOK ops := fun i o j g b hi hg => by
  rcases h with h | ⟨h1, h2⟩
  · exact absurd h (gTmps_ne hi hg)
  · obtain ⟨hgd, _⟩ := gOf_some hg
    have := gBack_spec _ 0 h1 i o j b (by simpa using hi) hgd
    refine ⟨by omega, ?_⟩
    rw [allL_eq, List.all_eq_true] at h2
    exact h2 (j, g) (gTmps_mem hg _ (by simpa using Array.mem_of_getElem? hi))

theorem RRel.start {cx : Cx} {a : Act} {w : World} (h : Rel1 N B M cx s a w) (D : Nat → Prop) : RRel N B M ops D cx s a w :=
  ⟨h.rel, fun t g b r ht => by have := h.flat t; rw [ht] at this; cases this⟩

theorem RRel.plain {D : Nat → Prop} {cx : Cx} {a : Act} {w : World} (h : RRel N B M ops D cx s a w) (hg : gTmps ops.toList ops.toList = []) : Rel1 N B M cx s a w :=
  ⟨h.rel, fun t => by
    cases hs : s.t t with
    | when g b r => exact absurd hg (h.whens t g b r hs).1.2
    | _ => rfl⟩

theorem Rel.endR {cx : Cx} {a : Act} {w : World} (h : Rel N B M cx s a w) : Rel1 N B M cx (endR s) a w := by
  refine ⟨⟨h.size, h.defers, fun t => ?_, h.inv⟩, fun t => ?_⟩
  · have := h.tmps t
    show TRel cx a _ (endT (s.t t))
    cases hs : s.t t with
    | when g b r => exact .junk _
    | _ => rw [hs] at this; exact this
  · show isWhen (endT (s.t t)) = false
    cases s.t t <;> rfl

/-- A region's operations come to a state. -/
theorem region_wp {draw : Bool} {id : Nat} (hm : P.follows .mixedOrders = true) {Z : List (Oper × Eff S)} (hZ : Z.map (·.1) = ops.toList) (hst : ∀ N' : Nat, N' = N → StepsOk P N B M ops s Z 0) (hback : BackOK ops)
    (hdraw : draw = true → aBack 0 ops.toList = true ∧ pairOK ops.toList (befs ops.toList []) 0 ops.toList (Z.map fun x => foot x.2) = true) {cx : Cx} {a : Act} {w : World} (hr : Rel1 N B M cx s a w) {Q : Exit → Act → World → Prop}
    (hQ : ∀ cx' a' w', Cx.ext B M cx cx' → FrB B M w w' → RRel N B M ops (fun _ => True) cx' (foldOn (fun _ => true) 0 Z s) a' w' → Q .normal a' w') : (Code.region id ops draw).wp P Q a w := by
  have hst := hst N rfl
  cases draw with
  | false =>
    refine wp_region ?_
    rw [List.range_eq_range']
    refine region_text hZ hst hback (cx0 := cx) (w0 := w) hQ ops.size 0 cx a w (by omega) (Cx.ext.refl _ _ _) (Fr.refl _ _) ?_
    rw [foldOn_none _ _ _ _ fun q => by simp]
    exact RRel.start hr _
  | true =>
    obtain ⟨h1, h2⟩ := hdraw rfl
    have hd0 : ∀ j, (Array.replicate ops.size false).getD j false = false := fun j => by
      by_cases hj : j < ops.size <;> simp [Array.getD, hj]
    refine wp_region_any hm (region_any hZ hst hback h1 h2 (cx0 := cx) (w0 := w) hQ ops.size (Array.replicate ops.size false) cx a w.drew (by simp) ?_ (fun j o hj => absurd hj (by simp only [hd0]; simp)) (Cx.ext.refl _ _ _) (Fr.drew _ w) ?_)
    · unfold unl
      exact Nat.le_trans List.countP_le_length (by simp)
    · rw [foldOn_none _ _ _ _ fun q => hd0 _]
      exact RRel.start ⟨{ size := hr.rel.size, defers := hr.rel.defers, tmps := hr.rel.tmps, inv := hr.rel.inv.fr0 (Fr.drew _ w) }, hr.flat⟩ _

theorem xregion_fine (hE : EnvOk P E) (hm : P.follows .mixedOrders = true) {draw : Bool} {id : Nat} (hN : ∀ o ∈ ops, ∀ d, o.dst = some d → d < N) {K : AS S → Ans S} (h : xregion E ops.toList draw s K = some out) :
    ∃ s1, K s1 = some out ∧ ∀ (B : Nat) (M : Nat → Prop) (cx : Cx) (a : Act) (w : World), Rel1 N B M cx s a w → (Code.region id ops draw).wp P (fun e a' w' => e = .normal ∧ After N B M cx w s1 a' w') a w := by
  have hrev : ∀ Z : List (Oper × Eff S), ((Z.map fun (x : Oper × Eff S) => foot x.2).reverse ++ []).reverse = Z.map fun (x : Oper × Eff S) => foot x.2 := fun Z => by simp
  unfold xregion at h
  split at h
  · rename_i hg
    have hback : BackOK ops := back_of (.inl hg)
    have fin : ∀ (Z : List (Oper × Eff S)), Z.map (·.1) = ops.toList → (∀ (B : Nat) (M : Nat → Prop), StepsOk P N B M ops s Z 0) → (draw = true → aBack 0 ops.toList = true ∧ pairOK ops.toList (befs ops.toList []) 0 ops.toList (Z.map fun x => foot x.2) = true) → K (foldOn (fun _ => true) 0 Z s) = some out →
        ∃ s1, K s1 = some out ∧ ∀ (B : Nat) (M : Nat → Prop) (cx : Cx) (a : Act) (w : World), Rel1 N B M cx s a w → (Code.region id ops draw).wp P (fun e a' w' => e = .normal ∧ After N B M cx w s1 a' w') a w := fun Z hZ hst hd hK =>
      ⟨_, hK, fun B M cx a w hr => region_wp hm hZ (fun _ _ => hst B M) hback hd hr fun cx' a' w' h1 h2 h3 => ⟨rfl, cx', h1, h2, h3.plain hg⟩⟩
    split at h
    · obtain ⟨Z, z1, z2, z3⟩ := xops_fine (N := N) hE hN hback ops.toList 0 s [] rfl h
      rw [hrev] at z2
      split at z2
      · rename_i hp
        exact fin Z z1 z3 (fun _ => sel_and hp) z2
      · cases z2
    · obtain ⟨Z, z1, z2, z3⟩ := xops_fine (N := N) hE hN hback ops.toList 0 s [] rfl h
      exact fin Z z1 z3 (fun e => by cases e) z2
  · split at h
    · rename_i hchk
      have hback : BackOK ops := back_of (.inr (sel_and hchk))
      have fin : ∀ (Z : List (Oper × Eff S)), Z.map (·.1) = ops.toList → (∀ (B : Nat) (M : Nat → Prop), StepsOk P N B M ops s Z 0) → (draw = true → aBack 0 ops.toList = true ∧ pairOK ops.toList (befs ops.toList []) 0 ops.toList (Z.map fun x => foot x.2) = true) → K (endR (foldOn (fun _ => true) 0 Z s)) = some out →
          ∃ s1, K s1 = some out ∧ ∀ (B : Nat) (M : Nat → Prop) (cx : Cx) (a : Act) (w : World), Rel1 N B M cx s a w → (Code.region id ops draw).wp P (fun e a' w' => e = .normal ∧ After N B M cx w s1 a' w') a w := fun Z hZ hst hd hK =>
        ⟨_, hK, fun B M cx a w hr => region_wp hm hZ (fun _ _ => hst B M) hback hd hr fun cx' a' w' h1 h2 h3 => ⟨rfl, cx', h1, h2, h3.rel.endR⟩⟩
      split at h
      · obtain ⟨Z, z1, z2, z3⟩ := xops_fine (N := N) hE hN hback ops.toList 0 s [] rfl h
        rw [hrev] at z2
        split at z2
        · rename_i hp
          exact fin Z z1 z3 (fun _ => sel_and hp) z2
        · cases z2
      · obtain ⟨Z, z1, z2, z3⟩ := xops_fine (N := N) hE hN hback ops.toList 0 s [] rfl h
        exact fin Z z1 z3 (fun e => by cases e) z2
    · cases h
end
end Go.SX

/- A loop's head: what is kept of a state, under which names. No statement of the seat is proved here. -/
namespace Go.SX
section
variable {S : Sg} [Enc S] [EncLaws S] {P : Program} {E : Env S} {N B : Nat} {M : Nat → Prop} {s s' : AS S} {o : Oper} {out : Out S} {ops : Array Oper}

/-- From one state to a later one, when names are given up: the names in mu stay. -/
structure Ext1 (mu : List Nat) (B : Nat) (M : Nat → Prop) (a b : Cx) : Prop where
  St : Le a.St b.St
  new : ∀ k o, b.St k = some o → (∃ o', a.St k = some o') ∨ B ≤ k ∨ M k
  mu : ∀ i ∈ mu, ∀ l, a.φ i = some l → b.φ i = some l

omit [Enc S] [EncLaws S] in
theorem Ext1.refl (mu : List Nat) (B : Nat) (M : Nat → Prop) (a : Cx) : Ext1 mu B M a a := ⟨Le.refl _, fun _ o h => .inl ⟨o, h⟩, fun _ _ _ h => h⟩
omit [Enc S] [EncLaws S] in
theorem Ext1.trans {mu : List Nat} {a b c : Cx} (h : Ext1 mu B M a b) (g : Ext1 mu B M b c) : Ext1 mu B M a c :=
  ⟨h.St.trans g.St, fun k o ho => by
    rcases g.new k o ho with ⟨o', h'⟩ | h'
    · exact h.new k o' h'
    · exact .inr h', fun i hi l hl => g.mu i hi l (h.mu i hi l hl)⟩
omit [Enc S] [EncLaws S] in
theorem Cx.ext.to1 {mu : List Nat} {a b : Cx} (h : Cx.ext B M a b) : Ext1 mu B M a b := ⟨h.le.St, h.new, fun i _ l hl => h.le.φ i l hl⟩

theorem clean_rel {cx : Cx} {w : World} {m : Nat → Option (Blk S)} (hinv : Inv B M cx m w) {φ' : Phi} {kb : List Nat} (hφ : ∀ b ∈ kb, ∀ l, cx.φ b = some l → φ' b = some l) : ∀ (n : Nat) (v : Value) (r : RV S), cx.rel v r → RVal φ' cx.St v (clean kb m n r)
  | 0, v, r, _ => .junk v
  | n + 1, v, r, h => by
    have ih := clean_rel hinv hφ n
    have hl : ∀ (arr : Array Value) (l : List (RV S)), (∀ (j : Nat) (u : Value) (r : RV S), arr[j]? = some u → l[j]? = some r → RVal cx.φ cx.St u r) →
        ∀ (j : Nat) (u : Value) (r : RV S), arr[j]? = some u → (mapL (clean kb m n) l)[j]? = some r → RVal φ' cx.St u r := fun arr l h j u r hu hr => by
      rw [mapL_eq, List.getElem?_map] at hr
      obtain ⟨q, hq, rfl⟩ := Option.map_eq_some_iff.1 hr
      exact ih u q (h j u q hu hq)
    have hin : ∀ b, memN b kb = true → ∀ l, cx.φ b = some l → φ' b = some l := fun b hb => hφ b ((memN_iff _ _).1 hb)
    cases h with
    | junk v => exact .junk v
    | bool b => exact .bool b
    | int k m => exact .int k m
    | flt h hy => exact .flt h hy
    | cpx h g => exact .cpx h g
    | nilptr => exact .nilptr
    | ptr h =>
      simp only [clean, sel_eq]
      split
      · rename_i hb; exact .ptr (hin _ hb _ h)
      · exact .junk _
    | rptr h f g =>
      simp only [clean, sel_eq]
      split
      · exact .junk _
      · rename_i hn
        exact RVal.phi (.rptr h f g) (n + 1) (by simpa [refs] using hn)
    | nilslice => exact .nilslice
    | own h g =>
      simp only [clean, sel_eq]
      split
      · rename_i hb
        split
        · rename_i d xs hm
          have hlen := (hinv.blk _ _ _ hm h).1
          simp only at hlen
          rw [← hlen]
          exact .own (hin _ hb _ h) g
        · exact .own (hin _ hb _ h) g
      · exact .junk _
    | own0 h =>
      simp only [clean, sel_eq]
      split
      · rename_i hb
        split
        · rename_i d xs hm
          have hlen := (hinv.blk _ _ _ hm h).1
          simp only at hlen
          rw [← hlen]
          exact .own0 (hin _ hb _ h)
        · exact .own0 (hin _ hb _ h)
      · exact .junk _
    | slice h g f =>
      simp only [clean, sel_eq]
      split
      · rename_i hb; exact .slice (hin _ hb _ h) g f
      · exact .junk _
    | slice0 h g =>
      simp only [clean, sel_eq]
      split
      · rename_i hb; exact .slice0 (hin _ hb _ h) g
      · exact .junk _
    | rslice hn h hc f g => exact RVal.phi (.rslice hn h hc f g) 1 rfl
    | rslice0 h => exact .rslice0 h
    | cslice hn h hc f g => exact RVal.phi (.cslice hn h hc f g) 1 rfl
    | cslice0 h => exact .cslice0 h
    | eslice => exact .eslice
    | func hn g => exact .func (by rw [mapL_eq]; simpa using hn) (hl _ _ g)
    | nilfunc => exact .nilfunc
    | iface h => exact .iface (ih _ _ h)
    | nilif => exact .nilif
    | agg hn g => exact .agg (by rw [mapL_eq]; simpa using hn) (hl _ _ g)
    | tuple hn g => exact .tuple (by rw [mapL_eq]; simpa using hn) (hl _ _ g)

omit [EncLaws S] in
theorem clean_flat (kb : List Nat) (m : Nat → Option (Blk S)) : ∀ (n : Nat) (r : RV S), isWhen (clean kb m n r) = false
  | 0, _ => rfl
  | n + 1, r => by
    cases r <;> simp only [clean, sel_eq] <;> first | rfl | (split <;> first | rfl | (split <;> rfl))

theorem BlkAt.clean {cx : Cx} {w : World} {m : Nat → Option (Blk S)} (hinv : Inv B M cx m w) {φ' : Phi} {kb : List Nat} (hφ : ∀ b ∈ kb, ∀ l, cx.φ b = some l → φ' b = some l) {l : Loc} {cs : List (RV S)} (h : BlkAt cx w l (.cells cs)) :
    BlkAt ⟨φ', cx.St⟩ w l (.cells (mapL (Go.SX.clean kb m deep) cs)) := by
  obtain ⟨k, arr, ty, h1, h2, h3, h4⟩ := h
  refine ⟨k, arr, ty, h1, h2, by rw [mapL_eq]; simpa using h3, fun j r hj => ?_⟩
  rw [mapL_eq, List.getElem?_map] at hj
  obtain ⟨q, hq, rfl⟩ := Option.map_eq_some_iff.1 hj
  obtain ⟨u, hu, hr⟩ := h4 j q hq
  exact ⟨u, hu, clean_rel hinv hφ deep u q hr⟩

/-- The rows that a head keeps: each block and what stands for it. -/
theorem keptB_spec {kb : List Nat} {m : Nat → Option (Blk S)} : ∀ (l : List Nat) (bs : List (Blk S)), keptB kb m l = some bs → bs.length = l.length ∧ ∀ (i b : Nat) (x : Blk S), l[i]? = some b → bs[i]? = some x →
    ∃ y, m b = some y ∧ y.alive = x.alive ∧ ((x = y ∧ ∀ cs, x ≠ .cells cs) ∨ ∃ cs, y = .cells cs ∧ x = .cells (mapL (Go.SX.clean kb m deep) cs))
  | [], bs, h => by simp only [keptB, Option.some.injEq] at h; subst h; exact ⟨rfl, fun i b x hi => by simp at hi⟩
  | b0 :: r, bs, h => by
    simp only [keptB] at h
    split at h
    · cases h
    · rename_i l hl
      obtain ⟨h1, h2⟩ := keptB_spec r l hl
      have go : ∀ (x0 : Blk S), (∃ y, m b0 = some y ∧ y.alive = x0.alive ∧ ((x0 = y ∧ ∀ cs, x0 ≠ .cells cs) ∨ ∃ cs, y = .cells cs ∧ x0 = .cells (mapL (Go.SX.clean kb m deep) cs))) → bs = x0 :: l → bs.length = (b0 :: r).length ∧ ∀ (i b : Nat) (x : Blk S), (b0 :: r)[i]? = some b → bs[i]? = some x →
          ∃ y, m b = some y ∧ y.alive = x.alive ∧ ((x = y ∧ ∀ cs, x ≠ .cells cs) ∨ ∃ cs, y = .cells cs ∧ x = .cells (mapL (Go.SX.clean kb m deep) cs)) := fun x0 hx0 hb => by
        subst hb
        refine ⟨by simp [h1], fun i b x hi hx => ?_⟩
        cases i with
        | zero => simp only [List.getElem?_cons_zero, Option.some.injEq] at hi hx; subst hi; subst hx; exact hx0
        | succ i => exact h2 i b x (by simpa using hi) (by simpa using hx)
      split at h
      · rename_i cs hm
        cases h
        exact go (.cells (mapL (Go.SX.clean kb m deep) cs)) ⟨_, hm, rfl, .inr ⟨cs, rfl, rfl⟩⟩ rfl
      · rename_i c xs hm
        cases h
        exact go _ ⟨_, hm, rfl, .inl ⟨rfl, fun cs e => by cases e⟩⟩ rfl
      · rename_i hm
        cases h
        exact go _ ⟨_, hm, rfl, .inl ⟨rfl, fun cs e => by cases e⟩⟩ rfl
      · cases h

omit [EncLaws S] in
/-- The slices that grow: which row stood behind each. -/
theorem grows_spec : ∀ (ko : List (Nat × S.C × Nat)) (gs : List (Option Nat × RV S × Blk S)), grows s ko = some gs → gs.length = ko.length ∧ ∀ (i : Nat) (k : Nat) (c : S.C) (nid : Nat) (g : Option Nat × RV S × Blk S), ko[i]? = some (k, c, nid) → gs[i]? = some g →
    ∃ xs : List (S.den c), g.2.1 = .own nid c xs.length ∧ g.2.2 = .rows c xs ∧ ((g.1 = none ∧ xs = [] ∧ s.t k = .nilslice) ∨ ∃ b c' n', g.1 = some b ∧ s.t k = .own b c' n' ∧ s.m b = some (.rows c xs))
  | [], gs, h => by simp only [grows, Option.some.injEq] at h; subst h; exact ⟨rfl, fun i k c nid g hi => by simp at hi⟩
  | (k0, c0, n0) :: r, gs, h => by
    simp only [grows] at h
    split at h
    · cases h
    · rename_i l hl
      obtain ⟨h1, h2⟩ := grows_spec r l hl
      have go : ∀ g0, (∃ xs : List (S.den c0), g0.2.1 = .own n0 c0 xs.length ∧ g0.2.2 = .rows c0 xs ∧ ((g0.1 = none ∧ xs = [] ∧ s.t k0 = .nilslice) ∨ ∃ b c' n', g0.1 = some b ∧ s.t k0 = .own b c' n' ∧ s.m b = some (.rows c0 xs))) → gs = g0 :: l →
          gs.length = ((k0, c0, n0) :: r).length ∧ ∀ (i : Nat) (k : Nat) (c : S.C) (nid : Nat) (g : Option Nat × RV S × Blk S), ((k0, c0, n0) :: r)[i]? = some (k, c, nid) → gs[i]? = some g →
            ∃ xs : List (S.den c), g.2.1 = .own nid c xs.length ∧ g.2.2 = .rows c xs ∧ ((g.1 = none ∧ xs = [] ∧ s.t k = .nilslice) ∨ ∃ b c' n', g.1 = some b ∧ s.t k = .own b c' n' ∧ s.m b = some (.rows c xs)) := fun g0 hg0 hb => by
        subst hb
        refine ⟨by simp [h1], fun i k c nid g hi hg => ?_⟩
        cases i with
        | zero => simp only [List.getElem?_cons_zero, Option.some.injEq, Prod.mk.injEq] at hi hg; obtain ⟨rfl, rfl, rfl⟩ := hi; subst hg; exact hg0
        | succ i => exact h2 i k c nid g (by simpa using hi) (by simpa using hg)
      split at h
      · rename_i hs
        cases h
        exact go _ ⟨[], rfl, rfl, .inl ⟨rfl, rfl, hs⟩⟩ rfl
      · rename_i b c' n' hs
        split at h
        · rename_i d xs hm
          split at h
          · rename_i ys hys
            obtain ⟨e, hy⟩ := castC_some hys
            subst e
            subst hy
            cases h
            exact go _ ⟨_, rfl, rfl, .inr ⟨b, c', n', rfl, hs, hm⟩⟩ rfl
          · cases h
        · cases h
      · cases h
end
end Go.SX

/- A loop's head, sound. No statement of the seat is proved here. -/
namespace Go.SX
section
variable {S : Sg}

theorem tabM_some : ∀ (ks : List Nat) (vs : List (Blk S)) (x : Nat) (y : Blk S), tabM ks vs x = some y → ∃ i : Nat, ks[i]? = some x ∧ vs[i]? = some y
  | [], vs, x, y, h => by simp [tabM] at h
  | k :: ks, [], x, y, h => by simp [tabM] at h
  | k :: ks, v :: vs, x, y, h => by
    simp only [tabM, sel_eq] at h
    split at h
    · rename_i he
      have := Nat.eq_of_beq_eq_true he
      subst this
      cases h
      exact ⟨0, rfl, rfl⟩
    · obtain ⟨i, h1, h2⟩ := tabM_some ks vs x y h
      exact ⟨i + 1, by simpa using h1, by simpa using h2⟩

theorem tabM_none : ∀ (ks : List Nat) (vs : List (Blk S)) (x : Nat), ks.length = vs.length → tabM ks vs x = none → x ∉ ks
  | [], vs, x, _, _ => by simp
  | k :: ks, [], x, hl, _ => by simp at hl
  | k :: ks, v :: vs, x, hl, h => by
    simp only [tabM, sel_eq] at h
    split at h
    · cases h
    · rename_i he
      simp only [List.mem_cons, not_or]
      exact ⟨fun e => he (by rw [e]; exact Nat.beq_refl _), tabM_none ks vs x (by simpa using hl) h⟩

theorem tabT_cases : ∀ (ks : List Nat) (vs : List (RV S)) (x : Nat), tabT ks vs x = .junk ∨ ∃ i : Nat, ks[i]? = some x ∧ vs[i]? = some (tabT ks vs x)
  | [], vs, x => .inl rfl
  | k :: ks, [], x => .inl rfl
  | k :: ks, v :: vs, x => by
    simp only [tabT, sel_eq]
    split
    · rename_i he
      have := Nat.eq_of_beq_eq_true he
      subst this
      exact .inr ⟨0, rfl, rfl⟩
    · rcases tabT_cases ks vs x with h | ⟨i, h1, h2⟩
      · exact .inl h
      · exact .inr ⟨i + 1, by simpa using h1, by simpa using h2⟩

theorem hasO_iff (b : Nat) : ∀ l : List (Option Nat), hasO b l = true ↔ some b ∈ l
  | [] => by simp [hasO]
  | none :: r => by simp only [hasO]; rw [hasO_iff b r]; simp
  | some c :: r => by
    simp only [hasO, sel_eq]
    split
    · rename_i he
      have := Nat.eq_of_beq_eq_true he
      subst this
      simp
    · rename_i he
      rw [hasO_iff b r]
      simp only [List.mem_cons, Option.some.injEq]
      exact ⟨.inr, fun h => h.resolve_left fun e => he (by rw [e]; exact Nat.beq_refl _)⟩

theorem distO_spec : ∀ (l : List (Option Nat)), distO l = true → ∀ (i j : Nat) (b : Nat), l[i]? = some (some b) → l[j]? = some (some b) → i = j
  | [], _, i, j, b, h, _ => by simp at h
  | none :: r, h, i, j, b, hi, hj => by
    cases i with
    | zero => simp at hi
    | succ i => cases j with
      | zero => simp at hj
      | succ j => rw [distO_spec r h i j b (by simpa using hi) (by simpa using hj)]
  | some c :: r, h, i, j, b, hi, hj => by
    simp only [distO] at h
    obtain ⟨h1, h2⟩ := sel_nand h
    have hno : ∀ q : Nat, r[q]? ≠ some (some c) := fun q hq => by
      rw [(hasO_iff c r).2 (List.mem_of_getElem? hq)] at h1; cases h1
    cases i with
    | zero =>
      simp only [List.getElem?_cons_zero, Option.some.injEq] at hi
      subst hi
      cases j with
      | zero => rfl
      | succ j => exact absurd (by simpa using hj) (hno j)
    | succ i => cases j with
      | zero =>
        simp only [List.getElem?_cons_zero, Option.some.injEq] at hj
        subst hj
        exact absurd (by simpa using hi) (hno i)
      | succ j => rw [distO_spec r h2 i j b (by simpa using hi) (by simpa using hj)]

/-- The names of a head: each with what stood behind it. -/
def phiX (φ : Phi) (X : List Nat) (O : List (Option Nat)) : Phi := fun x => match lk (X.zip O) x with
  | none => none
  | some none => some ⟨none, 0, 0⟩
  | some (some b) => φ b

theorem phiX_at {φ : Phi} {X : List Nat} {O : List (Option Nat)} (hX : X.Nodup) (hl : X.length = O.length) {i x : Nat} {q : Option Nat} (hx : X[i]? = some x) (hq : O[i]? = some q) : phiX φ X O x = q.elim (some ⟨none, 0, 0⟩) φ := by
  unfold phiX
  rw [lk_of_mem (X.zip O) x q (by rw [List.map_fst_zip (by omega)]; exact hX) (List.mem_of_getElem? (i := i) (by rw [List.getElem?_zip_eq_some]; exact ⟨hx, hq⟩))]
  cases q <;> rfl

theorem phiX_some {φ : Phi} {X : List Nat} {O : List (Option Nat)} {x : Nat} {l : Loc} (h : phiX φ X O x = some l) : ∃ (i : Nat) (q : Option Nat), X[i]? = some x ∧ O[i]? = some q ∧ ((q = none ∧ l = ⟨none, 0, 0⟩) ∨ ∃ b, q = some b ∧ φ b = some l) := by
  unfold phiX at h
  split at h
  · cases h
  · rename_i hq
    obtain ⟨i, hi⟩ := List.getElem?_of_mem (lk_mem _ _ _ hq)
    rw [List.getElem?_zip_eq_some] at hi
    cases h
    exact ⟨i, none, hi.1, hi.2, .inl ⟨rfl, rfl⟩⟩
  · rename_i b hq
    obtain ⟨i, hi⟩ := List.getElem?_of_mem (lk_mem _ _ _ hq)
    rw [List.getElem?_zip_eq_some] at hi
    exact ⟨i, some b, hi.1, hi.2, .inr ⟨b, rfl, h⟩⟩

variable [Enc S] [EncLaws S] {P : Program} {E : Env S} {N B : Nat} {M : Nat → Prop} {s s' : AS S} {o : Oper} {out : Out S} {ops : Array Oper}

theorem norm_rel {cx : Cx} {a : Act} {w : World} (h : Rel1 N B M cx s a w) {lc : LH S} {vs : List (RV S)} {bs : List (Blk S)} (hn : norm lc s = some (vs, bs)) (hd : distinct (app lc.kb (mapL (fun x => x.2.2) lc.ko)) = true) {mu : List Nat} (hmu : ∀ i ∈ mu, i ∈ lc.kb) :
    ∃ cx', Ext1 mu B M cx cx' ∧ Rel1 N B M cx' (mkS lc vs bs) a w := by
  unfold norm at hn
  split at hn
  · rename_i kbs gs hkb hgs
    rw [sel_eq] at hn
    split at hn
    · rename_i hO
      cases hn
      have hinv := h.rel.inv
      obtain ⟨kl, kspec⟩ := keptB_spec _ _ hkb
      obtain ⟨gl, gspec⟩ := grows_spec _ _ hgs
      have hmk : ∀ vs bs, mkS lc vs bs = ⟨tabT (lc.ks ++ lc.ko.map fun x => x.1) vs, tabM (lc.kb ++ lc.ko.map fun x => x.2.2) bs⟩ := fun vs bs => by unfold mkS; rw [app_eq, app_eq, mapL_eq, mapL_eq]
      rw [hmk]
      simp only [app_eq, mapL_eq] at hO hd ⊢
      have hX := distinct_nodup _ hd
      have hOs := distO_spec _ hO
      let X := lc.kb ++ lc.ko.map (fun x => x.2.2)
      let O := lc.kb.map some ++ gs.map (fun x => x.1)
      let Y := kbs ++ gs.map (fun x => x.2.2)
      have hXO : X.length = O.length := by simp [X, O, gl]
      have hXY : X.length = Y.length := by simp [X, Y, gl, kl]
      let φ' := phiX cx.φ X O
      have hat : ∀ {i x : Nat} {q : Option Nat}, X[i]? = some x → O[i]? = some q → φ' x = q.elim (some ⟨none, 0, 0⟩) cx.φ := fun hx hq => phiX_at hX hXO hx hq
      have hkφ : ∀ b ∈ lc.kb, ∀ l, cx.φ b = some l → φ' b = some l := fun b hb l hl => by
        obtain ⟨i, hi⟩ := List.getElem?_of_mem hb
        have hlt := (List.getElem?_eq_some_iff.1 hi).1
        have h1 : X[i]? = some b := by simp only [X]; rw [List.getElem?_append_left hlt]; exact hi
        have h2 : O[i]? = some (some b) := by simp only [O]; rw [List.getElem?_append_left (by simpa using hlt), List.getElem?_map, hi]; rfl
        rw [hat h1 h2]; exact hl
      -- what stands at a place of the head
      have hplace : ∀ (i x : Nat) (y : Blk S), X[i]? = some x → Y[i]? = some y → ∃ q, O[i]? = some q ∧ ((q = none ∧ (∃ c, y = .rows c [])) ∨ ∃ b z, q = some b ∧ s.m b = some z ∧ z.alive = y.alive ∧ ∀ l, cx.φ b = some l → BlkAt ⟨φ', cx.St⟩ w l y) := fun i x y hx hy => by
        by_cases hlt : i < lc.kb.length
        · have hx' : lc.kb[i]? = some x := by simp only [X] at hx; rwa [List.getElem?_append_left hlt] at hx
          have hy' : kbs[i]? = some y := by simp only [Y] at hy; rwa [List.getElem?_append_left (by omega)] at hy
          refine ⟨some x, by simp only [O]; rw [List.getElem?_append_left (by simpa using hlt), List.getElem?_map, hx']; rfl, .inr ?_⟩
          obtain ⟨z, z1, z2, z3⟩ := kspec i x y hx' hy'
          refine ⟨x, z, rfl, z1, z2, fun l hl => ?_⟩
          have hb := hinv.blk x z l z1 hl
          rcases z3 with ⟨rfl, hnc⟩ | ⟨cs, rfl, rfl⟩
          · exact hb.move (Le.refl _) fun cs e => absurd e (hnc cs)
          · exact BlkAt.clean hinv hkφ hb
        · have hge : lc.kb.length ≤ i := by omega
          have hx' : (lc.ko.map fun x => x.2.2)[i - lc.kb.length]? = some x := by simp only [X] at hx; rwa [List.getElem?_append_right hge] at hx
          have hy' : (gs.map fun x => x.2.2)[i - lc.kb.length]? = some y := by simp only [Y] at hy; rw [List.getElem?_append_right (by omega), kl] at hy; exact hy
          rw [List.getElem?_map] at hx' hy'
          obtain ⟨⟨k, c, nid⟩, hk, rfl⟩ := Option.map_eq_some_iff.1 hx'
          obtain ⟨g, hg, rfl⟩ := Option.map_eq_some_iff.1 hy'
          have hq : O[i]? = some g.1 := by simp only [O]; rw [List.getElem?_append_right (by simpa using hge), List.length_map, List.getElem?_map, hg]; rfl
          obtain ⟨xs, g1, g2, g3⟩ := gspec _ k c nid g hk hg
          refine ⟨g.1, hq, ?_⟩
          rcases g3 with ⟨g4, g5, g6⟩ | ⟨b, c', n', g4, g5, g6⟩
          · exact .inl ⟨g4, c, by rw [g2, g5]⟩
          · refine .inr ⟨b, _, g4, g6, by rw [g2], fun l hl => ?_⟩
            rw [g2]
            exact (hinv.blk b _ l g6 hl).move (Le.refl _) fun cs e => by cases e
      refine ⟨⟨φ', cx.St⟩, ⟨Le.refl _, fun k o ho => .inl ⟨o, ho⟩, fun i hi l hl => hkφ i (hmu i hi) l hl⟩, ⟨⟨h.rel.size, h.rel.defers, fun t => ?_, ?_⟩, fun t => ?_⟩⟩
      · -- the slots
        show TRel _ a _ (tabT _ _ t)
        rcases tabT_cases (lc.ks ++ lc.ko.map fun x => x.1) (lc.ks.map (fun k => Go.SX.clean lc.kb s.m deep (s.t k)) ++ gs.map fun x => x.2.1) t with hj | ⟨i, hi, hv⟩
        · rw [hj]; exact .junk _
        · generalize tabT (lc.ks ++ lc.ko.map fun x => x.1) (lc.ks.map (fun k => Go.SX.clean lc.kb s.m deep (s.t k)) ++ gs.map fun x => x.2.1) t = tv at hv
          by_cases hlt : i < lc.ks.length
          · rw [List.getElem?_append_left hlt] at hi
            rw [List.getElem?_append_left (by simpa using hlt), List.getElem?_map, hi] at hv
            cases hv
            refine (TRel.plain (clean_flat _ _ _ _)).2 ?_
            exact clean_rel hinv hkφ deep _ _ ((TRel.plain (h.flat t)).1 (h.rel.tmps t))
          · rw [List.getElem?_append_right (by omega), List.getElem?_map] at hi
            rw [List.getElem?_append_right (by simp; omega), List.length_map, List.getElem?_map] at hv
            obtain ⟨⟨k, c, nid⟩, hk, rfl⟩ := Option.map_eq_some_iff.1 hi
            obtain ⟨g, hg, rfl⟩ := Option.map_eq_some_iff.1 hv
            obtain ⟨xs, g1, g2, g3⟩ := gspec _ k c nid g hk hg
            rw [g1]
            have hrel := (TRel.plain (h.flat k)).1 (h.rel.tmps k)
            have hq : O[lc.kb.length + (i - lc.ks.length)]? = some g.1 := by simp only [O]; rw [List.getElem?_append_right (by simp), List.length_map, List.getElem?_map, Nat.add_sub_cancel_left, hg]; rfl
            have hx : X[lc.kb.length + (i - lc.ks.length)]? = some nid := by simp only [X]; rw [List.getElem?_append_right (by simp), List.getElem?_map, Nat.add_sub_cancel_left, hk]; rfl
            have hφ := hat hx hq
            show RVal φ' cx.St (a.tmps.getD k undef) _
            generalize a.tmps.getD k undef = tv at hrel ⊢
            rcases g3 with ⟨g4, g5, g6⟩ | ⟨b, c', n', g4, g5, g6⟩
            · rw [g4] at hφ
              rw [g6] at hrel
              cases hrel
              rw [g5]
              exact .own0 hφ
            · rw [g4] at hφ
              rw [g5] at hrel
              simp only [Option.elim] at hφ
              cases hrel with
              | own hl hc =>
                have hlen := (hinv.blk _ _ _ g6 hl).1
                simp only at hlen
                rw [← hlen]
                exact .own (hφ.trans hl) hc
              | own0 hl =>
                have hlen := (hinv.blk _ _ _ g6 hl).1
                simp only at hlen
                rw [← hlen]
                exact .own0 (hφ.trans hl)
      · -- the rows
        have hsome : ∀ x y, tabM X Y x = some y → ∃ (i : Nat) (q : Option Nat), X[i]? = some x ∧ O[i]? = some q ∧ φ' x = q.elim (some ⟨none, 0, 0⟩) cx.φ ∧ ((q = none ∧ (∃ c, y = .rows c [])) ∨ ∃ b z, q = some b ∧ s.m b = some z ∧ z.alive = y.alive ∧ ∀ l, cx.φ b = some l → BlkAt ⟨φ', cx.St⟩ w l y) := fun x y hxy => by
          obtain ⟨i, hx, hy⟩ := tabM_some _ _ _ _ hxy
          obtain ⟨q, hq, h2⟩ := hplace i x y hx hy
          exact ⟨i, q, hx, hq, hat hx hq, h2⟩
        show Inv B M ⟨φ', cx.St⟩ (tabM X Y) w
        refine { base := hinv.base, stable := hinv.stable, free := fun x hx => ?_, has := fun x y hxy => ?_, blk := fun x y l hxy hl => ?_, lt := fun x l k hl hk => ?_,
                 sep := fun x x' y y' l l' k hx hx' hy hy' hl hl' hk hk' => ?_, mine := fun x y l k hxy hy hl hk => ?_ }
        · have hnot := tabM_none _ _ _ hXY hx
          show phiX cx.φ X O x = none
          cases hp : phiX cx.φ X O x with
          | none => rfl
          | some l =>
            obtain ⟨i, q, h1, _⟩ := phiX_some hp
            exact absurd (List.mem_of_getElem? h1) hnot
        · obtain ⟨i, q, h1, h2, h3, h4⟩ := hsome x y hxy
          rcases h4 with ⟨rfl, _⟩ | ⟨b, z, rfl, h5, _⟩
          · exact ⟨_, h3⟩
          · obtain ⟨l, hl⟩ := hinv.has b z h5
            exact ⟨l, h3.trans hl⟩
        · obtain ⟨i, q, h1, h2, h3, h4⟩ := hsome x y hxy
          change φ' x = some l at hl
          rw [h3] at hl
          rcases h4 with ⟨rfl, c, rfl⟩ | ⟨b, z, rfl, h5, h6, h7⟩
          · cases hl
            exact ⟨rfl, rfl⟩
          · exact h7 l hl
        · obtain ⟨i, q, h1, h2, h3⟩ := phiX_some hl
          rcases h3 with ⟨_, rfl⟩ | ⟨b, _, hb⟩
          · cases hk
          · exact hinv.lt b l k hb hk
        · obtain ⟨i, q, h1, h2, h3, h4⟩ := hsome x y hx
          obtain ⟨i', q', f1, f2, f3, f4⟩ := hsome x' y' hx'
          change φ' x = some l at hl
          change φ' x' = some l' at hl'
          rw [h3] at hl
          rw [f3] at hl'
          rcases h4 with ⟨rfl, _⟩ | ⟨b, z, rfl, h5, h6, _⟩
          · cases hl; cases hk
          · rcases f4 with ⟨rfl, _⟩ | ⟨b', z', rfl, f5, f6, _⟩
            · cases hl'; cases hk'
            · have hbb := hinv.sep b b' z z' l l' k h5 f5 (h6.trans hy) (f6.trans hy') hl hl' hk hk'
              subst hbb
              have := hOs i i' b h2 f2
              subst this
              rw [h1] at f1
              cases f1
              rfl
        · obtain ⟨i, q, h1, h2, h3, h4⟩ := hsome x y hxy
          change φ' x = some l at hl
          rw [h3] at hl
          rcases h4 with ⟨rfl, _⟩ | ⟨b, z, rfl, h5, h6, _⟩
          · cases hl; cases hk
          · exact hinv.mine b z l k h5 (h6.trans hy) hl hk
      · show isWhen (tabT _ _ t) = false
        rcases tabT_cases (lc.ks ++ lc.ko.map fun x => x.1) (lc.ks.map (fun k => Go.SX.clean lc.kb s.m deep (s.t k)) ++ gs.map fun x => x.2.1) t with hj | ⟨i, hi, hv⟩
        · rw [hj]; rfl
        · generalize tabT (lc.ks ++ lc.ko.map fun x => x.1) (lc.ks.map (fun k => Go.SX.clean lc.kb s.m deep (s.t k)) ++ gs.map fun x => x.2.1) t = tv at hv
          by_cases hlt : i < lc.ks.length
          · rw [List.getElem?_append_left (by simpa using hlt), List.getElem?_map] at hv
            obtain ⟨k, _, rfl⟩ := Option.map_eq_some_iff.1 hv
            exact clean_flat _ _ _ _
          · rw [List.getElem?_append_right (by omega), List.getElem?_map] at hi
            rw [List.getElem?_append_right (by simp; omega), List.length_map, List.getElem?_map] at hv
            obtain ⟨⟨k, c, nid⟩, hk, rfl⟩ := Option.map_eq_some_iff.1 hi
            obtain ⟨g, hg, rfl⟩ := Option.map_eq_some_iff.1 hv
            obtain ⟨xs, g1, _⟩ := gspec _ k c nid g hk hg
            rw [g1]; rfl
    · cases hn
  · cases hn
end
end Go.SX

/- Code, sound. No statement of the seat is proved here. -/
namespace Go.SX
section
variable {S : Sg} [Enc S] [EncLaws S] {P : Program} {E : Env S} {N B : Nat} {M : Nat → Prop} {s s' : AS S} {out : Out S} {mu : List Nat}

def toX : XE → Exit
  | .normal => .normal
  | .exit i => .exit i
  | .ret => .ret

def dstOK (N : Nat) : Code → Bool
  | .region _ ops _ => allL (fun o => match o.dst with | some d => Nat.blt d N | none => true) ops.toList
  | .seq a b => sel (dstOK N a) (dstOK N b) false
  | .cond _ a b => sel (dstOK N a) (dstOK N b) false
  | .block _ c => dstOK N c
  | .loop c => dstOK N c
  | .scope c => dstOK N c
  | _ => true

/-- A loop's contract comes to what its rounds come to. -/
def LpOk (E : Env S) (mu : List Nat) (c : Code) (lc : LC S) : Prop :=
  (∀ x ∈ mu, x ∈ lc.hd.kb) ∧ distinct (app lc.hd.kb (mapL (fun x => x.2.2) lc.hd.ko)) = true ∧
    ∀ vs bs K o, lc.run vs bs K = some o → ∃ n, iter E lc.hd c n vs bs K = some o

def LpsOk (E : Env S) (mu : List Nat) : Code → Prop
  | .seq a b => LpsOk E mu a ∧ LpsOk E mu b
  | .cond _ a b => LpsOk E mu a ∧ LpsOk E mu b
  | .block _ c => LpsOk E mu c
  | .loop c => (∀ i lc, firstRegion c = some i → E.lp i = some lc → LpOk E mu c lc) ∧ LpsOk E mu c
  | .scope c => LpsOk E mu c
  | _ => True

def After1 (mu : List Nat) (N B : Nat) (M : Nat → Prop) (cx : Cx) (w : World) (s1 : AS S) (a' : Act) (w' : World) : Prop := ∃ cx', Ext1 mu B M cx cx' ∧ FrB B M w w' ∧ Rel1 N B M cx' s1 a' w'

def Runs (P : Program) (mu : List Nat) (N : Nat) (c : Code) (s : AS S) (e : XE) (s1 : AS S) : Prop :=
  ∀ (B : Nat) (M : Nat → Prop) (cx : Cx) (a : Act) (w : World), Rel1 N B M cx s a w → c.wp P (fun x a' w' => x = toX e ∧ After1 mu N B M cx w s1 a' w') a w

theorem Runs.here {c : Code} {e : XE} (h : ∀ (a : Act) (w : World) (Q : Exit → Act → World → Prop), Q (toX e) a w → c.wp P Q a w) : Runs P mu N c s e s := fun B M cx a w hr => h a w _ ⟨rfl, cx, Ext1.refl _ _ _ _, Fr.refl _ _, hr⟩

theorem decided_rel {cx : Cx} {a : Act} {w : World} {c : Operand} {b : Bool} (h : Rel1 N B M cx s a w) (hc : a.eval c = .bool b) : Rel1 N B M cx (decided c b s) a w := by
  cases c with
  | tmp g =>
    refine ⟨⟨h.rel.size, h.rel.defers, fun t => ?_, h.rel.inv⟩, fun t => ?_⟩
    · show TRel cx a _ (upd s.t g (.bool b) t)
      by_cases e : t = g
      · subst e
        rw [upd_same]
        have : a.tmps.getD t undef = .bool b := hc
        rw [this]
        exact .bool b
      · rw [upd_other _ _ e]; exact h.rel.tmps t
    · show isWhen (upd s.t g (.bool b) t) = false
      by_cases e : t = g
      · subst e; rw [upd_same]; rfl
      · rw [upd_other _ _ e]; exact h.flat t
  | _ => exact h

/-- The rounds of a loop, in the abstract. -/
inductive Chain (P : Program) (E : Env S) (mu : List Nat) (N : Nat) (c : Code) (hd : LH S) : Nat → List (RV S) → List (Blk S) → XE → List (RV S) → List (Blk S) → Prop
  | stop {n vs bs e s1 vs' bs'} (h : Runs P mu N c (mkS hd vs bs) e s1) (he : e ≠ .normal) (hn : norm hd s1 = some (vs', bs')) : Chain P E mu N c hd n vs bs e vs' bs'
  | more {n vs bs s1 vs1 bs1 e vs' bs'} (h : Runs P mu N c (mkS hd vs bs) .normal s1) (hn : norm hd s1 = some (vs1, bs1)) (g : Chain P E mu N c hd n vs1 bs1 e vs' bs') : Chain P E mu N c hd (n + 1) vs bs e vs' bs'

theorem iter_chain {c : Code} {hd : LH S} (hc : ∀ (s : AS S) (K : XE → AS S → Ans S) (out : Out S), xcode E c s K = some out → ∃ e s1, K e s1 = some out ∧ Runs P mu N c s e s1) {K : XE → List (RV S) → List (Blk S) → Ans S} :
    ∀ (n : Nat) (vs : List (RV S)) (bs : List (Blk S)), iter E hd c n vs bs K = some out → ∃ e vs' bs', K e vs' bs' = some out ∧ Chain P E mu N c hd n vs bs e vs' bs'
  | 0, vs, bs, h => by simp [iter] at h
  | n + 1, vs, bs, h => by
    simp only [iter] at h
    obtain ⟨e, s1, h1, h2⟩ := hc _ _ _ h
    split at h1
    · cases h1
    · rename_i vs' bs' hn
      split at h1
      · obtain ⟨e', vs2, bs2, g1, g2⟩ := iter_chain hc n vs' bs' h1
        exact ⟨e', vs2, bs2, g1, .more h2 hn g2⟩
      · exact ⟨_, vs', bs', h1, .stop h2 (by simp) hn⟩
      · exact ⟨_, vs', bs', h1, .stop h2 (by simp) hn⟩

open Classical in
theorem chain_wp {c : Code} {hd : LH S} (hd1 : distinct (app hd.kb (mapL (fun x => x.2.2) hd.ko)) = true) (hmu : ∀ x ∈ mu, x ∈ hd.kb) {n : Nat} {vs vs' : List (RV S)} {bs bs' : List (Blk S)} {e : XE} (h : Chain P E mu N c hd n vs bs e vs' bs') :
    Runs P mu N (.loop c) (mkS hd vs bs) e (mkS hd vs' bs') := by
  intro B M cx a w hr
  let J : Nat → Act → World → Prop := fun n a1 w1 => ∃ vs1 bs1 cx1, Chain P E mu N c hd n vs1 bs1 e vs' bs' ∧ Ext1 mu B M cx cx1 ∧ FrB B M w w1 ∧ Rel1 N B M cx1 (mkS hd vs1 bs1) a1 w1
  let I : Act → World → Prop := fun a1 w1 => ∃ n, J n a1 w1
  have least : ∀ a1 w1, I a1 w1 → ∃ n, J n a1 w1 ∧ ∀ k, J k a1 w1 → n ≤ k := fun a1 w1 ⟨n, hn⟩ => by
    induction n using Nat.strongRecOn with
    | ind n ih =>
      by_cases hk : ∃ k, k < n ∧ J k a1 w1
      · obtain ⟨k, hk1, hk2⟩ := hk
        exact ih k hk1 hk2
      · refine ⟨n, hn, fun k hk' => Nat.le_of_not_lt fun hlt => hk ⟨k, hlt, hk'⟩⟩
  let μ : Act → World → Nat := fun a1 w1 => if h : I a1 w1 then Classical.choose (least a1 w1 h) else 0
  have hμ : ∀ a1 w1, I a1 w1 → J (μ a1 w1) a1 w1 ∧ ∀ k, J k a1 w1 → μ a1 w1 ≤ k := fun a1 w1 h => by
    simp only [μ, dif_pos h]
    exact Classical.choose_spec (least a1 w1 h)
  refine wp_loop I μ ⟨n, vs, bs, cx, h, Ext1.refl _ _ _ _, Fr.refl _ _, hr⟩ fun a1 w1 hI => ?_
  obtain ⟨⟨vs1, bs1, cx1, hch, hx, hf, hr1⟩, hmin⟩ := hμ a1 w1 hI
  generalize hm : μ a1 w1 = m at hch hmin ⊢
  cases hch with
  | @stop _ _ _ _ s1 _ _ hrun hne hn =>
    refine wp_mono (hrun B M cx1 a1 w1 hr1) fun x a2 w2 ⟨hxe, cx2, x2, f2, r2⟩ => ?_
    obtain ⟨cx3, x3, r3⟩ := norm_rel r2 hn hd1 hmu
    subst hxe
    cases e with
    | normal => exact absurd rfl hne
    | exit i => exact ⟨rfl, cx3, (hx.trans x2).trans x3, hf.trans f2, r3⟩
    | ret => exact ⟨rfl, cx3, (hx.trans x2).trans x3, hf.trans f2, r3⟩
  | @more n' _ _ s1 vs2 bs2 _ _ _ hrun hn hg =>
    refine wp_mono (hrun B M cx1 a1 w1 hr1) fun x a2 w2 ⟨hxe, cx2, x2, f2, r2⟩ => ?_
    obtain ⟨cx3, x3, r3⟩ := norm_rel r2 hn hd1 hmu
    subst hxe
    have hJ : J n' a2 w2 := ⟨vs2, bs2, cx3, hg, (hx.trans x2).trans x3, hf.trans f2, r3⟩
    exact ⟨⟨n', hJ⟩, Nat.lt_succ_of_le ((hμ a2 w2 ⟨n', hJ⟩).2 n' hJ)⟩

theorem xcode_fine (hE : EnvOk P E) (hm : P.follows .mixedOrders = true) : ∀ (c : Code) (s : AS S) (K : XE → AS S → Ans S) (out : Out S), dstOK N c = true → LpsOk E mu c → xcode E c s K = some out → ∃ e s1, K e s1 = some out ∧ Runs P mu N c s e s1 := by
  intro c
  induction c with
  | skip => intro s K out _ _ h; exact ⟨_, _, h, Runs.here fun a w Q hq => wp_skip hq⟩
  | label l => intro s K out _ _ h; exact ⟨_, _, h, Runs.here fun a w Q hq => wp_label hq⟩
  | exit id => intro s K out _ _ h; exact ⟨_, _, h, Runs.here fun a w Q hq => wp_exit hq⟩
  | ret => intro s K out _ _ h; exact ⟨_, _, h, Runs.here fun a w Q hq => wp_ret hq⟩
  | region id ops draw =>
    intro s K out hN _ h
    simp only [xcode] at h
    simp only [dstOK] at hN
    rw [allL_eq, List.all_eq_true] at hN
    obtain ⟨s1, h1, h2⟩ := xregion_fine (N := N) (id := id) hE hm (fun o ho d hd => by
      have := hN o (by simpa using ho)
      rw [hd] at this
      exact Nat.le_of_ble_eq_true this) h
    exact ⟨_, _, h1, fun B M cx a w hr => wp_mono (h2 B M cx a w hr) fun x a' w' ⟨hx, cx', x1, f1, r1⟩ => ⟨hx, cx', x1.to1, f1, r1⟩⟩
  | seq a b iha ihb =>
    intro s K out hN hL h
    obtain ⟨n1, n2⟩ := sel_and hN
    simp only [xcode] at h
    obtain ⟨e, s1, h1, h2⟩ := iha _ _ _ n1 hL.1 h
    cases e with
    | normal =>
      obtain ⟨e', s2, g1, g2⟩ := ihb _ _ _ n2 hL.2 h1
      refine ⟨e', s2, g1, fun B M cx a w hr => wp_seq (wp_mono (h2 B M cx a w hr) fun x a1 w1 ⟨hx, cx1, x1, f1, r1⟩ => ?_)⟩
      subst hx
      exact wp_mono (g2 B M cx1 a1 w1 r1) fun y a2 w2 ⟨hy, cx2, x2, f2, r2⟩ => ⟨hy, cx2, x1.trans x2, f1.trans f2, r2⟩
    | exit i =>
      refine ⟨_, _, h1, fun B M cx a w hr => wp_seq (wp_mono (h2 B M cx a w hr) fun x a1 w1 hx => ?_)⟩
      rw [hx.1]; exact ⟨rfl, hx.2⟩
    | ret =>
      refine ⟨_, _, h1, fun B M cx a w hr => wp_seq (wp_mono (h2 B M cx a w hr) fun x a1 w1 hx => ?_)⟩
      rw [hx.1]; exact ⟨rfl, hx.2⟩
  | cond c a b iha ihb =>
    intro s K out hN hL h
    obtain ⟨n1, n2⟩ := sel_and hN
    simp only [xcode] at h
    split at h
    · rename_i q hq
      have hv : ∀ (B : Nat) (M : Nat → Prop) (cx : Cx) (a : Act) (w : World), Rel1 N B M cx s a w → a.eval c = .bool q := fun B M cx a w hr => by
        have := ev_rel hr.rel c
        rw [hq] at this
        exact this.inv_bool
      rcases cond_some h with ⟨hq', h⟩ | ⟨hq', h⟩
      · obtain ⟨e, s1, h1, h2⟩ := iha _ _ _ n1 hL.1 h
        refine ⟨e, s1, h1, fun B M cx a w hr => ?_⟩
        have hc := hv B M cx a w hr
        rw [hq'] at hc
        exact wp_cond_true hc (h2 B M cx a w (decided_rel hr hc))
      · obtain ⟨e, s1, h1, h2⟩ := ihb _ _ _ n2 hL.2 h
        refine ⟨e, s1, h1, fun B M cx a w hr => ?_⟩
        have hc := hv B M cx a w hr
        rw [hq'] at hc
        exact wp_cond_false hc (h2 B M cx a w (decided_rel hr hc))
    · cases h
  | block id c ih =>
    intro s K out hN hL h
    simp only [xcode] at h
    obtain ⟨e, s1, h1, h2⟩ := ih _ _ _ hN hL h
    cases e with
    | normal =>
      refine ⟨_, _, h1, fun B M cx a w hr => wp_block (wp_mono (h2 B M cx a w hr) fun x a1 w1 hx => ?_)⟩
      rw [hx.1]; exact ⟨rfl, hx.2⟩
    | ret =>
      refine ⟨_, _, h1, fun B M cx a w hr => wp_block (wp_mono (h2 B M cx a w hr) fun x a1 w1 hx => ?_)⟩
      rw [hx.1]; exact ⟨rfl, hx.2⟩
    | exit i =>
      simp only at h1
      split at h1
      · rename_i hi
        have hi := Nat.eq_of_beq_eq_true hi
        subst hi
        refine ⟨_, _, h1, fun B M cx a w hr => wp_block (wp_mono (h2 B M cx a w hr) fun x a1 w1 hx => ?_)⟩
        rw [hx.1]
        simp only [toX, Exit.inBlock, if_true]
        exact ⟨trivial, hx.2⟩
      · rename_i hi
        have hi : i ≠ id := fun e => by rw [e, Nat.beq_refl] at hi; cases hi
        refine ⟨_, _, h1, fun B M cx a w hr => wp_block (wp_mono (h2 B M cx a w hr) fun x a1 w1 hx => ?_)⟩
        rw [hx.1]
        simp only [toX, Exit.inBlock, if_neg hi]
        exact ⟨trivial, hx.2⟩
  | loop c ih =>
    intro s K out hN hL h
    simp only [xcode] at h
    split at h
    · rename_i i hi
      split at h
      · rename_i lc hlc
        split at h
        · rename_i vs bs hn
          obtain ⟨hL1, hL2⟩ := hL
          obtain ⟨l1, l2, l3⟩ := hL1 i lc hi hlc
          obtain ⟨n, hit⟩ := l3 _ _ _ _ h
          obtain ⟨e, vs', bs', h1, h2⟩ := iter_chain (P := P) (mu := mu) (N := N) (fun s K out h => ih s K out hN hL2 h) n vs bs hit
          refine ⟨_, _, h1, fun B M cx a w hr => ?_⟩
          obtain ⟨cx1, x1, r1⟩ := norm_rel hr hn l2 l1
          exact wp_mono (chain_wp l2 l1 h2 B M cx1 a w r1) fun y a2 w2 ⟨hy, cx2, x2, f2, r2⟩ => ⟨hy, cx2, x1.trans x2, f2, r2⟩
        · cases h
      · cases h
    · cases h
  | scope c ih =>
    intro s K out hN hL h
    simp only [xcode] at h
    obtain ⟨e, s1, h1, h2⟩ := ih _ _ _ hN hL h
    refine ⟨e, s1, h1, fun B M cx a w hr => wp_scope_straight (wp_mono (h2 B M cx a w hr) fun x a1 w1 hx => ?_)⟩
    rw [hx.1]
    cases e <;> exact ⟨rfl, hx.2⟩
  | _ => intro s K out _ _ h; cases h
end
end Go.SX

/- Functions: results and what is handed back. No statement of the seat is proved here. -/
namespace Go.SX
section
variable {S : Sg} [Enc S] [EncLaws S] {P : Program} {E : Env S} {N B : Nat} {M : Nat → Prop} {s s' : AS S} {out : Out S} {mu : List Nat}

def resF (tmps : Array Value) : ResultVar → Sem Value := fun
  | .tmp t => pure (tmps.getD t undef)
  | .cell a t => do loadVar t (← asAddr (tmps.getD a undef))

theorem run_resF (hE : EnvTy P E) {cx : Cx} {a : Act} {w : World} (h : Rel1 N B M cx s a w) : ∀ (l : List ResultVar) (rs : List (RV S)), resOf E s l = some rs →
    ∃ us : List Value, (l.mapM (resF a.tmps)).run P w = .ok us w ∧ us.length = rs.length ∧ ∀ (j : Nat) (u : Value) (r : RV S), us[j]? = some u → rs[j]? = some r → cx.rel u r
  | [], rs, hr => by
    simp only [resOf, Option.some.injEq] at hr
    subst hr
    exact ⟨[], by simp, rfl, fun j u r hu => by simp at hu⟩
  | .tmp t :: l, rs, hr => by
    simp only [resOf] at hr
    split at hr
    · rename_i l' hl'
      cases hr
      obtain ⟨us, h1, h2, h3⟩ := run_resF hE h l l' hl'
      refine ⟨a.tmps.getD t undef :: us, ?_, by simp [h2], fun j u r hu hr => ?_⟩
      · simp only [List.mapM_cons, resF, Sem.run_bind, Sem.run_pure, Result.andThen_ok]
        have h1' := h1
        rw [h1']
        simp only [Result.andThen_ok, Sem.run_pure]
      · cases j with
        | zero =>
          simp only [List.getElem?_cons_zero, Option.some.injEq] at hu hr
          subst hu; subst hr
          exact (TRel.plain (h.flat t)).1 (h.rel.tmps t)
        | succ j => exact h3 j u r (by simpa using hu) (by simpa using hr)
    · cases hr
  | .cell c ty :: l, rs, hr => by
    simp only [resOf] at hr
    split at hr
    · rename_i l' ti b e sz q hl' hti hs
      split at hr
      · rename_i cs hm
        split at hr
        · rename_i v hv
          cases hr
          obtain ⟨us, h1, h2, h3⟩ := run_resF hE h l l' hl'
          have hp := (TRel.plain (h.flat c)).1 (h.rel.tmps c)
          rw [hs] at hp
          obtain ⟨k, ln, cp, hpv, hl⟩ := hp.inv_ptr
          obtain ⟨k', arr, ty', g1, g2, g3, g4⟩ := h.rel.inv.blk _ _ _ hm hl
          cases g1
          obtain ⟨u, hu, hrel⟩ := run_loadVar_rel (P := P) (off := 0) (hE.ty _ _ hti) g2 (CellsRel.of fun j r hr => by simpa using g4 j r hr) hv
          refine ⟨u :: us, ?_, by simp [h2], fun j u' r hu' hr' => ?_⟩
          · simp only [List.mapM_cons, resF, hpv, asAddr, Sem.run_bind, Sem.run_pure, Result.andThen_ok]
            rw [Nat.zero_add] at hu
            have hu2 : (loadVar ty ⟨k, e * sz + q, none⟩).run P w = .ok u w := hu
            rw [hu2]
            simp only [Result.andThen_ok]
            rw [h1]
            simp only [Result.andThen_ok, Sem.run_pure]
          · cases j with
            | zero =>
              simp only [List.getElem?_cons_zero, Option.some.injEq] at hu' hr'
              subst hu'; subst hr'
              exact hrel
            | succ j => exact h3 j u' r (by simpa using hu') (by simpa using hr')
        · cases hr
      · cases hr
    · cases hr

theorem run_results (hE : EnvTy P E) {fn : Func} {cx : Cx} {a : Act} {w : World} (h : Rel1 N B M cx s a w) {rs : List (RV S)} (hr : resOf E s fn.results.toList = some rs) :
    ∃ v, (results fn a.tmps).run P w = .ok v w ∧ cx.rel v (single rs) := by
  obtain ⟨us, h1, h2, h3⟩ := run_resF hE h _ _ hr
  have hm : (fn.results.mapM (resF a.tmps)).run P w = .ok us.toArray w := by
    rw [← Array.toArray_toList (xs := fn.results), List.mapM_toArray]
    rw [← bind_pure_comp]
    simp only [Sem.run_bind, h1, Result.andThen_ok, Sem.run_pure]
  refine ⟨if h : us.toArray.size = 1 then us.toArray[0] else .tuple us.toArray, ?_, ?_⟩
  · have hres : results fn a.tmps = (do let vs ← fn.results.mapM (resF a.tmps); pure (if h : vs.size = 1 then vs[0] else .tuple vs)) := rfl
    rw [hres]
    simp only [Sem.run_bind, hm, Result.andThen_ok, Sem.run_pure]
  · by_cases hlen : us.length = 1
    · obtain ⟨u, rfl⟩ := List.length_eq_one_iff.1 hlen
      obtain ⟨r, rfl⟩ := List.length_eq_one_iff.1 (h2.symm.trans hlen)
      exact h3 0 u r rfl rfl
    · rw [dif_neg (by simpa using hlen)]
      have : single rs = .tuple rs := by
        cases rs with
        | nil => rfl
        | cons x r => cases r with
          | nil => simp at h2; exact absurd h2 hlen
          | cons y r => rfl
      rw [this]
      exact .tuple (by simpa using h2) fun j u r hu hr => h3 j u r (by simpa using hu) hr

theorem idxOf_some (b : Nat) : ∀ (fr : List (Nat × Blk S)) (i j : Nat), idxOf b i fr = some j → ∃ q x, j = i + q ∧ fr[q]? = some (b, x)
  | [], i, j, h => by simp [idxOf] at h
  | (a, y) :: r, i, j, h => by
    simp only [idxOf, sel_eq] at h
    split at h
    · rename_i he
      have := Nat.eq_of_beq_eq_true he
      subst this
      cases h
      exact ⟨0, y, rfl, rfl⟩
    · obtain ⟨q, x, h1, h2⟩ := idxOf_some b r (i + 1) j h
      exact ⟨q + 1, x, by omega, by simpa using h2⟩

theorem idxOf_none (b : Nat) : ∀ (fr : List (Nat × Blk S)) (i : Nat), idxOf b i fr = none → b ∉ fr.map (·.1)
  | [], i, h => by simp
  | (a, y) :: r, i, h => by
    simp only [idxOf, sel_eq] at h
    split at h
    · cases h
    · rename_i he
      simp only [List.map_cons, List.mem_cons, not_or]
      exact ⟨fun e => he (by rw [e]; exact Nat.beq_refl _), idxOf_none b r (i + 1) h⟩

/-- The new rows so far: each a row of the state that may not be written by the caller, each once. -/
def FrOK (m : Nat → Option (Blk S)) (mu : List Nat) (fr : List (Nat × Blk S)) : Prop :=
  (fr.map (·.1)).Nodup ∧ ∀ b x, (b, x) ∈ fr → b ∉ mu ∧ m b = some x ∧ ∃ c xs, x = .rows c xs

def phiF (φ : Phi) (fr : List (Nat × Blk S)) : Phi := fun j => match fr[j]? with | some (b, _) => φ b | none => none

theorem phiF_le {φ : Phi} {fr fr' : List (Nat × Blk S)} (h : ∀ (j : Nat) p, fr[j]? = some p → fr'[j]? = some p) : Le (phiF φ fr) (phiF φ fr') := fun j l hj => by
  unfold phiF at hj ⊢
  split at hj
  · rename_i b x hb
    rw [h j _ hb]; exact hj
  · cases hj

theorem expo_spec {cx : Cx} {m : Nat → Option (Blk S)} : ∀ (n : Nat) (v : Value) (r r' : RV S) (fr fr' : List (Nat × Blk S)), expo m mu n r fr = some (r', fr') → FrOK m mu fr → cx.rel v r →
    FrOK m mu fr' ∧ (∀ (j : Nat) p, fr[j]? = some p → fr'[j]? = some p) ∧ RVal (phiF cx.φ fr') cx.St v r'
  | 0, v, r, r', fr, fr', h, _, _ => by simp [expo] at h
  | n + 1, v, r, r', fr, fr', h, hfr, hr => by
    have hl : ∀ (l l' : List (RV S)) (fr fr' : List (Nat × Blk S)) (arr : List Value), expoL (expo m mu n) l fr = some (l', fr') → FrOK m mu fr → arr.length = l.length → (∀ (j : Nat) (u : Value) (r : RV S), arr[j]? = some u → l[j]? = some r → RVal cx.φ cx.St u r) →
        FrOK m mu fr' ∧ (∀ (j : Nat) p, fr[j]? = some p → fr'[j]? = some p) ∧ l'.length = l.length ∧ ∀ (j : Nat) (u : Value) (r : RV S), arr[j]? = some u → l'[j]? = some r → RVal (phiF cx.φ fr') cx.St u r := fun l => by
      induction l with
      | nil =>
        intro l' fr fr' arr h hfr _ _
        simp only [expoL, Option.some.injEq, Prod.mk.injEq] at h
        obtain ⟨rfl, rfl⟩ := h
        exact ⟨hfr, fun _ _ h => h, rfl, fun j u r _ hr => by simp at hr⟩
      | cons x l ih =>
        intro l' fr fr' arr h hfr hlen hrel
        cases arr with
        | nil => simp at hlen
        | cons u0 arr =>
          simp only [expoL] at h
          split at h
          · cases h
          · rename_i x' fr1 hx
            split at h
            · rename_i l1 fr2 hl1
              cases h
              obtain ⟨a1, a2, a3⟩ := expo_spec n u0 x x' fr fr1 hx hfr (hrel 0 u0 x rfl rfl)
              obtain ⟨b1, b2, b3, b4⟩ := ih l1 fr1 fr' arr hl1 a1 (by simpa using hlen) fun j u r hu hr => hrel (j + 1) u r (by simpa using hu) (by simpa using hr)
              refine ⟨b1, fun j p hp => b2 j p (a2 j p hp), by simp [b3], fun j u r hu hr => ?_⟩
              cases j with
              | zero =>
                simp only [List.getElem?_cons_zero, Option.some.injEq] at hu hr
                subst hu; subst hr
                exact RVal.mono (phiF_le b2) (Le.refl _) a3
              | succ j => exact b4 j u r (by simpa using hu) (by simpa using hr)
            · cases h
    have same : r' = r → fr' = fr → refs 1 r = false → FrOK m mu fr' ∧ (∀ (j : Nat) p, fr[j]? = some p → fr'[j]? = some p) ∧ RVal (phiF cx.φ fr') cx.St v r' := fun e1 e2 hn => by
      subst e1; subst e2
      exact ⟨hfr, fun _ _ h => h, RVal.phi hr 1 hn⟩
    cases r with
    | own b c k =>
      simp only [expo, sel_eq] at h
      split at h
      · cases h
      · rename_i hmu
        split at h
        · rename_i j hj
          cases h
          obtain ⟨q, x, hq, hx⟩ := idxOf_some b fr 0 j hj
          rw [Nat.zero_add] at hq
          subst hq
          have hφ : phiF cx.φ fr j = cx.φ b := by unfold phiF; rw [hx]
          refine ⟨hfr, fun _ _ h => h, ?_⟩
          cases hr with
          | own hl hc => exact .own (hφ.trans hl) hc
          | own0 hl => exact .own0 (hφ.trans hl)
        · rename_i hj
          split at h
          · rename_i d xs hm
            cases h
            have hnot := idxOf_none b fr 0 hj
            rw [app_eq, cnt_eq]
            have hat : (fr ++ [(b, Blk.rows d xs)])[fr.length]? = some (b, .rows d xs) := by simp
            have hφ : phiF cx.φ (fr ++ [(b, .rows d xs)]) fr.length = cx.φ b := by unfold phiF; rw [hat]
            refine ⟨⟨?_, fun b' x hb' => ?_⟩, fun j p hp => ?_, ?_⟩
            · rw [List.map_append, List.nodup_append]
              refine ⟨hfr.1, by simp, fun a ha b' hb' => ?_⟩
              simp at hb'
              subst hb'
              intro e
              subst e
              exact hnot ha
            · rcases List.mem_append.1 hb' with hb' | hb'
              · exact hfr.2 b' x hb'
              · simp at hb'
                obtain ⟨rfl, rfl⟩ := hb'
                exact ⟨fun hin => hmu ((memN_iff _ _).2 hin), hm, d, xs, rfl⟩
            · rw [List.getElem?_append_left (List.getElem?_eq_some_iff.1 hp).1]; exact hp
            · cases hr with
              | own hl hc => exact .own (hφ.trans hl) hc
              | own0 hl => exact .own0 (hφ.trans hl)
          · cases h
    | slice b c i0 k =>
      simp only [expo, sel_eq] at h
      split at h
      · cases h
      · rename_i hmu
        split at h
        · rename_i j hj
          cases h
          obtain ⟨q, x, hq, hx⟩ := idxOf_some b fr 0 j hj
          rw [Nat.zero_add] at hq
          subst hq
          have hφ : phiF cx.φ fr j = cx.φ b := by unfold phiF; rw [hx]
          refine ⟨hfr, fun _ _ h => h, ?_⟩
          cases hr with
          | slice hl hc hf => exact .slice (hφ.trans hl) hc hf
          | slice0 hl hg => exact .slice0 (hφ.trans hl) hg
        · rename_i hj
          split at h
          · rename_i d xs hm
            cases h
            have hnot := idxOf_none b fr 0 hj
            rw [app_eq, cnt_eq]
            have hat : (fr ++ [(b, Blk.rows d xs)])[fr.length]? = some (b, .rows d xs) := by simp
            have hφ : phiF cx.φ (fr ++ [(b, .rows d xs)]) fr.length = cx.φ b := by unfold phiF; rw [hat]
            refine ⟨⟨?_, fun b' x hb' => ?_⟩, fun j p hp => ?_, ?_⟩
            · rw [List.map_append, List.nodup_append]
              refine ⟨hfr.1, by simp, fun a ha b' hb' => ?_⟩
              simp at hb'
              subst hb'
              intro e
              subst e
              exact hnot ha
            · rcases List.mem_append.1 hb' with hb' | hb'
              · exact hfr.2 b' x hb'
              · simp at hb'
                obtain ⟨rfl, rfl⟩ := hb'
                exact ⟨fun hin => hmu ((memN_iff _ _).2 hin), hm, d, xs, rfl⟩
            · rw [List.getElem?_append_left (List.getElem?_eq_some_iff.1 hp).1]; exact hp
            · cases hr with
              | slice hl hc hf => exact .slice (hφ.trans hl) hc hf
              | slice0 hl hg => exact .slice0 (hφ.trans hl) hg
          · cases h
    | agg l =>
      simp only [expo] at h
      split at h
      · rename_i l' fr1 hl'
        cases h
        obtain ⟨arr, rfl, g1, g2⟩ := hr.inv_agg
        obtain ⟨a1, a2, a3, a4⟩ := hl l l' fr fr' arr.toList hl' hfr (by simpa using g1) fun j u r hu hr => g2 j u r (by simpa using hu) hr
        exact ⟨a1, a2, .agg (by rw [a3]; exact g1) fun j u r hu hr => a4 j u r (by simpa using hu) hr⟩
      · cases h
    | tuple l =>
      simp only [expo] at h
      split at h
      · rename_i l' fr1 hl'
        cases h
        obtain ⟨arr, rfl, g1, g2⟩ := hr.inv_tuple
        obtain ⟨a1, a2, a3, a4⟩ := hl l l' fr fr' arr.toList hl' hfr (by simpa using g1) fun j u r hu hr => g2 j u r (by simpa using hu) hr
        exact ⟨a1, a2, .tuple (by rw [a3]; exact g1) fun j u r hu hr => a4 j u r (by simpa using hu) hr⟩
      · cases h
    | func f l =>
      simp only [expo] at h
      split at h
      · cases h; exact same rfl rfl rfl
      · cases h
    | ptr b e sz q => simp [expo] at h
    | junk => simp [expo] at h
    | when g b q => cases hr
    | iface t q =>
      simp only [expo] at h
      split at h
      · rename_i q' fr1 hq
        cases h
        cases hr with
        | iface g =>
          obtain ⟨a1, a2, a3⟩ := expo_spec n _ q q' fr fr' hq hfr g
          exact ⟨a1, a2, .iface a3⟩
      · cases h
    | rptr l q =>
      simp only [expo, sel_eq] at h
      split at h
      · cases h
      · rename_i hn
        cases h
        exact ⟨hfr, fun _ _ h => h, RVal.phi hr (n + 1) (by simpa [refs] using hn)⟩
    | _ =>
      simp only [expo, Option.some.injEq, Prod.mk.injEq] at h
      exact same h.1.symm h.2.symm rfl
end
end Go.SX

/- Functions, sound. No statement of the seat is proved here. -/
namespace Go.SX
section
variable {S : Sg} [Enc S] [EncLaws S] {P : Program} {E : Env S} {s : AS S} {out : Out S} {mu : List Nat}

theorem mutsBack_spec {m : Nat → Option (Blk S)} : ∀ (l : List Nat) (bs : List (Blk S)), mutsBack m l = some bs → bs.length = l.length ∧ ∀ (i id : Nat) (x : Blk S), l[i]? = some id → bs[i]? = some x →
    m id = some x ∧ x.alive = true ∧ ∀ cs, x = .cells cs → ∀ r ∈ cs, refs deep r = false
  | [], bs, h => by simp only [mutsBack, Option.some.injEq] at h; subst h; exact ⟨rfl, fun i id x hi => by simp at hi⟩
  | j :: r, bs, h => by
    simp only [mutsBack] at h
    split at h
    · cases h
    · rename_i l hl
      obtain ⟨h1, h2⟩ := mutsBack_spec r l hl
      split at h
      · rename_i c xs hm
        cases h
        refine ⟨by simp [h1], fun i id x hi hx => ?_⟩
        cases i with
        | zero => simp only [List.getElem?_cons_zero, Option.some.injEq] at hi hx; subst hi; subst hx; exact ⟨hm, rfl, fun cs e => by cases e⟩
        | succ i => exact h2 i id x (by simpa using hi) (by simpa using hx)
      · rename_i cs hm
        rw [sel_eq] at h
        split at h
        · cases h
        · rename_i hcs
          cases h
          refine ⟨by simp [h1], fun i id x hi hx => ?_⟩
          cases i with
          | zero =>
            simp only [List.getElem?_cons_zero, Option.some.injEq] at hi hx; subst hi; subst hx
            refine ⟨hm, rfl, fun cs' e q hq => ?_⟩
            cases e
            rw [anyL_eq] at hcs
            simp only [List.any_eq_true, not_exists, not_and] at hcs
            simpa using hcs q hq
          | succ i => exact h2 i id x (by simpa using hi) (by simpa using hx)
      · cases h

theorem start_rel {cx : Cx} {w : World} {vs : Array Value} {as : List (RV S)} {bs : List (Blk S)} {ids : List Nat} {n : Nat} {B : Nat} {M : Nat → Prop} (hlen : as.length ≤ n) (ha : ArgsRel cx.φ cx.St vs as) (hi : Inv B M cx (startM ids bs) w) :
    Rel1 n B M cx ⟨startT as, startM ids bs⟩ { tmps := vs ++ Array.replicate (n - vs.size) undef, defers := [] } w := by
  have hsz : vs.size = as.length := ha.1
  have hslot : ∀ t, cx.rel ((vs ++ Array.replicate (n - vs.size) undef).getD t undef) (startT as t) := fun t => by
    unfold startT
    rw [getN_eq, Array.getD_eq_getD_getElem?]
    by_cases ht : t < vs.size
    · rw [Array.getElem?_append_left ht]
      have ht' : t < as.length := by omega
      rw [List.getElem?_eq_getElem ht', Array.getElem?_eq_getElem ht]
      exact ha.2 t _ _ (Array.getElem?_eq_getElem ht) (List.getElem?_eq_getElem ht')
    · rw [Array.getElem?_append_right (by omega), List.getElem?_eq_none (by omega)]
      have : ((Array.replicate (n - vs.size) undef)[t - vs.size]?).getD undef = undef := by
        rw [Array.getElem?_replicate]
        split <;> rfl
      rw [this]
      exact .tuple rfl fun j u r hu => by simp at hu
  refine ⟨⟨by simp; omega, rfl, fun t => (TRel.plain (rel_notwhen (hslot t))).2 (hslot t), hi⟩, fun t => rel_notwhen (hslot t)⟩

theorem finish_post (hE : EnvTy P E) {fn : Func} {K : RV S → List (Blk S) → List (Blk S) → Ans S} (h : finish E fn mu K s = some out) :
    ∃ r bs' fr, K r bs' fr = some out ∧ ∀ (N : Nat) (cx0 cx : Cx) (a : Act) (w0 w : World) (bs : List (Blk S)), (∀ x ∈ mu, ∃ l, cx0.φ x = some l) → Ext1 mu w0.heap.size (Mof cx0 mu) cx0 cx → FrB w0.heap.size (Mof cx0 mu) w0 w → Rel1 N w0.heap.size (Mof cx0 mu) cx s a w →
      ∃ v, (results fn a.tmps).run P w = .ok v w ∧ CallPost cx0 mu w0 r bs' fr v w := by
  unfold finish at h
  split at h
  · cases h
  · rename_i vs hvs
    split at h
    · cases h
    · rename_i r fr hfr
      split at h
      · cases h
      · rename_i bs' hbs
        rw [force_eq] at h
        refine ⟨_, _, _, h, fun N cx0 cx a w0 w bs hmu0 hx hf hr => ?_⟩
        obtain ⟨v, hv, hrel⟩ := run_results hE hr hvs
        obtain ⟨⟨f1, f2⟩, _, f3⟩ := expo_spec deep v _ r [] fr hfr ⟨by simp, fun b x hb => by simp at hb⟩ hrel
        obtain ⟨b1, b2⟩ := mutsBack_spec _ _ hbs
        have hinv := hr.rel.inv
        -- the rows that the caller gave
        have hmuAt : ∀ id ∈ mu, ∃ x, s.m id = some x ∧ x.alive = true := fun id hid => by
          obtain ⟨i, hi⟩ := List.getElem?_of_mem hid
          have hlt : i < bs'.length := by rw [b1]; exact (List.getElem?_eq_some_iff.1 hi).1
          obtain ⟨h1, h2, _⟩ := b2 i id _ hi (List.getElem?_eq_getElem hlt)
          exact ⟨_, h1, h2⟩
        have hM : ∀ k, Mof cx0 mu k → ∃ id ∈ mu, ∃ l, cx.φ id = some l ∧ l.blk = some k := fun k ⟨id, hid, l, hl, hk⟩ => ⟨id, hid, l, hx.mu id hid l hl, hk⟩
        refine ⟨v, hv, phiF cx.φ fr, cx.St, f3, ⟨hx.St, hinv.stable, fun k o hk => ?_⟩, ⟨fun j hj => ?_, fun j x hj => ?_, fun j j' l l' k hl hl' hk hk' => ?_⟩, ⟨b1, fun i id x hi hx' => ?_⟩, ⟨hf.size, fun k hk hn => hf.same k hk fun h => h.elim hn fun h => by omega, hf.os, hf.tape, hf.output⟩⟩
        · rcases hx.new k o hk with h | h | h
          · exact .inl h
          · exact .inr h
          · obtain ⟨id, hid, l, hl, hlk⟩ := hM k h
            obtain ⟨x, hx1, hx2⟩ := hmuAt id hid
            rw [(hinv.mine id x l k hx1 hx2 hl hlk).2] at hk; cases hk
        · unfold phiF
          rw [mapL_eq, List.getElem?_map] at hj
          cases hq : fr[j]? with
          | none => rfl
          | some p => rw [hq] at hj; cases hj
        · rw [mapL_eq, List.getElem?_map] at hj
          obtain ⟨⟨b, y⟩, hp, rfl⟩ := Option.map_eq_some_iff.1 hj
          obtain ⟨g1, g2, c, xs, rfl⟩ := f2 b y (List.mem_of_getElem? hp)
          obtain ⟨l, hl⟩ := hinv.has b _ g2
          refine ⟨rfl, l, by unfold phiF; rw [hp]; exact hl, (hinv.blk b _ l g2 hl).move (Le.refl _) (fun cs e => by cases e), fun k hk => ?_⟩
          have hm := hinv.mine b _ l k g2 rfl hl hk
          refine ⟨hm.1.elim id fun hMk => ?_, hm.2⟩
          obtain ⟨id', hid, l', hl', hlk⟩ := hM k hMk
          obtain ⟨z, hz1, hz2⟩ := hmuAt id' hid
          have := hinv.sep b id' _ z l l' k g2 hz1 rfl hz2 hl hl' hk hlk
          subst this
          exact absurd hid g1
        · unfold phiF at hl hl'
          split at hl
          · rename_i b x hb
            split at hl'
            · rename_i b' x' hb'
              obtain ⟨_, g2, c, xs, rfl⟩ := f2 b x (List.mem_of_getElem? hb)
              obtain ⟨_, g2', c', xs', rfl⟩ := f2 b' x' (List.mem_of_getElem? hb')
              have := hinv.sep b b' _ _ l l' k g2 g2' rfl rfl hl hl' hk hk'
              subst this
              exact (List.getElem?_inj (l := fr.map (·.1)) (i := j) (j := j') (by simpa using (List.getElem?_eq_some_iff.1 hb).1) f1).1 (by rw [List.getElem?_map, List.getElem?_map, hb, hb']; rfl)
            · cases hl'
          · cases hl
        · obtain ⟨g1, g2, g3⟩ := b2 i id x hi hx'
          exact fun l hl => (hinv.blk id x l g1 (hx.mu id (List.mem_of_getElem? hi) l hl)).move (Le.refl _) g3

/-- A function does what the executor says of it. -/
theorem fn_ok (hE : EnvOk P E) (hm : P.follows .mixedOrders = true) {f : Nat} {fn : Func} {c : Code} (hf : P.funcs[f]? = some fn) (hname : (fn.name == "runtime.NumGoroutine") = false) (hb : fn.body = some c) (hd : dstOK fn.ntmps c = true) (hlp : LpsOk E mu c)
    {as : List (RV S)} {bs : List (Blk S)} {K : RV S → List (Blk S) → List (Blk S) → Ans S} (hlen : as.length ≤ fn.ntmps) (hmu : muIds mu as = mu) (h : xfn E fn mu as bs K = some out) :
    ∃ r bs' fr, K r bs' fr = some out ∧ ∀ (cx : Cx) (w : World) (vs : Array Value) (ids : List Nat), ids = muIds mu as → ids.length = bs.length → ArgsRel cx.φ cx.St vs as → (∀ x ∈ bs, x.alive = true) → Inv w.heap.size (Mof cx ids) cx (startM ids bs) w →
      CallsTo P f vs w (CallPost cx ids w r bs' fr) := by
  unfold xfn at h
  rw [hb] at h
  simp only at h
  obtain ⟨e, s1, h1, h2⟩ := xcode_fine (N := fn.ntmps) (mu := mu) hE hm c _ _ _ hd hlp h
  have hfin : e ≠ .normal ∧ e ≠ .ret ∨ finish E fn mu K s1 = some out := by
    cases e with
    | normal => exact .inr h1
    | exit i => cases h1
    | ret => exact .inr h1
  have hne : e = .normal ∨ e = .ret := by
    cases e with
    | normal => exact .inl rfl
    | exit i => cases h1
    | ret => exact .inr rfl
  have hfin : finish E fn mu K s1 = some out := hfin.resolve_left fun ⟨g1, g2⟩ => hne.elim g1 g2
  obtain ⟨r, bs', fr, k1, k2⟩ := finish_post hE.toEnvTy hfin
  refine ⟨r, bs', fr, k1, fun cx w vs ids hids hl ha hal hi => ?_⟩
  rw [hmu] at hids
  subst hids
  have hmu0 : ∀ x ∈ ids, ∃ l, cx.φ x = some l := fun x hx => by
    cases hs : startM ids bs x with
    | none => exact absurd hx (startM_none _ _ _ hl hs)
    | some y => exact hi.has x y hs
  have hcall : (callFunc f vs).run P w = .ok (.enter f vs) w := by
    have hn : ¬ (fn.name = "runtime.NumGoroutine") := by simpa using hname
    simp [callFunc, program, Sem.run, hf, hn, hb]
  unfold CallsTo
  rw [hcall]
  refine calls_of_wp hf hb (wp_mono (h2 _ _ cx _ w (start_rel hlen ha hi)) fun x a' w' ⟨hx, cx', x1, f1, r1⟩ => ?_)
  obtain ⟨v, hv, hpost⟩ := k2 fn.ntmps cx cx' a' w w' bs hmu0 x1 f1 r1
  subst hx
  rcases hne with rfl | rfl
  · exact ⟨r1.rel.defers, v, hv, hpost⟩
  · exact ⟨r1.rel.defers, v, hv, hpost⟩
end
end Go.SX

/- Functions of the library that have no body. No statement of the seat is proved here. -/
namespace Go.SX
section
variable {S : Sg} [Enc S] [EncLaws S] {P : Program} {f : Nat} {fn : Func}

theorem plain_post {cx : Cx} {w w' : World} {v : Value} {r : RV S} (hinv : ∀ k o, cx.St k = some o → w.heap[k]? = some o) (h : RVal (fun _ => none) cx.St v r) (hf : Fr NoM w w') : CallPost cx [] w r [] [] v w' :=
  ⟨fun _ => none, cx.St, h, ⟨Le.refl _, fun k o hk => (hf.same k (Array.getElem?_eq_some_iff.1 (hinv k o hk)).1 id).trans (hinv k o hk), fun k o hk => .inl ⟨o, hk⟩⟩, ⟨fun _ _ => rfl, fun j x h => by simp at h, fun j j' l l' k h => by simp at h⟩, ⟨rfl, fun i id x h => by simp at h⟩, hf.weaken fun _ h => h.elim⟩

theorem extern_calls {e : Array Value → Sem Value} (hf : P.funcs[f]? = some fn) (hname : (fn.name == "runtime.NumGoroutine") = false) (hb : fn.body.isNone = true) (hn : Extern.findNext fn = none) (he : Extern.find fn = some e)
    {vs : Array Value} {w w' : World} {v : Value} {R : Value → World → Prop} (hr : (e vs).run P w = .ok v w') (h : R v w') : CallsTo P f vs w R := by
  unfold CallsTo
  rw [run_callFunc_extern hf hname hb hn he, hr]
  exact h

theorem ArgsRel.one {φ : Phi} {St : Stb} {vs : Array Value} {r : RV S} (h : ArgsRel φ St vs [r]) : ∃ v, vs = #[v] ∧ RVal φ St v r := by
  obtain ⟨h1, h2⟩ := h
  have : vs.size = 1 := h1
  refine ⟨vs[0], ?_, h2 0 _ r (Array.getElem?_eq_getElem (by omega)) rfl⟩
  apply Array.ext
  · simp [this]
  · intro i h3 h4
    have : i = 0 := by omega
    subst this
    rfl

def fcBits : FC S := FC.ofRun [] fun as _ K => match as with
  | [.flt x] => bif isNan x then none else K (.int .u64 x) [] []
  | _ => none

def fcFrom : FC S := FC.ofRun [] fun as _ K => match as with
  | [.int .u64 n] => bif Nat.blt n.toNat 18446744073709551616 then K (.flt n.toNat) [] [] else none
  | _ => none

def fsqrt (x : Nat) : Nat := (FloatKind.f64.format.sqrt x).getD qnan

def fcSqrt : FC S := FC.ofPure fun as => match as with
  | [.flt x] => some (.flt (fsqrt x))
  | _ => none

theorem bits_ok (hf : P.funcs[f]? = some fn) (hname : (fn.name == "runtime.NumGoroutine") = false) (hb : fn.body.isNone = true) (hn : Extern.findNext fn = none) (he : Extern.find fn = some Extern.MathFloatBits.float64bits) : FcOk P f (fcBits : FC S) where
  pure as r h := by cases h
  run as bs K o h := by
    simp only [fcBits, FC.ofRun] at h
    split at h
    · rename_i x
      obtain ⟨hx, h⟩ := cond_none' h
      refine ⟨_, _, _, h, fun cx w vs ids hids hl ha _ hi => ?_⟩
      have : ids = [] := by rw [hids]; simp [muIds, fcBits, FC.ofRun, mutsOf_nil]
      subst this
      obtain ⟨v, rfl, hv⟩ := ha.one
      obtain ⟨y, rfl, hy⟩ := hv.inv_flt
      have : y = x := by
        rcases hy with h | ⟨_, h⟩
        · exact h
        · rw [hx] at h; cases h
      subst this
      exact extern_calls hf hname hb hn he (w' := w) rfl (plain_post hi.stable (.int _ _) (Fr.refl _ _))
    · cases h

theorem from_ok (hf : P.funcs[f]? = some fn) (hname : (fn.name == "runtime.NumGoroutine") = false) (hb : fn.body.isNone = true) (hn : Extern.findNext fn = none) (he : Extern.find fn = some Extern.MathFloatBits.float64frombits) : FcOk P f (fcFrom : FC S) where
  pure as r h := by cases h
  run as bs K o h := by
    simp only [fcFrom, FC.ofRun] at h
    split at h
    · rename_i n
      obtain ⟨hx, h⟩ := cond_none h
      refine ⟨_, _, _, h, fun cx w vs ids hids hl ha _ hi => ?_⟩
      have : ids = [] := by rw [hids]; simp [muIds, fcFrom, FC.ofRun, mutsOf_nil]
      subst this
      obtain ⟨v, rfl, hv⟩ := ha.one
      rw [hv.inv_int]
      exact extern_calls hf hname hb hn he (w' := w) rfl (plain_post hi.stable (.flt (FEq.refl _) (Nat.le_of_ble_eq_true hx)) (Fr.refl _ _))
    · cases h

open Ieee in
theorem root_nan {n : Nat} {e : Datum} (h : e.isNaN = true) : e.root n = none := by
  cases e with
  | number a b c => cases h
  | infinity a => cases h
  | nan s t => rfl

theorem FEq.sqrt {x x' : Nat} (h : FEq x x') : FloatKind.f64.format.sqrt x = FloatKind.f64.format.sqrt x' := by
  unfold Ieee.Format.sqrt
  rcases h with rfl | ⟨h1, h2⟩
  · rfl
  · rw [root_nan h1, root_nan h2]

theorem sqrt_eq (y : Nat) : Extern.MathSqrt.sqrt #[.float .f64 y] = (match FloatKind.f64.format.sqrt y with
    | some r => pure (.float .f64 r)
    | none => do pure (.float .f64 (← choose (.nanBits .f64 y y)))) := rfl

theorem sqrt_ok (hf : P.funcs[f]? = some fn) (hname : (fn.name == "runtime.NumGoroutine") = false) (hb : fn.body.isNone = true) (hn : Extern.findNext fn = none) (he : Extern.find fn = some Extern.MathSqrt.sqrt) : FcOk P f (fcSqrt : FC S) where
  pure as r h K := by
    simp only [fcSqrt, FC.ofPure] at h ⊢
    rw [h]
  run as bs K o h := by
    simp only [fcSqrt, FC.ofPure] at h
    split at h
    · rename_i r hr
      split at hr
      · rename_i x
        cases hr
        refine ⟨_, _, _, h, fun cx w vs ids hids hl ha _ hi => ?_⟩
        have : ids = [] := by rw [hids]; simp [muIds, fcSqrt, FC.ofPure, mutsOf_nil]
        subst this
        obtain ⟨v, rfl, hv⟩ := ha.one
        obtain ⟨y, rfl, hy⟩ := hv.inv_flt
        have hs := hy.sqrt
        obtain ⟨u, w', h1, h2, h3⟩ := gives_arith (S := S) (P := P) (φ := fun _ => none) (St := cx.St) (w := w) (x := y) (y := y) (sem := Extern.MathSqrt.sqrt #[.float .f64 y]) (FloatKind.f64.format.sqrt y) (fun r hr => Ieee.Format.sqrt_lt _ hr)
          (fun r hr => by rw [sqrt_eq, hr]; rfl) (fun hr => by rw [sqrt_eq, hr]; rfl)
        unfold fsqrt
        rw [← hs]
        exact extern_calls hf hname hb hn he h1 (plain_post hi.stable h2 h3)
      · cases hr
    · cases h
end
end Go.SX

/- PRINTED BY types.py: the element types of this seat as Lean structures, their cells, the table of types. No statement of the seat is proved here. -/
namespace Go.SX
set_option linter.unusedVariables false
structure GVec where
  X : Nat
  Y : Nat
structure GPoint where
  At : GVec
  Depth : Nat
  ID : Int
  Push : Nat
  Drag : Nat
structure GRow where
  A : Int
  B : Int
  WayA : GVec
  WayB : GVec
  TurnA : Nat
  TurnB : Nat
  Bias : Nat
  Low : Nat
  High : Nat
  Push : Nat
  Of : Int
  Ratio : Nat
structure GStill where
  Mass : Nat
  Inertia : Nat
  Speed : GVec
  Spin : Nat
structure GMass where
  Mass : Nat
  Inertia : Nat
  Centre : GVec
structure GShape where
  Kind : Int
  Radius : Nat
  Points : List GVec
structure GPart where
  Shape : GShape
  Density : Nat
  Friction : Nat
  Bounce : Nat
  Sensor : Bool
  Layer : Int
  Mask : Int
structure GPair where
  A : Int
  PartA : Int
  B : Int
  PartB : Int
structure GTouch where
  Pair : GPair
  Sensor : Bool
  Normal : GVec
  Points : List GPoint
structure GBox where
  Low : GVec
  High : GVec
structure GCircle where
  At : GVec
  Radius : Nat
structure GCapsule where
  A : GVec
  B : GVec
  Radius : Nat
inductive TC where
  | point | row | still | i64 | mass | vec | part | bool | f64 | pair | touch | shape | box | circle | capsule | u8 | u64 | u32
  deriving DecidableEq
abbrev TD : TC → Type
  | .point => GPoint
  | .row => GRow
  | .still => GStill
  | .i64 => Int
  | .mass => GMass
  | .vec => GVec
  | .part => GPart
  | .bool => Bool
  | .f64 => Nat
  | .pair => GPair
  | .touch => GTouch
  | .shape => GShape
  | .box => GBox
  | .circle => GCircle
  | .capsule => GCapsule
  | .u8 => Int
  | .u64 => Int
  | .u32 => Int
abbrev G : Sg := ⟨TC, TD⟩
/-- The elements of a slice that stands for its content. -/
def decS (c : TC) (v : RV G) : Option (List (TD c)) := match v with
  | .nilslice => some []
  | .eslice => some []
  | .rslice d xs => match (inferInstance : DecidableEq TC) d c with | .isTrue h => some (h ▸ xs) | .isFalse _ => none
  | .cslice d xs n => match (inferInstance : DecidableEq TC) d c with | .isTrue h => some (List.take n (h ▸ xs)) | .isFalse _ => none
  | _ => none
def encG : (c : TC) → TD c → List (RV G)
  | .point, x => [.flt x.At.X, .flt x.At.Y, .flt x.Depth, .int .u32 x.ID, .flt x.Push, .flt x.Drag]
  | .row, x => [.int .i64 x.A, .int .i64 x.B, .flt x.WayA.X, .flt x.WayA.Y, .flt x.WayB.X, .flt x.WayB.Y, .flt x.TurnA, .flt x.TurnB, .flt x.Bias, .flt x.Low, .flt x.High, .flt x.Push, .int .i64 x.Of, .flt x.Ratio]
  | .still, x => [.flt x.Mass, .flt x.Inertia, .flt x.Speed.X, .flt x.Speed.Y, .flt x.Spin]
  | .i64, x => [.int .i64 x]
  | .mass, x => [.flt x.Mass, .flt x.Inertia, .flt x.Centre.X, .flt x.Centre.Y]
  | .vec, x => [.flt x.X, .flt x.Y]
  | .part, x => [.int .u8 x.Shape.Kind, .flt x.Shape.Radius, .rslice .vec x.Shape.Points, .flt x.Density, .flt x.Friction, .flt x.Bounce, .bool x.Sensor, .int .u16 x.Layer, .int .u16 x.Mask]
  | .bool, x => [.bool x]
  | .f64, x => [.flt x]
  | .pair, x => [.int .i64 x.A, .int .i64 x.PartA, .int .i64 x.B, .int .i64 x.PartB]
  | .touch, x => [.int .i64 x.Pair.A, .int .i64 x.Pair.PartA, .int .i64 x.Pair.B, .int .i64 x.Pair.PartB, .bool x.Sensor, .flt x.Normal.X, .flt x.Normal.Y, .rslice .point x.Points]
  | .shape, x => [.int .u8 x.Kind, .flt x.Radius, .rslice .vec x.Points]
  | .box, x => [.flt x.Low.X, .flt x.Low.Y, .flt x.High.X, .flt x.High.Y]
  | .circle, x => [.flt x.At.X, .flt x.At.Y, .flt x.Radius]
  | .capsule, x => [.flt x.A.X, .flt x.A.Y, .flt x.B.X, .flt x.B.Y, .flt x.Radius]
  | .u8, x => [.int .u8 x]
  | .u64, x => [.int .u64 x]
  | .u32, x => [.int .u32 x]
def decG : (c : TC) → List (RV G) → Option (TD c)
  | .point, l => match l with | [.flt a0, .flt a1, .flt a2, .int .u32 a3, .flt a4, .flt a5] => some ⟨⟨a0, a1⟩, a2, a3, a4, a5⟩ | _ => none
  | .row, l => match l with | [.int .i64 a0, .int .i64 a1, .flt a2, .flt a3, .flt a4, .flt a5, .flt a6, .flt a7, .flt a8, .flt a9, .flt a10, .flt a11, .int .i64 a12, .flt a13] => some ⟨a0, a1, ⟨a2, a3⟩, ⟨a4, a5⟩, a6, a7, a8, a9, a10, a11, a12, a13⟩ | _ => none
  | .still, l => match l with | [.flt a0, .flt a1, .flt a2, .flt a3, .flt a4] => some ⟨a0, a1, ⟨a2, a3⟩, a4⟩ | _ => none
  | .i64, l => match l with | [.int .i64 a0] => some a0 | _ => none
  | .mass, l => match l with | [.flt a0, .flt a1, .flt a2, .flt a3] => some ⟨a0, a1, ⟨a2, a3⟩⟩ | _ => none
  | .vec, l => match l with | [.flt a0, .flt a1] => some ⟨a0, a1⟩ | _ => none
  | .part, l => match l with | [.int .u8 a0, .flt a1, a2, .flt a3, .flt a4, .flt a5, .bool a6, .int .u16 a7, .int .u16 a8] => (match decS .vec a2 with | some ya2 => some ⟨⟨a0, a1, ya2⟩, a3, a4, a5, a6, a7, a8⟩ | none => none) | _ => none
  | .bool, l => match l with | [.bool a0] => some a0 | _ => none
  | .f64, l => match l with | [.flt a0] => some a0 | _ => none
  | .pair, l => match l with | [.int .i64 a0, .int .i64 a1, .int .i64 a2, .int .i64 a3] => some ⟨a0, a1, a2, a3⟩ | _ => none
  | .touch, l => match l with | [.int .i64 a0, .int .i64 a1, .int .i64 a2, .int .i64 a3, .bool a4, .flt a5, .flt a6, a7] => (match decS .point a7 with | some ya7 => some ⟨⟨a0, a1, a2, a3⟩, a4, ⟨a5, a6⟩, ya7⟩ | none => none) | _ => none
  | .shape, l => match l with | [.int .u8 a0, .flt a1, a2] => (match decS .vec a2 with | some ya2 => some ⟨a0, a1, ya2⟩ | none => none) | _ => none
  | .box, l => match l with | [.flt a0, .flt a1, .flt a2, .flt a3] => some ⟨⟨a0, a1⟩, ⟨a2, a3⟩⟩ | _ => none
  | .circle, l => match l with | [.flt a0, .flt a1, .flt a2] => some ⟨⟨a0, a1⟩, a2⟩ | _ => none
  | .capsule, l => match l with | [.flt a0, .flt a1, .flt a2, .flt a3, .flt a4] => some ⟨⟨a0, a1⟩, ⟨a2, a3⟩, a4⟩ | _ => none
  | .u8, l => match l with | [.int .u8 a0] => some a0 | _ => none
  | .u64, l => match l with | [.int .u64 a0] => some a0 | _ => none
  | .u32, l => match l with | [.int .u32 a0] => some a0 | _ => none
def sizeG : TC → Nat
  | .point => 6
  | .row => 14
  | .still => 5
  | .i64 => 1
  | .mass => 4
  | .vec => 2
  | .part => 9
  | .bool => 1
  | .f64 => 1
  | .pair => 4
  | .touch => 8
  | .shape => 3
  | .box => 4
  | .circle => 3
  | .capsule => 5
  | .u8 => 1
  | .u64 => 1
  | .u32 => 1
def flatG : TC → Bool
  | .point => true
  | .row => true
  | .still => true
  | .i64 => true
  | .mass => true
  | .vec => true
  | .part => false
  | .bool => true
  | .f64 => true
  | .pair => true
  | .touch => false
  | .shape => false
  | .box => true
  | .circle => true
  | .capsule => true
  | .u8 => true
  | .u64 => true
  | .u32 => true
instance : Enc G := { deq := (inferInstance : DecidableEq TC), enc := encG, dec := decG, size := sizeG, flat := flatG }
def tyL : List (Nat × TI G) := [
  (1, ⟨.func, 1, 8, [.nilfunc], none⟩),
  (2, ⟨.int .i64, 1, 8, [.int .i64 0], none⟩),
  (3, ⟨.int .i64, 1, 8, [.int .i64 0], some .i64⟩),
  (4, ⟨.bool, 1, 1, [.bool false], some .bool⟩),
  (5, ⟨.int .u8, 1, 1, [.int .u8 0], some .u8⟩),
  (12, ⟨.int .u64, 1, 8, [.int .u64 0], some .u64⟩),
  (13, ⟨.struct [(0, 9), (1, 12)], 2, 24, [.junk, .int .u64 0], none⟩),
  (20, ⟨.iface, 1, 16, [.nilif], none⟩),
  (21, ⟨.int .i32, 1, 4, [.int .i32 0], none⟩),
  (22, ⟨.struct [(0, 3), (1, 3), (2, 3), (3, 3)], 4, 32, [.int .i64 0, .int .i64 0, .int .i64 0, .int .i64 0], none⟩),
  (23, ⟨.struct [(0, 3), (1, 3), (2, 3), (3, 3)], 4, 32, [.int .i64 0, .int .i64 0, .int .i64 0, .int .i64 0], some .pair⟩),
  (24, ⟨.flt, 1, 8, [.flt 0], some .f64⟩),
  (25, ⟨.struct [(0, 24), (1, 24)], 2, 16, [.flt 0, .flt 0], none⟩),
  (26, ⟨.struct [(0, 24), (1, 24)], 2, 16, [.flt 0, .flt 0], some .vec⟩),
  (27, ⟨.slice 39, 1, 24, [.nilslice], none⟩),
  (28, ⟨.struct [(0, 23), (4, 4), (5, 26), (7, 27)], 8, 80, [.int .i64 0, .int .i64 0, .int .i64 0, .int .i64 0, .bool false, .flt 0, .flt 0, .nilslice], none⟩),
  (29, ⟨.struct [(0, 23), (4, 4), (5, 26), (7, 27)], 8, 80, [.int .i64 0, .int .i64 0, .int .i64 0, .int .i64 0, .bool false, .flt 0, .flt 0, .nilslice], some .touch⟩),
  (30, ⟨.slice 69, 1, 24, [.nilslice], none⟩),
  (31, ⟨.func, 1, 8, [.nilfunc], none⟩),
  (32, ⟨.func, 1, 8, [.nilfunc], none⟩),
  (33, ⟨.int .i64, 1, 8, [.int .i64 0], none⟩),
  (35, ⟨.func, 1, 8, [.nilfunc], none⟩),
  (36, ⟨.func, 1, 8, [.nilfunc], none⟩),
  (37, ⟨.int .u32, 1, 4, [.int .u32 0], some .u32⟩),
  (38, ⟨.struct [(0, 26), (2, 24), (3, 37), (4, 24), (5, 24)], 6, 48, [.flt 0, .flt 0, .flt 0, .int .u32 0, .flt 0, .flt 0], none⟩),
  (39, ⟨.struct [(0, 26), (2, 24), (3, 37), (4, 24), (5, 24)], 6, 48, [.flt 0, .flt 0, .flt 0, .int .u32 0, .flt 0, .flt 0], some .point⟩),
  (40, ⟨.func, 1, 8, [.nilfunc], none⟩),
  (41, ⟨.func, 1, 8, [.nilfunc], none⟩),
  (42, ⟨.slice 63, 1, 24, [.nilslice], none⟩),
  (43, ⟨.func, 1, 8, [.nilfunc], none⟩),
  (44, ⟨.func, 1, 8, [.nilfunc], none⟩),
  (45, ⟨.func, 1, 8, [.nilfunc], none⟩),
  (47, ⟨.func, 1, 8, [.nilfunc], none⟩),
  (49, ⟨.func, 1, 8, [.nilfunc], none⟩),
  (50, ⟨.func, 1, 8, [.nilfunc], none⟩),
  (51, ⟨.func, 1, 8, [.nilfunc], none⟩),
  (52, ⟨.func, 1, 8, [.nilfunc], none⟩),
  (53, ⟨.func, 1, 8, [.nilfunc], none⟩),
  (54, ⟨.func, 1, 8, [.nilfunc], none⟩),
  (55, ⟨.slice 3, 1, 24, [.nilslice], none⟩),
  (57, ⟨.func, 1, 8, [.nilfunc], none⟩),
  (59, ⟨.func, 1, 8, [.nilfunc], none⟩),
  (60, ⟨.func, 1, 8, [.nilfunc], none⟩),
  (61, ⟨.func, 1, 8, [.nilfunc], none⟩),
  (62, ⟨.struct [(0, 24), (1, 24), (2, 26), (4, 24)], 5, 40, [.flt 0, .flt 0, .flt 0, .flt 0, .flt 0], none⟩),
  (63, ⟨.struct [(0, 24), (1, 24), (2, 26), (4, 24)], 5, 40, [.flt 0, .flt 0, .flt 0, .flt 0, .flt 0], some .still⟩),
  (64, ⟨.func, 1, 8, [.nilfunc], none⟩),
  (65, ⟨.func, 1, 8, [.nilfunc], none⟩),
  (66, ⟨.func, 1, 8, [.nilfunc], none⟩),
  (67, ⟨.func, 1, 8, [.nilfunc], none⟩),
  (68, ⟨.struct [(0, 3), (1, 3), (2, 26), (4, 26), (6, 24), (7, 24), (8, 24), (9, 24), (10, 24), (11, 24), (12, 3), (13, 24)], 14, 112, [.int .i64 0, .int .i64 0, .flt 0, .flt 0, .flt 0, .flt 0, .flt 0, .flt 0, .flt 0, .flt 0, .flt 0, .flt 0, .int .i64 0, .flt 0], none⟩),
  (69, ⟨.struct [(0, 3), (1, 3), (2, 26), (4, 26), (6, 24), (7, 24), (8, 24), (9, 24), (10, 24), (11, 24), (12, 3), (13, 24)], 14, 112, [.int .i64 0, .int .i64 0, .flt 0, .flt 0, .flt 0, .flt 0, .flt 0, .flt 0, .flt 0, .flt 0, .flt 0, .flt 0, .int .i64 0, .flt 0], some .row⟩),
  (70, ⟨.func, 1, 8, [.nilfunc], none⟩),
  (71, ⟨.func, 1, 8, [.nilfunc], none⟩),
  (72, ⟨.func, 1, 8, [.nilfunc], none⟩),
  (73, ⟨.func, 1, 8, [.nilfunc], none⟩),
  (74, ⟨.func, 1, 8, [.nilfunc], none⟩),
  (75, ⟨.func, 1, 8, [.nilfunc], none⟩),
  (76, ⟨.func, 1, 8, [.nilfunc], none⟩),
  (77, ⟨.slice 79, 1, 24, [.nilslice], none⟩),
  (78, ⟨.struct [(0, 24), (1, 24), (2, 26)], 4, 32, [.flt 0, .flt 0, .flt 0, .flt 0], none⟩),
  (79, ⟨.struct [(0, 24), (1, 24), (2, 26)], 4, 32, [.flt 0, .flt 0, .flt 0, .flt 0], some .mass⟩),
  (81, ⟨.func, 1, 8, [.nilfunc], none⟩),
  (82, ⟨.func, 1, 8, [.nilfunc], none⟩),
  (83, ⟨.func, 1, 8, [.nilfunc], none⟩),
  (84, ⟨.func, 1, 8, [.nilfunc], none⟩),
  (86, ⟨.func, 1, 8, [.nilfunc], none⟩),
  (87, ⟨.func, 1, 8, [.nilfunc], none⟩),
  (88, ⟨.func, 1, 8, [.nilfunc], none⟩),
  (89, ⟨.slice 26, 1, 24, [.nilslice], none⟩),
  (90, ⟨.func, 1, 8, [.nilfunc], none⟩),
  (91, ⟨.func, 1, 8, [.nilfunc], none⟩),
  (92, ⟨.func, 1, 8, [.nilfunc], none⟩),
  (93, ⟨.func, 1, 8, [.nilfunc], none⟩),
  (94, ⟨.struct [(0, 5), (1, 24), (2, 89)], 3, 40, [.int .u8 0, .flt 0, .nilslice], none⟩),
  (95, ⟨.struct [(0, 5), (1, 24), (2, 89)], 3, 40, [.int .u8 0, .flt 0, .nilslice], some .shape⟩),
  (96, ⟨.func, 1, 8, [.nilfunc], none⟩),
  (97, ⟨.func, 1, 8, [.nilfunc], none⟩),
  (98, ⟨.func, 1, 8, [.nilfunc], none⟩),
  (99, ⟨.func, 1, 8, [.nilfunc], none⟩),
  (100, ⟨.func, 1, 8, [.nilfunc], none⟩),
  (101, ⟨.func, 1, 8, [.nilfunc], none⟩),
  (102, ⟨.func, 1, 8, [.nilfunc], none⟩),
  (103, ⟨.int .u16, 1, 2, [.int .u16 0], none⟩),
  (104, ⟨.struct [(0, 95), (3, 24), (4, 24), (5, 24), (6, 4), (7, 103), (8, 103)], 9, 72, [.int .u8 0, .flt 0, .nilslice, .flt 0, .flt 0, .flt 0, .bool false, .int .u16 0, .int .u16 0], none⟩),
  (105, ⟨.struct [(0, 95), (3, 24), (4, 24), (5, 24), (6, 4), (7, 103), (8, 103)], 9, 72, [.int .u8 0, .flt 0, .nilslice, .flt 0, .flt 0, .flt 0, .bool false, .int .u16 0, .int .u16 0], some .part⟩),
  (106, ⟨.slice 105, 1, 24, [.nilslice], none⟩),
  (107, ⟨.func, 1, 8, [.nilfunc], none⟩),
  (108, ⟨.func, 1, 8, [.nilfunc], none⟩),
  (109, ⟨.func, 1, 8, [.nilfunc], none⟩),
  (110, ⟨.func, 1, 8, [.nilfunc], none⟩),
  (111, ⟨.func, 1, 8, [.nilfunc], none⟩),
  (113, ⟨.func, 1, 8, [.nilfunc], none⟩),
  (115, ⟨.func, 1, 8, [.nilfunc], none⟩),
  (117, ⟨.func, 1, 8, [.nilfunc], none⟩),
  (118, ⟨.func, 1, 8, [.nilfunc], none⟩),
  (119, ⟨.func, 1, 8, [.nilfunc], none⟩),
  (120, ⟨.func, 1, 8, [.nilfunc], none⟩),
  (121, ⟨.ptr 39, 1, 8, [.nilptr], none⟩),
  (122, ⟨.func, 1, 8, [.nilfunc], none⟩),
  (123, ⟨.func, 1, 8, [.nilfunc], none⟩),
  (124, ⟨.func, 1, 8, [.nilfunc], none⟩),
  (125, ⟨.func, 1, 8, [.nilfunc], none⟩),
  (126, ⟨.ptr 69, 1, 8, [.nilptr], none⟩),
  (128, ⟨.func, 1, 8, [.nilfunc], none⟩),
  (129, ⟨.func, 1, 8, [.nilfunc], none⟩),
  (130, ⟨.func, 1, 8, [.nilfunc], none⟩),
  (131, ⟨.int .u64, 1, 8, [.int .u64 0], some .u64⟩),
  (132, ⟨.func, 1, 8, [.nilfunc], none⟩),
  (133, ⟨.arr 2 30, 2, 48, [.nilslice, .nilslice], none⟩),
  (134, ⟨.slice 4, 1, 24, [.nilslice], none⟩),
  (135, ⟨.func, 1, 8, [.nilfunc], none⟩),
  (136, ⟨.func, 1, 8, [.nilfunc], none⟩),
  (137, ⟨.slice 24, 1, 24, [.nilslice], none⟩),
  (138, ⟨.func, 1, 8, [.nilfunc], none⟩),
  (139, ⟨.func, 1, 8, [.nilfunc], none⟩),
  (140, ⟨.func, 1, 8, [.nilfunc], none⟩),
  (141, ⟨.func, 1, 8, [.nilfunc], none⟩),
  (142, ⟨.func, 1, 8, [.nilfunc], none⟩),
  (143, ⟨.func, 1, 8, [.nilfunc], none⟩),
  (144, ⟨.func, 1, 8, [.nilfunc], none⟩),
  (145, ⟨.func, 1, 8, [.nilfunc], none⟩),
  (146, ⟨.func, 1, 8, [.nilfunc], none⟩),
  (147, ⟨.func, 1, 8, [.nilfunc], none⟩),
  (148, ⟨.func, 1, 8, [.nilfunc], none⟩),
  (149, ⟨.func, 1, 8, [.nilfunc], none⟩),
  (150, ⟨.func, 1, 8, [.nilfunc], none⟩),
  (152, ⟨.func, 1, 8, [.nilfunc], none⟩),
  (153, ⟨.func, 1, 8, [.nilfunc], none⟩),
  (154, ⟨.iface, 1, 16, [.nilif], none⟩),
  (155, ⟨.iface, 1, 16, [.nilif], none⟩),
  (157, ⟨.func, 1, 8, [.nilfunc], none⟩),
  (158, ⟨.func, 1, 8, [.nilfunc], none⟩),
  (159, ⟨.func, 1, 8, [.nilfunc], none⟩),
  (161, ⟨.func, 1, 8, [.nilfunc], none⟩),
  (162, ⟨.arr 2 63, 10, 80, [.flt 0, .flt 0, .flt 0, .flt 0, .flt 0, .flt 0, .flt 0, .flt 0, .flt 0, .flt 0], none⟩),
  (163, ⟨.func, 1, 8, [.nilfunc], none⟩),
  (164, ⟨.func, 1, 8, [.nilfunc], none⟩),
  (165, ⟨.func, 1, 8, [.nilfunc], none⟩),
  (166, ⟨.func, 1, 8, [.nilfunc], none⟩),
  (167, ⟨.func, 1, 8, [.nilfunc], none⟩),
  (168, ⟨.func, 1, 8, [.nilfunc], none⟩),
  (169, ⟨.func, 1, 8, [.nilfunc], none⟩),
  (170, ⟨.arr 2 3, 2, 16, [.int .i64 0, .int .i64 0], none⟩),
  (171, ⟨.func, 1, 8, [.nilfunc], none⟩),
  (172, ⟨.func, 1, 8, [.nilfunc], none⟩),
  (174, ⟨.func, 1, 8, [.nilfunc], none⟩),
  (175, ⟨.func, 1, 8, [.nilfunc], none⟩),
  (176, ⟨.func, 1, 8, [.nilfunc], none⟩),
  (178, ⟨.func, 1, 8, [.nilfunc], none⟩),
  (179, ⟨.int .u64, 1, 8, [.int .u64 0], some .u64⟩),
  (180, ⟨.func, 1, 8, [.nilfunc], none⟩),
  (181, ⟨.arr 2 26, 4, 32, [.flt 0, .flt 0, .flt 0, .flt 0], none⟩),
  (182, ⟨.arr 2 24, 2, 16, [.flt 0, .flt 0], none⟩),
  (183, ⟨.ptr 63, 1, 8, [.nilptr], none⟩),
  (184, ⟨.func, 1, 8, [.nilfunc], none⟩),
  (185, ⟨.func, 1, 8, [.nilfunc], none⟩),
  (186, ⟨.func, 1, 8, [.nilfunc], none⟩),
  (187, ⟨.func, 1, 8, [.nilfunc], none⟩),
  (188, ⟨.struct [(0, 26), (2, 24)], 3, 24, [.flt 0, .flt 0, .flt 0], none⟩),
  (189, ⟨.struct [(0, 26), (2, 24)], 3, 24, [.flt 0, .flt 0, .flt 0], some .circle⟩),
  (190, ⟨.struct [(0, 26), (2, 26), (4, 24)], 5, 40, [.flt 0, .flt 0, .flt 0, .flt 0, .flt 0], none⟩),
  (191, ⟨.struct [(0, 26), (2, 26), (4, 24)], 5, 40, [.flt 0, .flt 0, .flt 0, .flt 0, .flt 0], some .capsule⟩),
  (192, ⟨.slice 26, 1, 24, [.nilslice], none⟩),
  (193, ⟨.func, 1, 8, [.nilfunc], none⟩),
  (194, ⟨.func, 1, 8, [.nilfunc], none⟩),
  (200, ⟨.func, 1, 8, [.nilfunc], none⟩),
  (203, ⟨.func, 1, 8, [.nilfunc], none⟩),
  (204, ⟨.ptr 5, 1, 8, [.nilptr], none⟩),
  (209, ⟨.func, 1, 8, [.nilfunc], none⟩),
  (210, ⟨.func, 1, 8, [.nilfunc], none⟩),
  (211, ⟨.func, 1, 8, [.nilfunc], none⟩),
  (213, ⟨.struct [(0, 26), (2, 26)], 4, 32, [.flt 0, .flt 0, .flt 0, .flt 0], none⟩),
  (214, ⟨.struct [(0, 26), (2, 26)], 4, 32, [.flt 0, .flt 0, .flt 0, .flt 0], some .box⟩)]
end Go.SX
