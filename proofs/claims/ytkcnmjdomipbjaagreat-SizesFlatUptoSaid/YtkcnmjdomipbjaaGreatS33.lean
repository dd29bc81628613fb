import Derived.Test.YtkcnmjdomipbjaaGreatS31
set_option linter.unusedVariables false
set_option maxHeartbeats 100000000
set_option maxRecDepth 100000
namespace Go.Proofs.YtkcnmjdomipbjaaGreat
open Go.RowKit
structure Wk where
 defs : Value
 units : Value
 doing : Value
 met : Value
 was : Value
 deep : Int
 at_ : Int
 er : Int
def XW (t : TypeId) : Bool := t == 88 || t == 35 || t == 4 || t == 3
def WkAt (pw : Nat) (t : Wk) (w : World) : Prop := Blk w pw 88 #[t.defs, t.units, t.doing, t.met, t.was, .int .i64 t.deep, .int .i64 t.at_, .int .i64 t.er]
theorem WkAt.below {pw : Nat} {t : Wk} {w w' : World} (h : WkAt pw t w) (hb : Below w.heap.size w w') : WkAt pw t w' := Blk.below h hb (Blk.lt h)
theorem WkAt.tf {base pw : Nat} {t : Wk} {w : World} (h : WkAt pw t w) (hb : base <= pw) (i : Nat) (u : Value) : TF XW base w (w.setCell ⟨pw, i, none⟩ u) := TF.refl.setCell (p := ⟨pw, i, none⟩) (.inr ⟨hb, _, _, _, h, rfl⟩) u
def PFw (base pw : Nat) (t : Wk) (w : World) (e : Ending) (w' : World) : Prop := e = .returned (.bool false) /\ (∃ er at_, WkAt pw { t with er := er, at_ := at_ } w') /\ TF XW base w w'
theorem fail25_any (base pw : Nat) (hb : base <= pw) (t : Wk) (a b : Int) (w : World) (h : WkAt pw t w) : Calls Tryz.prog 48 #[.pointer (some ⟨pw, 0, none⟩), .int .i64 a, .int .i64 b] w (PFw base pw t w) := by
 obtain ⟨defs, units, doing, met, was, deep, at_, er⟩ := t
 have H := hid h
 unfold WkAt at h
 simp only at h
 have c6 := (h.cell 6).trans rfl
 have c7 := (h.cell 7).trans rfl
 have f6 := h.frozen 6
 have f7 := h.frozen 7
 clear h
 obtain ⟨q, hq⟩ := xE (er == 0)
 go_enter Tryz.func48, Tryz.ntmps48
 cases q
 ·go_wp2_with fail
  go_ret;exact ⟨rfl, ⟨er, at_, H.out⟩, TF.refl⟩
 go_wp2_with fail
 go_ret
 refine ⟨rfl, ⟨b, a, ?_⟩, (WkAt.tf H.out hb 6 _).setCell (p := ⟨pw, 7, none⟩) (.inr ⟨hb, _, _, _, Blk.set_ H.out 6 (.int .i64 a), rfl⟩) _⟩
 have := (Blk.set_ (Blk.set_ H.out 6 (.int .i64 a)) 7 (.int .i64 b))
 simp only [List.setIfInBounds_toArray, List.set_cons_zero, List.set_cons_succ] at this
 exact this
section
variable {P : Program} {ops : Array Oper} {Q : Exit -> Act -> World -> Prop} {md : Region.Mode} {S : Array Bool -> World -> Prop}
def wpAnyL (P : Program) (md : Region.Mode) (ops : Array Oper) (Q : Exit -> Act -> World -> Prop) (S : Array Bool -> World -> Prop) : Nat -> Array Bool -> Act -> World -> Prop
 | 0, listed, a, w => Region.ready md ops listed = [] /\ Q .normal a w
 | fuel + 1, listed, a, w => (Region.ready md ops listed = [] -> Q .normal a w) /\
  ∀ i ∈ Region.ready md ops listed, wpOp P ops Q i (fun a' w' => S (listed.setIfInBounds i true) w' /\ wpAnyL P md ops Q S fuel (listed.setIfInBounds i true) a' w') a w
theorem wpAny_of_L : ∀ (fuel : Nat) (listed : Array Bool) (a : Act) (w : World), wpAnyL P md ops Q S fuel listed a w -> wpAny P md ops Q fuel listed a w
 | 0, _, _, _, h => h
 | fuel + 1, _, _, _, h => ⟨h.1, fun i hi => wpOp_mono (fun a' w' h' => wpAny_of_L fuel _ a' w' h'.2) (h.2 i hi)⟩
theorem wpAnyL_first {i : Nat} {oi : Oper} {v : Value} (C : Array Bool -> Prop) (hi : ops[i]? = some oi) (hsel : ∀ (j : Nat) (o : Oper) cs b, ops[j]? = some o -> o.op ≠ .select cs b)
  (hQ : ∀ c a w, Q (.panic c) (a.put oi.dst v) w -> Q (.panic c) a w) (hC : ∀ l j, C l -> l.getD i true = false -> j ∈ Region.ready md ops l -> j ≠ i -> C (l.setIfInBounds j true))
  (hSi : ∀ l w, S (l.setIfInBounds i true) w ↔ S l w) :
  ∀ (fuel : Nat) (listed : Array Bool) (a : Act) (w : World),
   (∀ j oj, ops[j]? = some oj -> j ≠ i -> listed.getD j true = false -> (∀ e ∈ oj.after, Region.binds md e = true -> e.on ≠ i) -> oi.apart ops oj = true) ->
   i ∈ Region.ready md ops listed -> C listed -> YieldsIf P ops (fun w => ∃ l, C l /\ S l w) oi v a -> S listed w ->
   wpAnyL P md ops Q S fuel (listed.setIfInBounds i true) (a.put oi.dst v) w -> wpAnyL P md ops Q S (fuel + 1) listed a w := by
 intro fuel
 induction fuel with
 | zero =>
  intro listed a w _ hr hc hy hS H;refine ⟨fun h => (by rw [h] at hr; cases hr), fun j hj => ?_⟩;by_cases hji : j = i
  ·subst hji; exact hy.wpOp hi ⟨_, hc, hS⟩ ⟨(hSi _ _).2 hS, H⟩
  have := ready_mono hj hji;rw [H.1] at this;cases this
 | succ fuel ih =>
  intro listed a w hfree hr hc hy hS H;refine ⟨fun h => (by rw [h] at hr; cases hr), fun j hj => ?_⟩;by_cases hji : j = i
  ·subst hji; exact hy.wpOp hi ⟨_, hc, hS⟩ ⟨(hSi _ _).2 hS, H⟩
  have h1 := H.2 j (ready_mono hj hji);obtain ⟨hjun, oj, hoj, hall⟩ := mem_ready.1 hj;have hiun := (mem_ready.1 hr).1;have hnot : ∀ e ∈ oj.after, Region.binds md e = true -> e.on ≠ i := fun e he hb heq => by
   have h1 := hall e he hb;have h0 := hiun;rw [heq] at h1;rcases Nat.lt_or_ge i listed.size with h' | h'
   ·simp [h'] at h0 h1; rw [h0] at h1; cases h1
   simp [Array.getElem?_eq_none h'] at h1
  have h2 := wpOp_putIf hoj (hfree j oj hoj hji hjun hnot) (fun cs b => hsel i oi cs b hi) (fun cs b => hsel j oj cs b hoj) hQ hy h1
  have hfree' : ∀ k ok, ops[k]? = some ok -> k ≠ i -> (listed.setIfInBounds j true).getD k true = false ->
    (∀ e ∈ ok.after, Region.binds md e = true -> e.on ≠ i) -> oi.apart ops ok = true := fun k ok hk hki hun hno => by
   refine hfree k ok hk hki ?_ hno;by_cases hjk : j = k
   ·subst hjk; exact hjun
   rw [getD_set_ne true hjk] at hun; exact hun
  refine wpOp_mono (fun a' w' h3 => ?_) h2;have hcm : (listed.setIfInBounds i true).setIfInBounds j true = (listed.setIfInBounds j true).setIfInBounds i true := Array.setIfInBounds_comm _ _ (Ne.symm hji);have hS' : S (listed.setIfInBounds j true) w' := (hSi _ _).1 (by rw [<- hcm]; exact h3.2.1);refine ⟨hS', ih (listed.setIfInBounds j true) a' w' hfree' (ready_mono hr (Ne.symm hji)) (hC _ _ hc hiun hj hji) h3.1 hS' ?_⟩;rw [<- hcm];exact h3.2.2
def NotYet (D : List Nat) (l : Array Bool) : Prop := ∀ d ∈ D, l.getD d true = false
def waitsOn (md : Region.Mode) (ops : Array Oper) (i : Nat) (D : List Nat) : Bool := D.all fun d => (ops[d]?).any fun o => o.after.any fun e => Region.binds md e && (e.on == i || D.contains e.on)
theorem notYet_step {i : Nat} {D : List Nat} (h : waitsOn md ops i D = true) (l : Array Bool) (j : Nat) (hc : NotYet D l) (hi : l.getD i true = false) (hj : j ∈ Region.ready md ops l) : NotYet D (l.setIfInBounds j true) := fun d hd => by
 by_cases hjd : j = d
 ·subst hjd;exfalso;have h1 := List.all_eq_true.1 h j hd;obtain ⟨_, o, ho, hall⟩ := mem_ready.1 hj;rw [ho, Option.any_some, Array.any_eq_true] at h1;obtain ⟨k, hk, h2⟩ := h1;simp only [Bool.and_eq_true, Bool.or_eq_true, beq_iff_eq, List.contains_iff_mem] at h2;have h3 := hall _ (Array.getElem_mem hk) h2.1;have h4 : l.getD (o.after[k]).on true = false := by
   rcases h2.2 with e | e
   ·rw [e]; exact hi
   exact hc _ e
  rcases Nat.lt_or_ge (o.after[k]).on l.size with h' | h'
  ·simp [h'] at h3 h4; rw [h4] at h3; cases h3
  simp [Array.getElem?_eq_none h'] at h3
 rw [getD_set_ne true hjd]; exact hc d hd
theorem wp_region_L {id : Nat} {a : Act} {w : World} (hm : P.follows .mixedOrders = true) (hS : S (Array.replicate ops.size false) w.drew) (h : S (Array.replicate ops.size false) w.drew -> wpAnyL P .any ops Q S ops.size (Array.replicate ops.size false) a w.drew) : (Code.region id ops true).wp P Q a w :=
 wp_region_any hm (wpAny_of_L _ _ _ _ (h hS))
variable {fuel : Nat} {listed : Array Bool} {a : Act} {w : World} {oi : Oper} {v : Value} {rs : List Nat}
theorem takeL (D : List Nat) (i : Nat) (d : Option Tmp) (hi : ops[i]? = some oi) (hd : oi.dst = d) (hs : Region.noSelect ops = true) (hf : Region.free md ops listed i = true) (hr : (Region.ready md ops listed).contains i = true)
  (hD : waitsOn md ops i D = true) (hc : D.all (fun d => !listed.getD d true) = true) (hSi : ∀ l w, S (l.setIfInBounds i true) w ↔ S l w)
  (hQ : ∀ c a w, Q (.panic c) (a.put oi.dst v) w -> Q (.panic c) a w) (hy : YieldsIf P ops (fun w => ∃ l, NotYet D l /\ S l w) oi v a) (hS : S listed w)
  (h : S (listed.setIfInBounds i true) w -> wpAnyL P md ops Q S fuel (listed.setIfInBounds i true) (a.put d v) w) : wpAnyL P md ops Q S (fuel + 1) listed a w := by
 subst hd
 refine wpAnyL_first (NotYet D) hi (Region.noSelect_spec hs) hQ (fun l j hc hl hj _ => notYet_step hD l j hc hl hj) hSi fuel listed a w (Region.free_spec hi hf) (by simpa using hr) (fun d hd => ?_) hy hS (h ((hSi _ _).2 hS))
 have := List.all_eq_true.1 hc d hd
 simpa using this
theorem doneL (hr : Region.ready md ops listed = []) (h : Q .normal a w) : ∀ fuel, wpAnyL P md ops Q S fuel listed a w
 | 0 => ⟨hr, h⟩
 | _ + 1 => ⟨fun _ => h, by rw [hr]; simp⟩
def AllL (P : Program) (md : Region.Mode) (ops : Array Oper) (Q : Exit -> Act -> World -> Prop) (S : Array Bool -> World -> Prop) (fuel : Nat) (listed : Array Bool) (a : Act) (w : World) (rs : List Nat) : Prop :=
 ∀ i ∈ rs, wpOp P ops Q i (fun a' w' => S (listed.setIfInBounds i true) w' /\ wpAnyL P md ops Q S fuel (listed.setIfInBounds i true) a' w') a w
theorem readyL (rs : List Nat) (hr : Region.ready md ops listed = rs) (hne : rs ≠ []) (h : AllL P md ops Q S fuel listed a w rs) : wpAnyL P md ops Q S (fuel + 1) listed a w := ⟨fun h0 => absurd (hr ▸ h0) hne, hr ▸ h⟩
theorem AllL.nil : AllL P md ops Q S fuel listed a w [] := fun _ h => by cases h
theorem AllL.cons {i : Nat} (hi : ops[i]? = some oi) (hw : Region.wanted oi (yielded ops a.tmps) = true) (h : Oper.wp P oi a w (fun a' w' => S (listed.setIfInBounds i true) w' /\ wpAnyL P md ops Q S fuel (listed.setIfInBounds i true) a' w') Q)
  (hs : AllL P md ops Q S fuel listed a w rs) : AllL P md ops Q S fuel listed a w (i :: rs) := fun j hj => by
 rcases List.mem_cons.1 hj with rfl | hj
 ·unfold wpOp;rw [hi];show if _ then _ else _;rw [if_pos hw];exact .inl h
 exact hs j hj
variable {K : Act -> World -> Prop}
theorem callO (d : Option Tmp) (hd : oi.dst = d) {f : FuncId} {args : Array Value} (hrun : (execOp a.eval oi).run P w = .ok (.enter f args) w) {R : Ending -> World -> Prop} (hc : Calls P f args w R) (h : ∀ e w', R e w' -> ∃ v, e = .returned v /\ K (a.put d v) w') : Oper.wp P oi a w K Q := by
 subst hd
 unfold Oper.wp
 rw [hrun, Oper.upon_enter]
 refine hc.mono fun e w' hR => ?_
 obtain ⟨v, rfl, hK⟩ := h e w' hR
 exact hK
theorem valO (d : Option Tmp) (hd : oi.dst = d) (v : Value) (w' : World) (hrun : (execOp a.eval oi).run P w = .ok (.value v) w') (h : K (a.put d v) w') : Oper.wp P oi a w K Q := by
 subst hd
 unfold Oper.wp
 rw [hrun]
 exact h
theorem cellO (hd : oi.dst = none) (w' : World) {n : Next} (hn : n = .skip ∨ ∃ v, n = .value v) (hrun : (execOp a.eval oi).run P w = .ok n w') (h : K a w') : Oper.wp P oi a w K Q := by
 unfold Oper.wp
 rw [hrun]
 rcases hn with rfl | ⟨v, rfl⟩
 ·rw [Oper.upon_skip, hd]; exact h
 rw [Oper.upon_value, hd]; exact h
end
section
variable {Q : Exit -> Act -> World -> Prop} {a : Act} {w : World} {oi : Oper} {K : Act -> World -> Prop}
theorem storeO {g : Nat} {t ty : TypeId} {cs : Array Value} {l : List Value} (hd : oi.dst = none) (x y : Operand) (ho : oi.op = .store ty x y) (hx : a.eval x = .pointer (some ⟨g, 0, none⟩)) (hy : a.eval y = .agg l.toArray)
  (hB : Blk w g t cs) (hl : cs.size = l.length) (h1 : l.all (·.oneCell') = true) (hinf : (Tryz.prog.info? ty).map (·.size) = some l.length) (h : K a (w.setCells g 0 l)) : Oper.wp Tryz.prog oi a w K Q := by
 refine wp_store_mid ty x y ho g 0 l.toArray hx hy (hB.there (by simp [hl])) (by simpa using hinf) (by simpa using h1) ?_
 rw [hd]
 simpa [Act.put] using h
theorem pushO (d : Option Tmp) (hd : oi.dst = d) (s x : Operand) {t e : TypeId} {sz n base g : Nat} {v : Value} {xs us : List Value} (ho : oi.op = .call { callee := .builtin .append, args := #[s, x], argTypes := #[t, t] })
  (ht : Tryz.prog.underlying t = some (.slice e)) (hI : infoOk (Tryz.prog.info? e) sz = true) (H : w.ownsRow base e sz v n xs) (hs : a.eval s = v) (hx : a.eval x = .slice (some ⟨g, 0, none⟩) 1 1) {te : TypeId} (hB : Blk w g te us.toArray) (hul : us.length = sz) (hone : ∀ u ∈ us, u.oneCell' = true)
  (hn : n <= 1099511627776 / 16) (hbase : base <= w.heap.size)
  (h : ∀ v' w', w'.ownsRow base e sz v' (n + 1) (xs ++ us) -> w.grownBy w' v.ownBlock -> (v'.ownBlock = v.ownBlock ∨ v'.ownBlock = some w.heap.size) -> K (a.put d v') w') : Oper.wp Tryz.prog oi a w K Q := by
 subst hd
 obtain ⟨i0, z, hi, hz, hsize, hby2, hzs, hsz⟩ := info_of hI
 have hcell : ∀ j u, us[j]? = some u -> w.cell? ((⟨g, 0, none⟩ : Addr).add j) = some u := fun j u hu => by
  rw [Addr.add_lit, Nat.zero_add, hB.cell j]
  simpa using hu
 refine wp_append_any (P := Tryz.prog) _ s x t ho base e i0 z sz i0.bytes ht hi hz hsize rfl hzs hsz v n xs hs H w.heap.size (some ⟨g, 0, none⟩) 1 1 us hx ⟨by rw [hul, Nat.one_mul], fun _ => ⟨_, rfl, hB.lt, hcell⟩⟩ hone (by unfold maxLen; omega) ?_ hbase h
 have : (n + 1) * i0.bytes <= (n + 1) * 1000 := Nat.mul_le_mul_left _ hby2
 omega
end
section
variable {P : Program} {ops : Array Oper} {oi : Oper} {w : World} {Q : Exit -> Act -> World -> Prop} {md : Region.Mode} {S : Array Bool -> World -> Prop} {fuel : Nat} {listed : Array Bool} {a : Act}
theorem tlq (D : List Nat) (i d : Nat) (v : Value) (hi : ops[i]? = some oi) (hy : YieldsIf P ops (fun w => ∃ l, NotYet D l /\ S l w) oi v a) (hS : S listed w) (h : S (listed.setIfInBounds i true) w -> wpAnyL P md ops Q S fuel (listed.setIfInBounds i true) (a.put (some d) v) w) (hd : oi.dst = some d := by exact rfl) (hs : Region.noSelect ops = true := by kernel_rfl) (hf : Region.free md ops listed i = true := by kernel_rfl) (hr : (Region.ready md ops listed).contains i = true := by kernel_rfl) (hD : waitsOn md ops i D = true := by kernel_rfl) (hc : D.all (fun d => !listed.getD d true) = true := by kernel_rfl)
 (hSi : ∀ l w, S (l.setIfInBounds i true) w ↔ S l w := by intro l w; repeat rw [getD_set_ne true (by decide)]) (hQ : ∀ c a w, Q (.panic c) (a.put oi.dst v) w -> Q (.panic c) a w := by exact fun _ _ _ h => h) : wpAnyL P md ops Q S (fuel + 1) listed a w :=
 takeL D i (some d) hi hd hs hf hr hD hc hSi hQ hy hS h
theorem tl (i d : Nat) (v : Value) (hi : ops[i]? = some oi) (hS : S listed w) (h : S (listed.setIfInBounds i true) w -> wpAnyL P md ops Q S fuel (listed.setIfInBounds i true) (a.put (some d) v) w) (hd : oi.dst = some d := by exact rfl) (hs : Region.noSelect ops = true := by kernel_rfl) (hf : Region.free md ops listed i = true := by kernel_rfl) (hr : (Region.ready md ops listed).contains i = true := by kernel_rfl) (hD : waitsOn md ops i [] = true := by kernel_rfl) (hc : ([] : List Nat).all (fun d => !listed.getD d true) = true := by kernel_rfl)
 (hSi : ∀ l w, S (l.setIfInBounds i true) w ↔ S l w := by intro l w; repeat rw [getD_set_ne true (by decide)]) (hQ : ∀ c a w, Q (.panic c) (a.put oi.dst v) w -> Q (.panic c) a w := by exact fun _ _ _ h => h) (hw : Region.wanted oi (yielded ops a.tmps) = true := by rfl) (hrun : ∀ w, (execOp a.eval oi).run P w = .ok (.value v) w := by intro w; first | rfl | (go_simp; done) | (go_simp; rfl)) : wpAnyL P md ops Q S (fuel + 1) listed a w :=
 takeL [] i (some d) hi hd hs hf hr hD hc hSi hQ (.inl ⟨hw, fun w _ => hrun w⟩) hS h
end
section
variable {ops : Array Oper} {oi : Oper} {w : World} {Q : Exit -> Act -> World -> Prop} {md : Region.Mode} {S : Array Bool -> World -> Prop} {fuel i : Nat} {rs : List Nat} {listed : Array Bool} {a : Act}
theorem rL {P : Program} (rs : List Nat) (h : AllL P md ops Q S fuel listed a w rs) (hr : Region.ready md ops listed = rs := by kernel_rfl) (hne : rs ≠ [] := by simp) : wpAnyL P md ops Q S (fuel + 1) listed a w := readyL rs hr hne h
theorem vO {P : Program} (d : Nat) (cs : Array Value) (t : TypeId) (hS : ∀ X, Below w.heap.size w X -> S (listed.setIfInBounds i true) X) (k : ∀ X g, w.heap.size = g -> Below w.heap.size w X -> Hid (Blk X g t cs) -> wpAnyL P md ops Q S fuel (listed.setIfInBounds i true) (a.put (some d) (.slice (some ⟨g, 0, none⟩) 1 1)) X) (hs : AllL P md ops Q S fuel listed a w rs) (hi : ops[i]? = some oi := by exact rfl) (hw : Region.wanted oi (yielded ops a.tmps) = true := by rfl) (hd : oi.dst = some d := by exact rfl)
 (hrun : (execOp a.eval oi).run P w = .ok (.value (.slice (some ⟨w.heap.size, 0, none⟩) 1 1)) (w.alloc (.cells cs t)) := by go_simp) : AllL P md ops Q S fuel listed a w (i :: rs) :=
 AllL.cons hi hw (valO (some d) hd _ _ hrun ⟨hS _ (alloc_below _ _), k _ _ rfl (alloc_below _ _) (hid (Blk.new _ _ _))⟩) hs
theorem pO (d : Nat) {s x : Operand} {t e te : TypeId} {sz n base g : Nat} {v : Value} {xs us : List Value} (ht : Tryz.prog.underlying t = some (.slice e)) (hI : infoOk (Tryz.prog.info? e) sz = true) (H : w.ownsRow base e sz v n xs) (hB : Blk w g te us.toArray) (hbase : base <= w.heap.size)
 (h : ∀ v' w', w'.ownsRow base e sz v' (n + 1) (xs ++ us) -> w.grownBy w' v.ownBlock -> (v'.ownBlock = v.ownBlock ∨ v'.ownBlock = some w.heap.size) -> S (listed.setIfInBounds i true) w' /\ wpAnyL Tryz.prog md ops Q S fuel (listed.setIfInBounds i true) (a.put (some d) v') w') (hs : AllL Tryz.prog md ops Q S fuel listed a w rs) (hi : ops[i]? = some oi := by exact rfl) (hw : Region.wanted oi (yielded ops a.tmps) = true := by rfl) (hd : oi.dst = some d := by exact rfl) (ho : oi.op = .call { callee := .builtin .append, args := #[s, x], argTypes := #[t, t] } := by exact rfl) (hsv : a.eval s = v := by exact rfl) (hx : a.eval x = .slice (some ⟨g, 0, none⟩) 1 1 := by exact rfl) (hul : us.length = sz := by exact rfl) (hone : ∀ u ∈ us, u.oneCell' = true := by simp [Value.oneCell']) (hn : n <= 1099511627776 / 16 := by omega) : AllL Tryz.prog md ops Q S fuel listed a w (i :: rs) :=
 AllL.cons hi hw (pushO (some d) hd s x ho ht hI H hsv hx hB hul hone hn hbase h) hs
end
mutual
def Tn.need (ds : List Df) : Tn -> Prop
 | .mk k x nm p b e a s u => (k = 6 -> 0 <= findD ds nm 0) /\ tnsNeed ds b /\ tnsNeed ds e
def tnsNeed (ds : List Df) : List Tn -> Prop
 | [] => True
 | t :: r => t.need ds /\ tnsNeed ds r
end
theorem tnsNeed_iff {ds : List Df} : ∀ {l : List Tn}, tnsNeed ds l ↔ ∀ t ∈ l, t.need ds
 | [] => ⟨fun _ t h => (by cases h), fun _ => (by simp [tnsNeed])⟩
 | t :: r => by
  rw [tnsNeed, tnsNeed_iff (l := r)];simp
theorem tnsNum_at : ∀ {l : List Tn} {j : Nat} (h : j < l.length), j + (l[j]).num <= tnsNum l
 | q :: l, 0, _ => by
  rw [tnsNum];show 0 + q.num <= _;omega
 | q :: l, j + 1, h => by
  have := tnsNum_at (l := l) (j := j) (by simpa using h);have := q.num_pos;rw [tnsNum];show j + 1 + (l[j]'_).num <= _;omega
theorem strReads {w : World} {S : Nat -> Prop} {A : Option Addr} {l : List ByteArray} (h : RowsV w S 1 A 0 (strRows l)) : Reads w w.heap.size 1 A l.length (l.map Value.string) := by
 refine ⟨by simp, fun h0 => ?_⟩
 obtain ⟨ad, rfl, _, hl, _⟩ := RowsV.get (f := fun x => [Dt.str x]) h (k := 0) h0
 refine ⟨ad, rfl, hl, fun j u hu => ?_⟩
 rw [List.getElem?_map] at hu
 have hj : j < l.length := by
  rcases Nat.lt_or_ge j l.length with h | h
  ·exact h
  rw [List.getElem?_eq_none h] at hu; cases hu
 obtain ⟨ad', e, _, _, hrow⟩ := RowsV.get (f := fun x => [Dt.str x]) h hj
 cases e
 have := Str.at_ hrow
 rw [Nat.mul_one] at this
 rw [List.getElem?_eq_getElem hj] at hu
 rw [this, <- hu]; rfl
theorem wpl_strs {ops : Array Oper} {rest : List Oper} {o : Oper} {a : Act} {Q : Exit -> Act -> World -> Prop} {W : World} {lo base : Nat} {v : Value} {l : List ByteArray} (hgd : o.guard = none) (s x : Operand) {t : TypeId}
  (ho : o.op = .call { callee := .builtin .append, args := #[s, x], argTypes := #[t, t] })
  (ht : Tryz.prog.underlying t = some (.slice 9))
  (H : OwnN 0 lo W base 9 1 v (strRows l)) (hs : a.eval s = v) {S : Nat -> Prop} {A : Option Addr} {c : Nat} {r : List ByteArray} (hr : RowsV W S 1 A 0 (strRows r)) (hx : a.eval x = .slice A r.length c)
  (hn : l.length + r.length <= 1099511627776 / 16) (hbase : base <= W.heap.size)
  (h : ∀ v' w', OwnN 0 lo w' base 9 1 v' (strRows (l ++ r)) -> Below base W w' -> W.grownBy w' v.ownBlock -> wpList Tryz.prog ops Q rest (a.put o.dst v') w') : wpList Tryz.prog ops Q (o :: rest) a W := by
 obtain ⟨i0, z, h1, h2, h3, h4, h5, h6⟩ := info_of info_string
 obtain ⟨xs, k1, k2, k3⟩ := H
 have hstr : ∀ {w : World} {S : Nat -> Prop} {l : List ByteArray}, CellsV w S (l.map Value.string) (strRows l).flatten := by
  intro w S l
  induction l with
  | nil => rfl
  | cons x l ih => exact ⟨_, _, rfl, DtV.str, ih⟩
 have hxs : ∀ {w : World} {S : Nat -> Prop} {l : List ByteArray} {xs : List Value}, CellsV w S xs (strRows l).flatten -> xs = l.map Value.string := by
  intro w S l
  induction l with
  | nil => intro xs h; exact h
  | cons x l ih =>
   rintro xs ⟨v, r, rfl, hv, hr⟩;rw [hv.str_is, ih hr]; rfl
 have e := hxs k2
 subst e
 refine wpList_append_any (P := Tryz.prog) _ hgd s x t ho base _ i0 z 1 i0.bytes ht h1 h2 h3 rfl h5 h6 v (strRows l).length _ hs k1 W.heap.size A r.length c _ hx (strReads hr) (fun u hu => ?_) (by rw [strRows_len]; unfold maxLen; omega) ?_ hbase ?_
 ·obtain ⟨y, _, rfl⟩ := List.mem_map.1 hu;rfl
 ·rw [strRows_len];have : (l.length + r.length) * i0.bytes <= (l.length + r.length) * 1000 := Nat.mul_le_mul_left _ h4;omega
 intro v' w' g1 g2 g3
 refine h v' w' ⟨(l ++ r).map Value.string, ?_, hstr, fun q hq => ?_⟩ ?_ g2
 ·rw [strRows_len, List.map_append, List.length_append];rw [strRows_len] at g1;exact g1
 ·obtain ⟨y, _, rfl⟩ := List.mem_map.1 hq;rfl
 exact (Below.refl base _).grown g2 hbase fun k hk => (World.ownsRow.lt k1 k hk).1
theorem OwnN.rows_ {lo base sz n c : Nat} {w : World} {e : TypeId} {A : Option Addr} {l : List (List Dt)} (h : OwnN 0 lo w base e sz (.slice A n c) l) : RowsV w (fun _ => True) sz A 0 l := by
 obtain ⟨A', c', e, hr⟩ := h.rowsV
 injection e with e1 _ _
 rw [e1]
 exact RowsV.to hr fun _ _ _ => trivial
def PNeed (ds : List Df) (l : List Tn) (w : World) (e : Ending) (w' : World) : Prop := ∃ p er : Int, e = .returned (.tuple #[.int .i64 p, .int .i64 er]) /\ (er = 0 -> tnsNeed ds l) /\ Below w.heap.size w w'
theorem needs22_any (ds : List Df) (nd : Nat) (hnd : ds.length = nd) (hdz : nd <= 9223372036854775807) (D : Option Addr) (cd : Nat) : ∀ (N : Nat) (l : List Tn) (n : Nat) (hn : l.length = n) (hN : tnsNum l <= N) (hz : N <= 1048576) (hok : tnsOk l) (A : Option Addr) (c : Nat) (vs : List ByteArray) (nv : Nat) (hnv : vs.length = nv) (hvz : nv + tnsNum l <= 2097152) (V : Option Addr) (cv : Nat) (w : World) (hr : RowsV w (fun _ => True) 9 A 0 (tnRows l)) (hv : RowsV w (fun _ => True) 1 V 0 (strRows vs)) (hd : RowsV w (fun _ => True) 2 D 0 (ds.map Df.row)), Calls Tryz.prog 47 #[.slice D nd cd, .slice A n c, .slice V nv cv] w (PNeed ds l w) := by
 intro N
 induction N with
 | zero =>
  intro l n hn hN hz hok A c vs nv hnv hvz V cv w hr hv hd;obtain rfl : l = [] := List.eq_nil_of_length_eq_zero (by have := tnsNum_len l; omega);obtain rfl : n = 0 := hn.symm;have Hv := hid hv;subst hnv;clear hv hr hd;go_enter Tryz.func47, Tryz.ntmps47;go_wp2_with (at_builtin; refine wpl_strs (l := []) (lo := w.heap.size) rfl _ _ rfl Tryz.underlying23 (OwnN.nil (base := w.heap.size)) rfl Hv.out rfl (by have : ([] : List ByteArray).length = 0 := rfl; omega) (Nat.le_refl _) ?_; intro v1 w1 hO1 hb1 _)
  go_loopw [9] (fun i wr => i = .int .i64 0 /\ wr = w1) (fun _ _ => 0)
  case atStart => exact ⟨rfl, rfl⟩
  obtain ⟨rfl, hwr⟩ := hrel;obtain rfl := hwr;go_wp2_with fail
  go_ret2;exact ⟨0, 0, rfl, (fun _ => by simp [tnsNeed]), hb1⟩
 | succ N ih =>
  intro l n hn hN hz hok A c vs nv hnv hvz V cv w hr hv hd;have HIH := hid ih;have Hr := hid hr;have Hv := hid hv;have Hd := hid hd;have Hn := hid hn;have Hok := hid hok;have Hnd := hid hnd;have hnz : n <= 1048576 := by have := tnsNum_len l; omega
  have hNum := hN;subst hnv;clear ih hr hn hok hv hd hnd;obtain ⟨pt, hpt⟩ := xE w.heap.size;go_enter Tryz.func47, Tryz.ntmps47;go_wp2_with (at_builtin; refine wpl_strs (l := []) (lo := w.heap.size) rfl _ _ rfl Tryz.underlying23 (OwnN.nil (base := w.heap.size)) rfl Hv.out rfl (by have : ([] : List ByteArray).length = 0 := rfl; omega) (Nat.le_refl _) ?_; intro v1 w1 hO1 hb1 _; rw [List.nil_append] at hO1; have HO1 := hid hO1; clear hO1)
  go_loopw [8, 9] (fun own i wr => ∃ (j : Nat) (vs' : List ByteArray), j <= n /\ i = .int .i64 (j : Int) /\ vs'.length <= vs.length + j /\ OwnN 0 w.heap.size wr w.heap.size 9 1 own (strRows vs') /\ (∀ t ∈ l.take j, t.need ds) /\ Below w.heap.size w wr) (fun _ i _ => n - (intOf i).toNat)
  case atStart => exact ⟨0, vs, Nat.zero_le _, rfl, Nat.le_refl _, HO1.out, (fun t h => by simp at h), hb1⟩
  obtain ⟨j, vs', hj, rfl, hvl, hO, hneed, hb⟩ := hrel;have HO := hid hO;have Hneed := hid hneed;have Hb := hid hb;clear hO hneed hb HO1 hb1;obtain ⟨W0, rfl⟩ := xS wr;obtain ⟨nv', hnv'⟩ := xE vs'.length;obtain ⟨Ao, co, rfl⟩ := HO.out.shape (n := nv') (by rw [strRows_len, hnv']);have Hnv := hid hnv';rw [hnv'] at hvl;clear hnv';by_cases hlt : j < n
  ·have hli : (j : Int) < (n : Int) := by omega
   have hj0 : (0 : Int) <= (j : Int) := by omega
   have hjl : j < l.length := by have := Hn.out; omega
   obtain ⟨ad, rfl, hadl, hrow⟩ := rowTn Hr.out hjl;have hsn : l.take (j + 1) = l.take j ++ [l[j]] := (List.take_append_getElem hjl).symm;have htn := tnsNum_at hjl;obtain ⟨t, ht⟩ := xE l[j];have hto := tnsOk_iff.1 Hok.out _ (List.getElem_mem hjl);rw [ht] at hrow hsn htn hto;obtain ⟨kk, xx, nm, pp, bb, ee, aa, ss, uu⟩ := t;obtain ⟨np, hnp⟩ := xE pp.length;obtain ⟨nb, hnb⟩ := xE bb.length;obtain ⟨ne, hne⟩ := xE ee.length;obtain ⟨Ap, cp, Ab, cb, Ae, ce, t0, t1, t2, t3, t4, t5, t6, t7, t8, rp, rb, re⟩ := Tn.at_ hrow hnp hnb hne;rw [Tn.num] at htn;have hnpz : np <= 16 := by rw [<- hnp]; exact hto.2.2.1
   have HBs := hid (fun (vs : List ByteArray) (nv : Nat) (h1 : vs.length = nv) (h2 : nv + tnsNum bb <= 2097152) V cv W h3 h4 h5 => HIH.out bb nb hnb (by omega) (by omega) hto.2.2.2.1 Ab cb vs nv h1 h2 V cv W h3 h4 h5);have HEs := hid (fun (vs : List ByteArray) (nv : Nat) (h1 : vs.length = nv) (h2 : nv + tnsNum ee <= 2097152) V cv W h3 h4 h5 => HIH.out ee ne hne (by omega) (by omega) hto.2.2.2.2 Ae ce vs nv h1 h2 V cv W h3 h4 h5);have hT : ∀ {o : Nat} {v : Value}, w.cell? ⟨(ad.add (j * 9)).block, o, none⟩ = some v -> W0.cell? ⟨(ad.add (j * 9)).block, o, none⟩ = some v := fun {o v} h => (Hb.out.cell (p := ⟨(ad.add (j * 9)).block, o, none⟩) (by show (ad.add (j * 9)).block < _; rw [block_of_add]; exact hadl)).trans h
   replace t0 := (Hb.out.cell (p := ad.add (j * 9)) (by rw [block_of_add]; exact hadl)).trans t0;replace t1 := hT t1;replace t2 := hT t2;replace t3 := hT t3;replace t4 := hT t4;replace t5 := hT t5;replace t6 := hT t6;replace t7 := hT t7;replace t8 := hT t8;have Rp := hid rp;have Rb := hid rb;have Re := hid re;have Hs := hid hsn;have Hca := hid hto.2.1;have Hnp := hid hnp;clear hrow rp rb re hnp hnb hne ht hsn hto;go_upto_region 7 with fail
   obtain ⟨w1, hw1⟩ := xE (W0.alloc (.cells #[.int .i64 kk, .string xx, .string nm, .slice Ap np cp, .slice Ab nb cb, .slice Ae ne ce, .int .i64 aa, .int .i64 ss, .int .i64 uu] 52));have hal : Below W0.heap.size W0 w1 := by rw [<- hw1]; exact alloc_below _ _
   have HX : Hid (Blk w1 W0.heap.size 52 #[.int .i64 kk, .string xx, .string nm, .slice Ap np cp, .slice Ab nb cb, .slice Ae ne ce, .int .i64 aa, .int .i64 ss, .int .i64 uu]) := hid (by rw [<- hw1]; exact Blk.new _ _ _);have Hb1 := hid (Hb.out.trans (hal.mono Hb.out.size));have HO1 := hid (HO.out.below hal);have Rp1 := hid (RowsV.below Rp.out Hb1.out);rw [hw1];obtain ⟨gn, hgn⟩ := xE W0.heap.size;rw [hgn] at HX ⊢;clear hw1 hal hgn t0 t1 t2 t3 t4 t5 t6 t7 t8 Rp hadl HO Hb hT;go_upto_block 2 with fail
   go_cut [] from 19 to 114 (fun wx => Below w1.heap.size w1 wx)
   case first => as_aux_lemma =>
    go_wp2_with fail
    go_loopw [11] (fun i wr => ∃ k : Nat, k <= np /\ i = .int .i64 (k : Int) /\ Below w1.heap.size w1 wr) (fun i _ => np - (intOf i).toNat)
    case atStart => exact ⟨0, Nat.zero_le _, rfl, Below.refl _ _⟩
    obtain ⟨k, hk, rfl, hb2⟩ := hrel;obtain ⟨W2, rfl⟩ := xS wr;have HX2 := hid (HX.out.below hb2 HX.out.lt);have Hb2 := hid hb2;have d3 := (blk9_cells HX2.out).1.2.2.2.1;by_cases hkt : k < np
    ·have hki : (k : Int) < (np : Int) := by omega
     have hkl : k < pp.length := by have := Hnp.out; omega
     obtain ⟨ap, rfl, _, hapl, hrow⟩ := RowsV.get (RowsV.below Rp1.out hb2) hkl;have hok := Hca.out _ (List.getElem_mem hkl);obtain ⟨p, hp⟩ := xE pp[k];rw [hp] at hok hrow;clear hp hkl;obtain ⟨cn, ags⟩ := p;obtain ⟨na, hna⟩ := xE ags.length;obtain ⟨ca, Aa, cca, cb_, hra⟩ := Ca.at_ hrow hna;simp only at ca hra;have hnaz : na <= 1048576 := by have := hok.1; simp only at this; omega
     have Hra := hid hra;have Hna := hid hna;clear hok hra hna hrow ca;go_wp2_with fail
     go_loopw [12] (fun i ws => ∃ m : Nat, m <= na /\ i = .int .i64 (m : Int) /\ Below W2.heap.size W2 ws) (fun i _ => na - (intOf i).toNat)
     case atStart => exact ⟨0, Nat.zero_le _, rfl, Below.refl _ _⟩
     obtain ⟨m, hm, rfl, hb3⟩ := hrel;obtain ⟨W3, rfl⟩ := xS wr;have HX3 := hid (HX2.out.below hb3 HX2.out.lt);have d3 := (blk9_cells HX3.out).1.2.2.2.1;have d6 := (blk9_cells HX3.out).1.2.2.2.2.2.2.1;have cb2 := (hb3.cell (p := ⟨(ap.add (k * 2)).block, (ap.add (k * 2)).off + 1, none⟩) (by show (ap.add (k * 2)).block < _; rw [block_of_add]; exact hapl)).trans cb_;have Hb3 := hid (Hb2.out.trans (hb3.mono Hb2.out.size));have Hb23 := hid hb3;by_cases hmt : m < na
     ·have hmi : (m : Int) < (na : Int) := by omega
      have hml : m < ags.length := by have := Hna.out; omega
      obtain ⟨ae, hAe, _, hael, hrow⟩ := RowsV.get (RowsV.below Hra.out hb3) hml;subst hAe;obtain ⟨p, hp⟩ := xE ags[m];rw [hp] at hrow;clear hp hml;obtain ⟨npt, hnpt⟩ := xE p.path.length;obtain ⟨e0, e1, ⟨Apt, cpt, e2, -⟩, e3, e4⟩ := Ar.at_ hrow hnpt;clear hrow hnpt;obtain ⟨ak, anm, apt, an, ax⟩ := p;simp only at e0 e1 e2 e3 e4;go_upto_region 14 with fail
      obtain ⟨w4, hw4⟩ := xE (W3.alloc (.cells #[.int .i64 ak, .string anm, .slice Apt npt cpt, .int .i64 an, .string ax] 137));have hal : Below W3.heap.size W3 w4 := by rw [<- hw4]; exact alloc_below _ _
      have HY : Hid (Blk w4 W3.heap.size 137 #[.int .i64 ak, .string anm, .slice Apt npt cpt, .int .i64 an, .string ax]) := hid (by rw [<- hw4]; exact Blk.new _ _ _);have Hb4 := hid (Hb3.out.trans (hal.mono Hb3.out.size));have Hb24 := hid (hb3.trans (hal.mono hb3.size));have HX4 := hid (HX3.out.below hal HX3.out.lt);rw [hw4];clear hw4 hal e0 e1 e2 e3 e4 d3 d6 cb2 hb3 hael;obtain ⟨⟨y0, y1, -⟩, -⟩ := blk5_cells HY.out;have HIn := hid (in22_any vs' nv' Hnv.out (by omega) Ao co anm w4 (HO1.out.below Hb4.out).rows_);have d6 := (blk9_cells HX4.out).1.2.2.2.2.2.2.1;obtain ⟨q2, hq2⟩ := xE (ak == 2);obtain ⟨qn, hqn⟩ := xE anm.toList.isEmpty;cases q2 <;> cases qn
      all_goals (
       go_wp2_with (go_at_call 59; refine HIn.out.mono ?_; rintro e w5 ⟨bi, rfl, hw5⟩; obtain rfl := hw5)
       all_goals first
        | (go_roundw
           case rel => exact ⟨m + 1, by omega, by go_num, Hb24.out⟩
           case measure => simp [intOf]; omega
           done)
        | (go_ret2
           exact ⟨_, 31, rfl, (fun h => absurd h (by decide)), Hb1.out.trans (Hb4.out.mono Hb1.out.size)⟩))
     obtain rfl : m = na := by omega
     go_wp2_with fail
     go_roundw
     case rel => exact ⟨k + 1, by omega, by go_num, Hb3.out⟩
     simp [intOf]; omega
    obtain rfl : k = np := by omega
    go_wp2_with fail
    go_meet;exact Hb2.out
   obtain ⟨w2, rfl⟩ := xS wc;have HX2 := hid (HX.out.below hcut HX.out.lt);have Hb2 := hid (Hb1.out.trans (hcut.mono Hb1.out.size));have HO2 := hid (HO1.out.below hcut);clear hcut HX Hb1 HO1 Rp1;have HF := hid (find22_any (S := fun _ => True) ds nd Hnd.out hdz D cd nm w2 (RowsV.below Hd.out Hb2.out));obtain ⟨⟨d0, -, d2, -, -, -, d6, -, -⟩, -⟩ := blk9_cells HX2.out;go_upto_region 16 with fail
   go_cut [82] from 19 to 114 (fun cc wx => ∃ b : Bool, cc = .bool b /\ (b = false -> kk = 6 -> 0 <= findD ds nm 0) /\ wx = w2)
   case first => as_aux_lemma =>
    obtain ⟨fd, hfd⟩ := xE (findD ds nm 0);by_cases h6 : kk = 6
    ·subst h6;by_cases h0 : fd < 0
     ·go_wp2_with (go_at_call 50; refine HF.out.mono ?_; rintro e w5 ⟨he, hw5⟩; obtain rfl := hw5; rw [hfd] at he; subst he)
      all_goals (go_meet; exact ⟨_, rfl, (fun h => by simp at h), rfl⟩)
     go_wp2_with (go_at_call 50; refine HF.out.mono ?_; rintro e w5 ⟨he, hw5⟩; obtain rfl := hw5; rw [hfd] at he; subst he)
     all_goals (go_meet; exact ⟨_, rfl, (fun _ _ => by omega), rfl⟩)
    have h6b : (kk == 6) = false := beq_eq_false_iff_ne.2 h6;go_wp2_with fail
    all_goals (go_meet; exact ⟨_, rfl, (fun _ h => absurd h h6), rfl⟩)
   obtain ⟨b, rfl, hfind, hwc⟩ := hcut;obtain rfl := hwc;cases b
   ·have Hfind := hid (hfind rfl);clear hfind HF d6;obtain ⟨q7, hq7⟩ := xE (kk == 7);go_upto_if 87 with fail
    go_cut [8] from 19 to 114 (fun own wx => ∃ (vs2 : List ByteArray) (A2 : Option Addr) (c2 : Nat), own = .slice A2 vs2.length c2 /\ vs2.length <= nv' + 1 /\ OwnN 0 w.heap.size wx w.heap.size 9 1 (.slice A2 vs2.length c2) (strRows vs2) /\ Below w.heap.size w wx /\ Blk wx gn 52 #[.int .i64 kk, .string xx, .string nm, .slice Ap np cp, .slice Ab nb cb, .slice Ae ne ce, .int .i64 aa, .int .i64 ss, .int .i64 uu])
    case first => as_aux_lemma =>
     have hsz := Hb2.out.size;cases q7
     ·go_wp2_with fail
      go_meet;exact ⟨vs', Ao, co, by rw [Hnv.out], by have := Hnv.out; omega, by rw [Hnv.out]; exact HO2.out, Hb2.out, HX2.out⟩
     have hA1 : (strRows vs').length <= 1099511627776 / 16 := (by rw [strRows_len, Hnv.out]; omega)
     have hA2 : w.heap.size <= wc.heap.size := hsz;go_wp2_with (at_builtin; refine wpl_pushX rfl _ _ rfl Tryz.underlying23 info_string HO2.out rfl (us := [.string nm]) (r := [.str nm]) ⟨_, _, rfl, DtV.str, rfl⟩ rfl rfl hA1 hA2 ?_; intro v3 w3 hO3 hb3 _ hg3; rw [strRows_snoc] at hO3; have HO3 := hid hO3; obtain ⟨A3, c3, rfl⟩ := hO3.shape (n := (vs' ++ [nm]).length) (strRows_len _); have HX3 := hid (HX2.out.apart HO2.out (by decide) hg3); clear hO3)
     go_meet;exact ⟨vs' ++ [nm], A3, c3, by first | rfl | (rw [List.length_append, Hnv.out]; rfl) | (rw [List.length_append]; rfl) | simp, by rw [List.length_append, Hnv.out]; exact Nat.le_refl _, HO3.out, Hb2.out.trans hb3, HX3.out⟩
    obtain ⟨vs2, A2, c2, rfl, hvl2, hO3, hb3, hX3⟩ := hcut;obtain ⟨w3, rfl⟩ := xS wc;obtain ⟨n2, hn2⟩ := xE vs2.length;have Hn2 := hid hn2;rw [hn2] at hvl2 hO3 ⊢;have HO3 := hid hO3;have Hb3 := hid hb3;have HX3 := hid hX3;clear hO3 hb3 hX3 hn2 HX2 Hb2 HO2 d0 d2 hq7;have HB3 := hid (HBs.out vs2 n2 Hn2.out (by omega) A2 c2 w3 (RowsV.below Rb.out Hb3.out) HO3.out.rows_ (RowsV.below Hd.out Hb3.out));obtain ⟨⟨-, -, -, -, d4, -, -, -, -⟩, -⟩ := blk9_cells HX3.out;go_upto_if 102 with (go_at_call 47; refine HB3.out.mono ?_; rintro e w4 ⟨p4, e4, rfl, hn4, hb4⟩)
    have Hb4 := hid (Hb3.out.trans (hb4.mono Hb3.out.size));have HX4 := hid (HX3.out.below hb4 HX3.out.lt);have HO4 := hid (HO3.out.below hb4);have HN4 := hid hn4;clear hb4 hn4 d4 HB3 HBs HX3 Hb3 HO3;go_cut [14, 15] from 19 to 114 (fun pv ev wx => ∃ p5 e5 : Int, pv = .int .i64 p5 /\ ev = .int .i64 e5 /\ (e5 = 0 -> tnsNeed ds bb /\ tnsNeed ds ee) /\ Below w4.heap.size w4 wx)
    case first => as_aux_lemma =>
     by_cases h0 : e4 = 0
     ·subst h0;have HE4 := hid (HEs.out vs2 n2 Hn2.out (by omega) A2 c2 w4 (RowsV.below Re.out Hb4.out) HO4.out.rows_ (RowsV.below Hd.out Hb4.out));obtain ⟨⟨-, -, -, -, -, d5, -, -, -⟩, -⟩ := blk9_cells HX4.out;go_wp2_with (go_at_call 47; refine HE4.out.mono ?_; rintro e w5 ⟨p5, e5, rfl, hn5, hb5⟩)
      go_meet;exact ⟨p5, e5, rfl, rfl, fun h => ⟨HN4.out trivial, hn5 h⟩, hb5⟩
     have h0b : (e4 == 0) = false := beq_eq_false_iff_ne.2 h0;go_wp2_with fail
     go_meet;exact ⟨p4, e4, rfl, rfl, fun h => absurd h h0, Below.refl _ _⟩
    obtain ⟨p5, e5, rfl, rfl, hn5, hb5⟩ := hcut;obtain ⟨w5, rfl⟩ := xS wc;have HO5 := hid (HO4.out.below hb5);have Hb5 := hid (Hb4.out.trans (hb5.mono Hb4.out.size));have HN5 := hid hn5;clear hn5 hb5 HX4 HO4 Hb4 HN4;by_cases h0 : e5 = 0
    ·subst h0;go_wp2_with fail
     go_roundw
     case rel => exact ⟨j + 1, vs2, by omega, by go_num, by have := Hn2.out; omega, by exact HO5.out, by
      rw [Hs.out];intro q hq;rcases List.mem_append.1 hq with h | h
      ·exact Hneed.out q h
      rw [List.mem_singleton.1 h]; exact ⟨Hfind.out, HN5.out rfl⟩, Hb5.out⟩
     simp [intOf]; omega
    have h0b : (e5 != 0) = true := bne_iff_ne.2 h0;go_wp2_with fail
    go_ret2;exact ⟨p5, e5, rfl, fun h => absurd h h0, Hb5.out⟩
   go_wp2_with fail
   go_ret2;exact ⟨_, 71, rfl, (fun h => absurd h (by decide)), Hb2.out⟩
  obtain rfl : j = n := by omega
  go_wp2_with fail
  go_ret2;exact ⟨0, 0, rfl, fun _ => tnsNeed_iff.2 (by have h := Hneed.out; rwa [List.take_of_length_le (by have := Hn.out; omega)] at h), Hb.out⟩
def PVE (N B : Nat) (w : World) (e : Ending) (w' : World) : Prop := ∃ (val : Value) (er : Int), e = .returned (.tuple #[val, .int .i64 er]) /\ VdV N B val w' /\ Below w.heap.size w w'
theorem index04_any (N B : Nat) (k m : Int) (x : ByteArray) (l : List Vd) (ks : List ByteArray) (nl nk : Nat) (hnl : l.length = nl) (hnk : ks.length = nk) (hN : (Vd.mk k m x l ks).wt <= N) (hz : N <= 4194304) (Al Ak : Option Addr) (cl ck : Nat) (i : Int) (w : World) (hl : RowsV w (fun b => b < B) 5 Al 0 (vdRows l)) (hk : RowsV w (fun b => b < B) 1 Ak 0 (strRows ks)) : Calls Tryz.prog 104 #[.agg #[.int .i64 k, .int .i64 m, .string x, .slice Al nl cl, .slice Ak nk ck], .int .i64 i] w (PVE N B w) := by
 have hwp := (Vd.mk k m x l ks).wt_pos
 have hN1 : 6 <= N := by omega
 have hN2 := hN
 rw [Vd.wt] at hN2
 have hlen := vdsWt_len l
 have hlen2 := strWt_len ks
 have hnlz : nl <= 4194304 := by omega
 have hnkz : nk <= 4194304 := by omega
 obtain ⟨W, hW⟩ := xE ((w.alloc (.cells #[.int .i64 k, .int .i64 m, .string x, .slice Al nl cl, .slice Ak nk ck] 25)).alloc (.cells #[.int .i64 0, .int .i64 0, .string ⟨#[]⟩, .slice none 0 0, .slice none 0 0] 25))
 have hbw : Below w.heap.size w W := by rw [<- hW]; go_grown
 have HX : Hid (Blk W w.heap.size 25 #[.int .i64 k, .int .i64 m, .string x, .slice Al nl cl, .slice Ak nk ck]) := hid (by rw [<- hW]; exact (Blk.new w _ _).alloc _)
 have HR : Hid (Blk W (w.heap.size + 1) 25 #[.int .i64 0, .int .i64 0, .string ⟨#[]⟩, .slice none 0 0, .slice none 0 0]) := hid (by rw [<- hW]; exact Blk.new_at _ _ (by simp) _ _)
 have Hb := hid hbw
 have Hl := hid hl
 have Hk := hid hk
 obtain ⟨pt, hpt⟩ := xE w.heap.size
 rw [hpt] at HX HR
 clear hbw hl hk
 obtain ⟨⟨c0, -, -, c3, c4⟩, -⟩ := blk5_cells HX.out
 obtain ⟨⟨d0, d1, d2, d3, d4⟩, g0, g1, g2, g3, g4⟩ := blk5_cells HR.out
 go_enter Tryz.func104, Tryz.ntmps104
 have hsz := hpt
 obtain ⟨q5, hq5⟩ := xE (k != 5)
 cases q5
 ·by_cases hi0 : i < 0
  ·go_wp2_with fail
   (try simp only [Exit.inBlock, Exit.then]);refine rc1 (pt + 1) (blk5_put HR.out) ?_;exact ⟨_, _, rfl, VdV.zero hN1, Hb.out.trans (put5_below (by omega))⟩
  by_cases hin : (nl : Int) <= i
  ·go_wp2_with fail
   (try simp only [Exit.inBlock, Exit.then]);refine rc1 (pt + 1) (blk5_put HR.out) ?_;exact ⟨_, _, rfl, VdV.zero hN1, Hb.out.trans (put5_below (by omega))⟩
  obtain ⟨j, rfl⟩ : ∃ j : Nat, i = (j : Int) := ⟨i.toNat, by omega⟩
  have hjl : j < l.length := by omega
  have hli : (j : Int) < (nl : Int) := by omega
  have hj0 : (0 : Int) <= (j : Int) := by omega
  obtain ⟨ad, rfl, hadl, hrow⟩ := rowVd Hl.out hjl;have hwt := vdsWt_mem (List.getElem_mem hjl);obtain ⟨v, hv⟩ := xE l[j];rw [hv] at hrow hwt;obtain ⟨vk, vm, vx, vl, vks⟩ := v;obtain ⟨a, ha⟩ := xE vl.length;obtain ⟨b, hb⟩ := xE vks.length;obtain ⟨Bl, Bk, dl, dk, v0, v1, v2, v3, v4, rl, rk⟩ := (show ∃ Bl Bk dl dk, _ /\ _ /\ _ /\ _ /\ _ /\ _ /\ _ from by
   obtain ⟨Bl, dl, Bk, dk, h⟩ := Vd.at_ hrow ha hb;exact ⟨Bl, Bk, dl, dk, h⟩)
  have hT : ∀ {o : Nat} {v : Value}, w.cell? ⟨(ad.add (j * 5)).block, o, none⟩ = some v -> W.cell? ⟨(ad.add (j * 5)).block, o, none⟩ = some v := fun {o v} h => (Hb.out.cell (p := ⟨(ad.add (j * 5)).block, o, none⟩) (by show (ad.add (j * 5)).block < _; rw [block_of_add]; exact hadl)).trans h
  replace v0 := (Hb.out.cell (p := ad.add (j * 5)) (by rw [block_of_add]; exact hadl)).trans v0;replace v1 := hT v1;replace v2 := hT v2;replace v3 := hT v3;replace v4 := hT v4;clear hT;have Rl := hid rl;have Rk := hid rk;have Hv : Hid (∀ w', Below w.heap.size w w' -> VdV N B (.agg #[.int .i64 vk, .int .i64 vm, .string vx, .slice Bl a dl, .slice Bk b dk]) w') := hid (fun w' hw => ⟨vk, vm, vx, vl, vks, a, b, Bl, Bk, dl, dk, rfl, ha, hb, by omega, RowsV.below Rl.out hw, RowsV.below Rk.out hw⟩);clear hrow rl rk ha hb hv hwt;go_wp2_with fail
  (try simp only [Exit.inBlock, Exit.then]);refine rc1 (pt + 1) (blk5_put HR.out) ?_;have hbf := Hb.out.trans (put5_below (w := W) (g := pt + 1) (v0 := .int .i64 vk) (v1 := .int .i64 vm) (v2 := .string vx) (v3 := .slice Bl a dl) (v4 := .slice Bk b dk) (by omega));exact ⟨_, _, rfl, Hv.out _ hbf, hbf⟩
 go_wp2_with fail
 (try simp only [Exit.inBlock, Exit.then])
 refine rc1 (pt + 1) (blk5_put HR.out) ?_
 exact ⟨_, _, rfl, VdV.zero hN1, Hb.out.trans (put5_below (by omega))⟩
theorem field04_any (N B : Nat) (k m : Int) (x : ByteArray) (l : List Vd) (ks : List ByteArray) (nl nk : Nat) (hnl : l.length = nl) (hnk : ks.length = nk) (hN : (Vd.mk k m x l ks).wt <= N) (hz : N <= 4194304) (Al Ak : Option Addr) (cl ck : Nat) (s : ByteArray) (w : World) (hl : RowsV w (fun b => b < B) 5 Al 0 (vdRows l)) (hk : RowsV w (fun b => b < B) 1 Ak 0 (strRows ks)) : Calls Tryz.prog 81 #[.agg #[.int .i64 k, .int .i64 m, .string x, .slice Al nl cl, .slice Ak nk ck], .string s] w (PVE N B w) := by
 have hwp := (Vd.mk k m x l ks).wt_pos
 have hN1 : 6 <= N := by omega
 have hN2 := hN
 rw [Vd.wt] at hN2
 have hlen := vdsWt_len l
 have hlen2 := strWt_len ks
 have hnlz : nl <= 4194304 := by omega
 have hnkz : nk <= 4194304 := by omega
 obtain ⟨W, hW⟩ := xE ((w.alloc (.cells #[.int .i64 k, .int .i64 m, .string x, .slice Al nl cl, .slice Ak nk ck] 25)).alloc (.cells #[.int .i64 0, .int .i64 0, .string ⟨#[]⟩, .slice none 0 0, .slice none 0 0] 25))
 have hbw : Below w.heap.size w W := by rw [<- hW]; go_grown
 have HX : Hid (Blk W w.heap.size 25 #[.int .i64 k, .int .i64 m, .string x, .slice Al nl cl, .slice Ak nk ck]) := hid (by rw [<- hW]; exact (Blk.new w _ _).alloc _)
 have HR : Hid (Blk W (w.heap.size + 1) 25 #[.int .i64 0, .int .i64 0, .string ⟨#[]⟩, .slice none 0 0, .slice none 0 0]) := hid (by rw [<- hW]; exact Blk.new_at _ _ (by simp) _ _)
 have Hb := hid hbw
 have Hl := hid hl
 have Hk := hid hk
 obtain ⟨pt, hpt⟩ := xE w.heap.size
 rw [hpt] at HX HR
 clear hbw hl hk
 obtain ⟨⟨c0, -, -, c3, c4⟩, -⟩ := blk5_cells HX.out
 obtain ⟨⟨d0, d1, d2, d3, d4⟩, g0, g1, g2, g3, g4⟩ := blk5_cells HR.out
 go_enter Tryz.func81, Tryz.ntmps81
 have hsz := hpt
 obtain ⟨q6, hq6⟩ := xE (k != 6)
 cases q6
 ·go_wp2_with fail
  go_loopw [6] (fun i wr => ∃ j : Nat, j <= nk /\ j <= nl /\ i = .int .i64 (j : Int) /\ wr = W) (fun i _ => nk - (intOf i).toNat)
  case atStart => exact ⟨0, Nat.zero_le _, Nat.zero_le _, rfl, rfl⟩
  obtain ⟨j, hj, hj2, rfl, hwr⟩ := hrel;obtain rfl := hwr;have hj0 : (0 : Int) <= (j : Int) := by omega
  by_cases hlt : j < nk
  ·have hlk : (j : Int) < (nk : Int) := by omega
   by_cases hlt2 : j < nl
   ·have hli : (j : Int) < (nl : Int) := by omega
    have hjk : j < ks.length := by omega
    have hjl : j < l.length := by omega
    obtain ⟨ak, rfl, _, hakl, hrow⟩ := RowsV.get (f := fun x => [Dt.str x]) Hk.out hjk;obtain ⟨d, hd⟩ := xE ks[j];rw [hd] at hrow;have a0 := Str.at_ hrow;simp only [Nat.mul_one] at a0;have a1 := (Hb.out.cell (p := ak.add j) (by rw [block_of_add]; exact hakl)).trans a0;clear hrow hd a0;obtain ⟨qs, hqs⟩ := xE (d.toList == s.toList);cases qs
    ·go_wp2_with fail
     go_roundw
     case rel => exact ⟨j + 1, by omega, by omega, by go_num, by first | rfl | trivial⟩
     simp [intOf]; omega
    obtain ⟨ad, rfl, hadl, hrow⟩ := rowVd Hl.out hjl;have hwt := vdsWt_mem (List.getElem_mem hjl);obtain ⟨v, hv⟩ := xE l[j];rw [hv] at hrow hwt;obtain ⟨vk, vm, vx, vl, vks⟩ := v;obtain ⟨a, ha⟩ := xE vl.length;obtain ⟨b, hb⟩ := xE vks.length;obtain ⟨Bl, dl, Bk, dk, v0, v1, v2, v3, v4, rl, rk⟩ := Vd.at_ hrow ha hb;have hT : ∀ {o : Nat} {v : Value}, w.cell? ⟨(ad.add (j * 5)).block, o, none⟩ = some v -> wr.cell? ⟨(ad.add (j * 5)).block, o, none⟩ = some v := fun {o v} h => (Hb.out.cell (p := ⟨(ad.add (j * 5)).block, o, none⟩) (by show (ad.add (j * 5)).block < _; rw [block_of_add]; exact hadl)).trans h
    replace v0 := (Hb.out.cell (p := ad.add (j * 5)) (by rw [block_of_add]; exact hadl)).trans v0;replace v1 := hT v1;replace v2 := hT v2;replace v3 := hT v3;replace v4 := hT v4;clear hT;have Rl := hid rl;have Rk := hid rk;have Hv : Hid (∀ w', Below w.heap.size w w' -> VdV N B (.agg #[.int .i64 vk, .int .i64 vm, .string vx, .slice Bl a dl, .slice Bk b dk]) w') := hid (fun w' hw => ⟨vk, vm, vx, vl, vks, a, b, Bl, Bk, dl, dk, rfl, ha, hb, by omega, RowsV.below Rl.out hw, RowsV.below Rk.out hw⟩);clear hrow rl rk ha hb hv hwt;go_wp2_with fail
    (try simp only [Exit.inBlock, Exit.then]);refine rc1 (pt + 1) (blk5_put HR.out) ?_;have hbf := Hb.out.trans (put5_below (w := wr) (g := pt + 1) (v0 := .int .i64 vk) (v1 := .int .i64 vm) (v2 := .string vx) (v3 := .slice Bl a dl) (v4 := .slice Bk b dk) (by omega));exact ⟨_, _, rfl, Hv.out _ hbf, hbf⟩
   have hli : ¬ ((j : Int) < (nl : Int)) := by omega
   go_wp2_with fail
   (try simp only [Exit.inBlock, Exit.then]);refine rc1 (pt + 1) (blk5_put HR.out) ?_;exact ⟨_, _, rfl, VdV.zero hN1, Hb.out.trans (put5_below (by omega))⟩
  have hlk : ¬ ((j : Int) < (nk : Int)) := by omega
  go_wp2_with fail
  (try simp only [Exit.inBlock, Exit.then]);refine rc1 (pt + 1) (blk5_put HR.out) ?_;exact ⟨_, _, rfl, VdV.zero hN1, Hb.out.trans (put5_below (by omega))⟩
 go_wp2_with fail
 (try simp only [Exit.inBlock, Exit.then])
 refine rc1 (pt + 1) (blk5_put HR.out) ?_
 exact ⟨_, _, rfl, VdV.zero hN1, Hb.out.trans (put5_below (by omega))⟩
theorem made26_any (N B : Nat) (s : ByteArray) (hN : 4102 <= N) (w : World) (hB : B <= w.heap.size) : Calls Tryz.prog 83 #[.string s] w (PVE N B w) := by
 obtain ⟨W, hW⟩ := xE (w.alloc (.cells #[.int .i64 0, .int .i64 0, .string ⟨#[]⟩, .slice none 0 0, .slice none 0 0] 25))
 have hbw : Below w.heap.size w W := by rw [<- hW]; exact alloc_below _ _
 have HR : Hid (Blk W w.heap.size 25 #[.int .i64 0, .int .i64 0, .string ⟨#[]⟩, .slice none 0 0, .slice none 0 0]) := hid (by rw [<- hW]; exact Blk.new _ _ _)
 have Hb := hid hbw
 obtain ⟨pt, hpt⟩ := xE w.heap.size
 rw [hpt] at HR
 clear hbw
 have HT := hid (fun W => text04_any B s W)
 go_enter Tryz.func83, Tryz.ntmps83
 by_cases h4 : (4096 : Int) < (s.size : Int)
 ·obtain ⟨⟨d0, d1, d2, d3, d4⟩, g0, g1, g2, g3, g4⟩ := blk5_cells HR.out;go_wp2_with fail
  (try simp only [Exit.inBlock, Exit.then]);refine rc1 pt (blk5_put HR.out) ?_;exact ⟨_, _, rfl, VdV.zero (by omega), Hb.out.trans (put5_below (by omega))⟩
 go_wp2_with (go_at_call 79; refine (HT.out _).mono ?_; rintro e w3 ⟨val, rfl, hv3, hb3⟩; obtain ⟨k, m, x, l, ks, nl, nk, Al, Ak, cl, ck, rfl, h1, h2, h3, r4, r5⟩ := hv3; have R4 := hid r4; have R5 := hid r5; clear r4 r5; have HR3 := hid (HR.out.below hb3 HR.out.lt); have Hb3 := hid hb3; have Hlt := hid HR.out.lt; clear hb3; obtain ⟨⟨d0, d1, d2, d3, d4⟩, g0, g1, g2, g3, g4⟩ := blk5_cells HR3.out)
 (try simp only [Exit.inBlock, Exit.then])
 refine rc1 pt (blk5_put HR3.out) ?_
 have hV : VdV N B (.agg #[.int .i64 k, .int .i64 m, .string x, .slice Al nl cl, .slice Ak nk ck]) w3 := ⟨k, m, x, l, ks, nl, nk, Al, Ak, cl, ck, rfl, h1, h2, by omega, R4.out, R5.out⟩
 exact ⟨_, _, rfl, hV.keep (put5_below (by omega)), (Hb.out.trans (Hb3.out.mono Hb.out.size)).trans (put5_below (by omega))⟩
theorem truth04_any (k m : Int) (x : ByteArray) (nl nk : Nat) (Al Ak : Option Addr) (cl ck : Nat) (w : World) : Calls Tryz.prog 71 #[.agg #[.int .i64 k, .int .i64 m, .string x, .slice Al nl cl, .slice Ak nk ck]] w (AB w) := by
 obtain ⟨W, hW⟩ := xE (w.alloc (.cells #[.int .i64 k, .int .i64 m, .string x, .slice Al nl cl, .slice Ak nk ck] 25))
 have hbw : Below w.heap.size w W := by rw [<- hW]; exact alloc_below _ _
 have HX : Hid (Blk W w.heap.size 25 #[.int .i64 k, .int .i64 m, .string x, .slice Al nl cl, .slice Ak nk ck]) := hid (by rw [<- hW]; exact Blk.new _ _ _)
 have Hb := hid hbw
 obtain ⟨pt, hpt⟩ := xE w.heap.size
 rw [hpt] at HX
 clear hbw
 obtain ⟨⟨c0, c1, c2, c3, c4⟩, -⟩ := blk5_cells HX.out
 go_enter Tryz.func71, Tryz.ntmps71
 obtain ⟨q0, hq0⟩ := xE (k == 0)
 obtain ⟨q1, hq1⟩ := xE (k == 1)
 obtain ⟨q2, hq2⟩ := xE (k == 2)
 obtain ⟨q3, hq3⟩ := xE (k == 3)
 obtain ⟨q5, hq5⟩ := xE (k == 5)
 obtain ⟨q6, hq6⟩ := xE (k == 6)
 go_wp2_with fail
 all_goals (
  go_ret;exact ⟨_, rfl, Hb.out⟩)
def PII2 (n : Nat) (w : World) (e : Ending) (w' : World) : Prop := ∃ a b : Int, e = .returned (.tuple #[.int .i64 a, .int .i64 b]) /\ Below w.heap.size w w'
theorem len04_any (k m : Int) (x : ByteArray) (nl nk : Nat) (Al Ak : Option Addr) (cl ck : Nat) (w : World) : Calls Tryz.prog 82 #[.agg #[.int .i64 k, .int .i64 m, .string x, .slice Al nl cl, .slice Ak nk ck]] w (PII2 0 w) := by
 obtain ⟨W, hW⟩ := xE (w.alloc (.cells #[.int .i64 k, .int .i64 m, .string x, .slice Al nl cl, .slice Ak nk ck] 25))
 have hbw : Below w.heap.size w W := by rw [<- hW]; exact alloc_below _ _
 have HX : Hid (Blk W w.heap.size 25 #[.int .i64 k, .int .i64 m, .string x, .slice Al nl cl, .slice Ak nk ck]) := hid (by rw [<- hW]; exact Blk.new _ _ _)
 have Hb := hid hbw
 obtain ⟨pt, hpt⟩ := xE w.heap.size
 rw [hpt] at HX
 clear hbw
 obtain ⟨⟨c0, c1, c2, c3, c4⟩, -⟩ := blk5_cells HX.out
 go_enter Tryz.func82, Tryz.ntmps82
 obtain ⟨q5, hq5⟩ := xE (k == 5)
 obtain ⟨q6, hq6⟩ := xE (k == 6)
 obtain ⟨q4, hq4⟩ := xE (k == 4)
 go_wp2_with fail
 all_goals (
  go_ret2;exact ⟨_, _, rfl, Hb.out⟩)
end Go.Proofs.YtkcnmjdomipbjaaGreat
