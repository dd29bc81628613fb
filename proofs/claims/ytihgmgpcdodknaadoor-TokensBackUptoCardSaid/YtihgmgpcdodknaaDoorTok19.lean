/- tokens.Tokens: the deferred closure, the loops, the ways out. -/
import Derived.Test.YtihgmgpcdodknaaDoorTok18
import Derived.Test.YtihgmgpcdodknaaDoorTokQ
import Derived.Defers
import Derived.Recover
import Derived.Laws.Pointers
import Derived.Deep.LoopGhost
import Derived.Deep.CutRange
set_option linter.unusedVariables false
namespace Go.Proofs.YtihgmgpcdodknaaDoor
open Go.RowKit

theorem assert_errno (n : Int) (w : World) : (Instr.typeAssert (.iface 24 (.int .i64 n)) 20 24 true).run Tryd.prog w = .ok (.tuple #[.int .i64 n, .bool true]) w := by kernel_rfl
theorem assert_none (w : World) : (Instr.typeAssert .nilIface 20 24 true).run Tryd.prog w = .ok (.tuple #[.int .i64 0, .bool false]) w := by kernel_rfl
/-- the two results' cells -/
def St (w : World) (b : Nat) (v : Value) (e : Int) : Prop := Blk w b 22 #[v] ∧ Blk w (b + 1) 24 #[.int .i64 e]
theorem St.below {w w' : World} {b B : Nat} {v : Value} {e : Int} (h : St w b v e) (hb : Below B w w') (hB : b + 1 < B) : St w' b v e := ⟨h.1.below hb (by omega), h.2.below hb (by omega)⟩
theorem St.keep {w w' : World} {b : Nat} {v : Value} {e : Int} (h : St w b v e) (hb : Below w.heap.size w w') : St w' b v e := h.below hb h.2.lt
theorem St.c0 {w : World} {b : Nat} {v : Value} {e : Int} (h : St w b v e) : w.cell? ⟨b, 0, none⟩ = some v := (h.1.cell 0).trans rfl
theorem St.c1 {w : World} {b : Nat} {v : Value} {e : Int} (h : St w b v e) : w.cell? ⟨b + 1, 0, none⟩ = some (.int .i64 e) := (h.2.cell 0).trans rfl
theorem St.two {w : World} {b : Nat} {v : Value} {e : Int} (h : St w b v e) (v' : Value) (e' : Int) : St ((w.setCell ⟨b, 0, none⟩ v').setCell ⟨b + 1, 0, none⟩ (.int .i64 e')) b v' e' :=
  ⟨(h.1.set_ 0 _).far (p := ⟨b + 1, 0, none⟩) (by show b ≠ b + 1; omega) _, (h.2.far (p := ⟨b, 0, none⟩) (by show b + 1 ≠ b; omega) _).set_ 0 _⟩

set_option maxHeartbeats 800000 in
theorem catch_panicking (b : Nat) (v0 : Value) (e0 n : Int) (older : List PanicEntry) (w : World) (hs : St w b v0 e0) :
    CallsD Tryd.prog 50 #[.pointer (some ⟨b, 0, none⟩), .pointer (some ⟨b + 1, 0, none⟩)] (.panicking ({ v := .iface 24 (.int .i64 n), recovered := false } :: older)) w fun r u' w' =>
      r = .returned (.tuple #[]) ∧ u' = .panicking ({ v := .iface 24 (.int .i64 n), recovered := true } :: older) ∧ Below b w w' ∧ St w' b (.slice none 0 0) n := by
  refine callsD_of_wpS Tryd.func50 rfl fun c₀ cs hu => ?_
  apply wpS_seq
  apply wpS_region
  simp [wpOpsS, go_sem, recoverD, hu, Tryd.ntmps50, Exit.thenS, assert_errno]
  apply wpS_seq
  apply wpS_region
  simp [wpOpsS, go_sem, Exit.thenS]
  refine wpS_cond (t := true) (by simp [Act.eval, Array.replicate]) ?_
  simp only [if_true]
  refine wpS_of_wp ?_
  simp [Array.replicate]
  have c0 := hs.c0
  have c1 := hs.c1
  have f0 : w.frozen? ⟨b, 0, none⟩ = false := hs.1.frozen 0
  have f1 : w.frozen? ⟨b + 1, 0, none⟩ = false := hs.2.frozen 0
  have H2 := hid (hs.two (.slice none 0 0) n)
  have HB : Hid (Below b w ((w.setCell ⟨b, 0, none⟩ (.slice none 0 0)).setCell ⟨b + 1, 0, none⟩ (.int .i64 n))) := hid (below_set (below_set (Below.refl _ _) ⟨b, 0, none⟩ _ (Nat.le_refl _)) ⟨b + 1, 0, none⟩ _ (Nat.le_succ _))
  clear hs
  go_wp2
  simp [bodyPostS, results, Tryd.results50]
  exact ⟨HB.out, H2.out⟩
set_option maxHeartbeats 800000 in
theorem catch_idle (b : Nat) (w : World) :
    CallsD Tryd.prog 50 #[.pointer (some ⟨b, 0, none⟩), .pointer (some ⟨b + 1, 0, none⟩)] .returning w fun r u' w' =>
      r = .returned (.tuple #[]) ∧ u' = .returning ∧ Below w.heap.size w w' := by
  refine callsD_of_wpS Tryd.func50 rfl fun c₀ cs hu => ?_
  apply wpS_seq
  apply wpS_region
  simp [wpOpsS, go_sem, recoverD, hu, Tryd.ntmps50, Exit.thenS, assert_none]
  apply wpS_seq
  apply wpS_region
  simp [wpOpsS, go_sem, Exit.thenS]
  refine wpS_cond (t := false) (by simp [Act.eval, Array.replicate]) ?_
  simp only [Bool.false_eq_true, if_false]
  refine wpS_of_wp (wp_skip ?_)
  have hb : Below w.heap.size w w := Below.refl _ _
  cases c₀
  simp_all [bodyPostS, results, Tryd.results50]
set_option maxHeartbeats 800000 in
theorem res_toks (tmps : Array Value) (w : World) (b : Nat) (v : Value) (e : Int) (h2 : tmps[2]? = some (.pointer (some ⟨b, 0, none⟩))) (h3 : tmps[3]? = some (.pointer (some ⟨b + 1, 0, none⟩))) (hs : St w b v e) :
    (results Tryd.f16 tmps).run Tryd.prog w = .ok (.tuple #[v, .int .i64 e]) w := by
  have c0 := hs.c0
  have c1 := hs.c1
  simp [results, Tryd.results16, go_sem, h2, h3, c0, c1]
theorem leave_none (tmps : Array Value) (w : World) (b : Nat) (v : Value) (e : Int) (R : Ending → World → Prop) (h2 : tmps[2]? = some (.pointer (some ⟨b, 0, none⟩))) (h3 : tmps[3]? = some (.pointer (some ⟨b + 1, 0, none⟩))) (hs : St w b v e)
    (hR : R (.returned (.tuple #[v, .int .i64 e])) w) : Leaves Tryd.prog Tryd.f16 tmps R [] .returning w :=
  ⟨_, res_toks tmps w b v e h2 h3 hs, hR⟩
def door (b : Nat) : List Deferred := [{ target := .fn (.func 50) #[.pointer (some ⟨b, 0, none⟩), .pointer (some ⟨b + 1, 0, none⟩)], args := #[] }]
set_option maxHeartbeats 800000 in
theorem leave_idle (tmps : Array Value) (w : World) (b : Nat) (v : Value) (e : Int) (R : Ending → World → Prop) (h2 : tmps[2]? = some (.pointer (some ⟨b, 0, none⟩))) (h3 : tmps[3]? = some (.pointer (some ⟨b + 1, 0, none⟩))) (hs : St w b v e)
    (hR : ∀ w', Below w.heap.size w w' → R (.returned (.tuple #[v, .int .i64 e])) w') : Leaves Tryd.prog Tryd.f16 tmps R (door b) .returning w := by
  unfold door
  refine leaves_cons (f := 50) (args := #[.pointer (some ⟨b, 0, none⟩), .pointer (some ⟨b + 1, 0, none⟩)]) (by simp) (by simp [go_sem]) ?_
  refine (catch_idle b w).mono ?_
  rintro r u' w' ⟨rfl, rfl, hb⟩
  exact leave_none tmps w' b v e R h2 h3 (hs.keep hb) (hR w' hb)
set_option maxHeartbeats 800000 in
theorem leave_panic (tmps : Array Value) (w : World) (b : Nat) (v : Value) (e0 n : Int) (R : Ending → World → Prop) (h2 : tmps[2]? = some (.pointer (some ⟨b, 0, none⟩))) (h3 : tmps[3]? = some (.pointer (some ⟨b + 1, 0, none⟩))) (hs : St w b v e0)
    (hR : ∀ w', Below b w w' → R (.returned (.tuple #[.slice none 0 0, .int .i64 n])) w') : Leaves Tryd.prog Tryd.f16 tmps R (door b) (.panicking [{ v := .iface 24 (.int .i64 n), recovered := false }]) w := by
  unfold door
  refine leaves_cons (f := 50) (args := #[.pointer (some ⟨b, 0, none⟩), .pointer (some ⟨b + 1, 0, none⟩)]) (by simp) (by simp [go_sem]) ?_
  refine (catch_panicking b v e0 n [] w hs).mono ?_
  rintro r u' w' ⟨rfl, rfl, hb, g0⟩
  exact leave_none tmps w' b _ n R h2 h3 g0 (hR w' hb)

theorem OwnT.low {w : World} {b b' : Nat} {v : Value} {L : List Tk} (h : OwnT w b v L) (hb : b' ≤ b) : OwnT w b' v L := by
  obtain ⟨cs, hc, ho⟩ := h
  refine ⟨cs, ?_, ho.1, ?_⟩
  · have key : ∀ (L : List Tk) (cs : List Value), TkCells w b cs L → TkCells w b' cs L := by
      intro L
      induction L with
      | nil => intro cs h; exact h
      | cons t r ih =>
        intro cs h
        obtain ⟨va, rest, e, ha, hr⟩ := h
        exact ⟨va, rest, e, ha.low hb, ih rest hr⟩
    exact key L cs hc
  · rcases ho.2 with h0 | ⟨g, cap, cur, e, hb0, h1⟩
    · exact .inl h0
    · exact .inr ⟨g, cap, cur, e, Nat.le_trans hb hb0, h1⟩
/-- what Tokens answers -/
def RTk (w : World) (r : List Tk × Int) (e : Ending) (w' : World) : Prop := ∃ V, e = .returned (.tuple #[V, .int .i64 r.2]) ∧ OwnT w' w.heap.size V r.1 ∧ Below w.heap.size w w'

theorem tagE_len {l : List UInt8} {L : List Tk} {q : Bool × List Tk × List UInt8} (hL : L.length ≤ 4096) (h : tagE l L = some q) : q.2.1.length ≤ 4096 := by
  unfold tagE at h
  split at h
  · injection h with h; rw [← h]; exact hL
  · obtain ⟨x, hx, rfl⟩ := Option.map_eq_some_iff.1 h
    exact tellS_len hL hx
theorem rawS_len {k : Int} {nm l : List UInt8} {L : List Tk} {q : Bool × List Tk × List UInt8} (hL : L.length ≤ 4096) (h : rawS k nm l L = some q) : q.2.1.length ≤ 4096 := by
  unfold rawS at h
  split at h
  · obtain ⟨x, hx, rfl⟩ := Option.map_eq_some_iff.1 h
    exact toldS_len hL hx
  · obtain ⟨x, hx, h⟩ := Option.bind_eq_some_iff.1 h
    exact tagE_len (toldS_len hL hx) h
theorem tagS_len {l : List UInt8} {L : List Tk} {q : Bool × List Tk × List UInt8} (hL : L.length ≤ 4096) (h : tagS l L = some q) : q.2.1.length ≤ 4096 := by
  unfold tagS at h
  split at h
  · injection h with h; rw [← h]; exact hL
  · obtain ⟨x, hx, h⟩ := Option.bind_eq_some_iff.1 h
    split at h
    · injection h with h; rw [← h]; exact tellS_len hL hx
    · exact rawS_len (tellS_len hL hx) h
theorem bangS_len {l : List UInt8} {L : List Tk} {q : List Tk × List UInt8} (hL : L.length ≤ 4096) (h : bangS l L = some q) : q.1.length ≤ 4096 := by
  unfold bangS at h
  split at h
  · split at h
    · obtain ⟨x, hx, rfl⟩ := Option.map_eq_some_iff.1 h
      exact tellS_len hL hx
    · obtain ⟨x, hx, rfl⟩ := Option.map_eq_some_iff.1 h
      exact tellS_len hL hx
  · injection h with h; rw [← h]; exact hL
theorem markS_len {l : List UInt8} {L : List Tk} {q : Bool × List Tk × List UInt8} (hL : L.length ≤ 4096) (h : markS l L = some q) : q.2.1.length ≤ 4096 := by
  match l with
  | [] => injection h with h; rw [← h]; exact hL
  | [_] => injection h with h; rw [← h]; exact hL
  | x0 :: c :: t =>
    rw [markS_cons] at h
    split at h
    · exact tagS_len hL h
    · split at h
      · obtain ⟨x, hx, rfl⟩ := Option.map_eq_some_iff.1 h
        exact bangS_len hL hx
      · split at h
        · injection h with h; rw [← h]; exact hL
        · match t with
          | [] => injection h with h; rw [← h]; exact hL
          | d :: t' =>
            simp only at h
            split at h
            · exact tagE_len hL h
            · split at h <;> (injection h with h; rw [← h]; exact hL)
theorem scan_pass (c : UInt8) (r : List UInt8) (h : c = 60 → opensB r = false) : scanN (c :: r) = scanN r + 1 := by
  rw [scanN, if_neg]
  rintro ⟨h1, h2⟩
  rw [h h1] at h2
  cases h2
theorem scan_stop (r : List UInt8) (h : opensB r = true) : scanN (60 :: r) = 0 := by rw [scanN, if_pos ⟨rfl, h⟩]

set_option maxRecDepth 100000 in
set_option maxHeartbeats 1600000 in
theorem tokens_long (s : ByteArray) (w : World) (hs : s.size ≤ 1099511627776) (hl : ¬ s.size ≤ 65536) :
    Calls Tryd.prog 16 #[.string s] w (RTk w (toks s.data.toList)) := by
  have HP : Hid (toks s.data.toList = ([], 5)) := hid (by unfold toks; rw [if_neg (by rw [len_data]; exact hl)])
  rw [HP.out]
  have hl2 : (65536 : Int) < s.size := by omega
  go_enter_defers Tryd.func16, Tryd.ntmps16
  go_wp2
  have hs2 : St ((w.alloc (.cells #[.slice none 0 0] 22)).alloc (.cells #[.int .i64 5] 24)) w.heap.size (.slice none 0 0) 5 :=
    ⟨(Blk.new w _ _).alloc _, by have := Blk.new (w.alloc (.cells #[.slice none 0 0] 22)) 24 #[.int .i64 5]; simpa using this⟩
  refine leave_none _ _ w.heap.size _ 5 _ (by simp) (by simp) hs2 ?_
  exact ⟨_, rfl, OwnT.nil _ _, ((Below.refl _ _).alloc (Nat.le_refl _) _).alloc (by simp) _⟩

theorem OwnT.far {w w' : World} {base : Nat} {V : Value} {L : List Tk} (h : OwnT w base V L) (hk : ∀ g, base ≤ g → g < w.heap.size → w'.heap[g]? = w.heap[g]?) : OwnT w' base V L := by
  obtain ⟨xs, hx, ho⟩ := h
  exact ⟨xs, TkCells.map (fun v l hv => own_stay hv fun g cur hg hc => hk g (World.ownsRow.lt hv g hg).1 (World.ownsRow.lt hv g hg).2) L xs hx, own_stay ho fun g cur hg hc => hk g (World.ownsRow.lt ho g hg).1 (World.ownsRow.lt ho g hg).2⟩
theorem St.fr {w w' : World} {b R : Nat} {a row : Option Nat} {v : Value} {e : Int} (h : St w b v e) (f : Fr R a row w w') (hR : b + 1 < R) (ha : ∀ g, a = some g → R ≤ g) : St w' b v e :=
  ⟨(f.block b h.1.lt (by omega) (fun e => by have := ha b e.symm; omega)).trans h.1, (f.block (b + 1) h.2.lt (by omega) (fun e => by have := ha (b + 1) e.symm; omega)).trans h.2⟩
theorem below_fr {w W w' : World} {b R : Nat} {a row : Option Nat} (h : Below b w W) (f : Fr R a row W w') (hb : b ≤ w.heap.size) (hR : b ≤ R) (ha : ∀ g, a = some g → R ≤ g) : Below b w w' :=
  ⟨f.os.trans h.os, f.tape.trans h.tape, f.output.trans h.output, Nat.le_trans h.size f.size, fun k hk => (f.block k (by have := h.size; omega) (by omega) (fun e => by have := ha k e.symm; omega)).trans (h.block k hk)⟩
theorem own_ge {w : World} {base R : Nat} {s : ByteArray} {k : Nat} {V : Value} {L : List Tk} (h : Rd w base R s k V L) : ∀ g, V.ownBlock = some g → base ≤ g := fun g e => (h.own g e).1
/-- the end: the tokens are handed back -/
theorem fin_ {w W : World} {b R : Nat} {s : ByteArray} {m : Nat} {V : Value} {L : List Tk} {v : Value} {e : Int} {res : List Tk × Int} (hb : w.heap.size = b) (hR : b + 1 < R) (hRd : Rd W R R s m V L) (hSt : St W b v e) (hbw : Below b w W) (hres : res = (L, 0)) (tmps : Array Value)
    (h2 : tmps[2]? = some (.pointer (some ⟨b, 0, none⟩))) (h3 : tmps[3]? = some (.pointer (some ⟨b + 1, 0, none⟩))) :
    Leaves Tryd.prog Tryd.f16 tmps (RTk w res) (door b) .returning ((W.setCell ⟨b, 0, none⟩ V).setCell ⟨b + 1, 0, none⟩ (.int .i64 0)) := by
  refine leave_idle tmps _ b V 0 _ h2 h3 (hSt.two V 0) fun w' hb' => ?_
  subst hres
  have hW : Below b w ((W.setCell ⟨b, 0, none⟩ V).setCell ⟨b + 1, 0, none⟩ (.int .i64 0)) := below_set (below_set hbw ⟨b, 0, none⟩ V (Nat.le_refl _)) ⟨b + 1, 0, none⟩ _ (Nat.le_succ _)
  have ho : OwnT ((W.setCell ⟨b, 0, none⟩ V).setCell ⟨b + 1, 0, none⟩ (.int .i64 0)) R V L := hRd.2.2.far fun g hg _ => (Below.heap_setCell _ ⟨b + 1, 0, none⟩ _ g (by simp only; omega)).trans (Below.heap_setCell W ⟨b, 0, none⟩ V g (by simp only; omega))
  refine ⟨V, rfl, (ho.far fun g _ hg => hb'.block g hg).low (by omega), ?_⟩
  rw [hb]
  exact hW.trans (hb'.mono (by have := hW.size; omega))
theorem bad_ {w W : World} {b : Nat} {v : Value} {e : Int} {res : List Tk × Int} (hb : w.heap.size = b) (hSt : St W b v e) (hbw : Below b w W) (hres : res = ([], 3)) (tmps : Array Value)
    (h2 : tmps[2]? = some (.pointer (some ⟨b, 0, none⟩))) (h3 : tmps[3]? = some (.pointer (some ⟨b + 1, 0, none⟩))) :
    Leaves Tryd.prog Tryd.f16 tmps (RTk w res) (door b) (.panicking [{ v := .iface 24 (.int .i64 3), recovered := false }]) W := by
  refine leave_panic tmps W b v e 3 _ h2 h3 hSt fun w' hb' => ?_
  subst hres
  exact ⟨_, rfl, OwnT.nil _ _, by rw [hb]; exact hbw.trans hb'⟩

set_option maxRecDepth 100000 in
set_option maxHeartbeats 6400000 in
theorem tokens_short (s : ByteArray) (w : World) (hl : s.size ≤ 65536) (hm : MaxAt w) :
    Calls Tryd.prog 16 #[.string s] w (RTk w (toks s.data.toList)) := by
  obtain ⟨res, hres⟩ : ∃ res, toks s.data.toList = res := ⟨_, rfl⟩
  rw [hres]
  have Hres : Hid (res = match tokT s.data.toList [] with | none => ([], 3) | some L => (L, 0)) := hid (by rw [← hres]; unfold toks; rw [if_pos (by rw [len_data]; exact hl)]; rfl)
  clear hres
  have hl2 : ¬ (65536 : Int) < s.size := by omega
  have hmf : ∀ (fn : Fn) (first cap : Array Value) (w : World), (Instr.makeFunc fn first cap).run Tryd.prog w = .ok (.func fn first cap) w := fun _ _ _ _ => rfl
  have Hm := hid hm
  obtain ⟨b, hb⟩ : ∃ b, w.heap.size = b := ⟨_, rfl⟩
  have hgb : 2 < b := by rw [← hb]; exact hm.lt
  have Hb := hid hb
  clear hm
  have HW0 : Hid (∀ W, W = (((w.alloc (.cells #[.slice none 0 0] 22)).alloc (.cells #[.int .i64 0] 24)).alloc (.cells #[.string s, .int .i64 0, .slice none 0 0] 64)) → St W b (.slice none 0 0) 0 ∧ Rd W (b + 1 + 1) (b + 1 + 1) s 0 (.slice none 0 0) [] ∧ Below b w W) := hid (by
    rintro W rfl
    subst hb
    refine ⟨⟨((Blk.new w _ _).alloc _).alloc _, ?_⟩, ⟨⟨Nat.le_refl _, by simp⟩, ?_, OwnT.nil _ _⟩, ?_⟩
    · have := (Blk.new (w.alloc (.cells #[.slice none 0 0] 22)) 24 #[.int .i64 0]).alloc (.cells #[.string s, .int .i64 0, .slice none 0 0] 64)
      simpa using this
    · have := Blk.new ((w.alloc (.cells #[.slice none 0 0] 22)).alloc (.cells #[.int .i64 0] 24)) 64 #[.string s, .int .i64 0, .slice none 0 0]
      simpa using this
    · exact (((Below.refl _ _).alloc (Nat.le_refl _) _).alloc (by simp) _).alloc (by simp; omega) _)
  go_enter_defers Tryd.func16, Tryd.ntmps16
  go_wp2
  have h0 := HW0.out _ rfl
  obtain ⟨R, hR⟩ : ∃ R, b + 1 + 1 = R := ⟨_, rfl⟩
  obtain ⟨W0, hW0⟩ : ∃ W0, (((w.alloc (.cells #[.slice none 0 0] 22)).alloc (.cells #[.int .i64 0] 24)).alloc (.cells #[.string s, .int .i64 0, .slice none 0 0] 64)) = W0 := ⟨_, rfl⟩
  rw [hR, hW0] at h0
  rw [hR, hW0]
  have H0 := hid h0
  have hbR : b + 1 < R := by omega
  have hR0 : 2 ≠ R := by omega
  have Hbz : Hid (b ≤ w.heap.size) := hid (by rw [Hb.out]; exact Nat.le_refl _)
  clear h0 HW0 hW0 hb hR
  go_loopg [5] s.size (fun g v5 wr => ∃ (k : Nat) (L : List Tk) (V : Value), v5 = .int .i64 (k : Int) ∧ k ≤ s.size ∧ g = s.size - k ∧ L.length ≤ 4096 ∧ Hid (tokT s.data.toList [] = tokT (s.data.toList.drop k) L) ∧ Hid (Rd wr R R s k V L) ∧ Hid (St wr b (.slice none 0 0) 0) ∧ Hid (Below b w wr))
  case atStart => exact ⟨0, [], .slice none 0 0, rfl, Nat.zero_le _, rfl, by simp, hid rfl, hid H0.out.2.1, hid H0.out.1, hid H0.out.2.2⟩
  case round =>
    obtain ⟨k, L, V, rfl, hk, rfl, hL, htok, hRd, hSt, hbw⟩ := hrel
    have HL := hid hL
    clear hL
    by_cases hlt : k < s.size
    · have hki : (k : Int) < (s.size : Int) := by omega
      have hkd : decide ((k : Int) < (s.size : Int)) = true := decide_eq_true hki
      have hk0 : (0 : Int) ≤ (k : Int) := by omega
      go_upto_block 2 with fail
      go_cut [] from 21 to 52 (fun wx => ∃ m : Nat, k ≤ m ∧ m ≤ s.size ∧ Hid (scanN (s.data.toList.drop k) = m - k) ∧ Hid (m < s.size → opensB (s.data.toList.drop (m + 1)) = true) ∧ Hid (Rd wx R R s m V L) ∧ Hid (Fr R none none wr wx))
      case first =>
        go_wp2_with fail
        go_loopg [] (s.size - k) (fun g wr2 => ∃ m : Nat, k ≤ m ∧ m ≤ s.size ∧ g = s.size - m ∧ Hid (scanN (s.data.toList.drop k) = (m - k) + scanN (s.data.toList.drop m)) ∧ Hid (Rd wr2 R R s m V L) ∧ Hid (Fr R none none wr wr2))
        case atStart => exact ⟨k, Nat.le_refl _, hk, rfl, hid (by simp), hRd, hid (Fr.refl _ _ _)⟩
        case round =>
          obtain ⟨m, hkm, hms, rfl, hsc, hRd2, hF⟩ := hrel
          have c1 := hRd2.out.c1
          have f1 := hRd2.out.fz 1
          by_cases hlm : m < s.size
          · obtain ⟨n, hn, hn0, hn1, hbn⟩ := byteOf s m hlm
            have Hdm := hid (dropAt s m hlm)
            rw [← hbn] at Hdm
            have hmi0 : (0 : Int) ≤ (m : Int) := by omega
            have hmi1 : (m : Int) < (s.size : Int) := by omega
            have hmi2 : decide ((m : Int) < (s.size : Int)) = true := decide_eq_true hmi1
            have hmi3 : decide (m < s.size) = true := decide_eq_true hlm
            clear hbn
            by_cases h60 : n = 60
            · subst h60
              have Hd60 : Hid (s.data.toList.drop m = 60 :: s.data.toList.drop (m + 1)) := hid (Hdm.out.trans (by rw [show bOf 60 = (60 : UInt8) from by decide]))
              have Hop := hid (opens_any R R s m V L m wr hl hlm hRd2.out)
              obtain ⟨bo, hbo⟩ : ∃ bo, opensB (s.data.toList.drop (m + 1)) = bo := ⟨_, rfl⟩
              rw [hbo] at Hop
              have Hbo := hid hbo
              clear hbo
              cases bo with
              | true =>
                go_wp2_with (go_at_call 51; refine (Hop.out).mono ?_; rintro e w1 ⟨rfl, hw⟩; obtain rfl := hw)
                go_meet
                case rel => exact ⟨m, hkm, hms, hid (by rw [hsc.out, Hd60.out, scan_stop _ Hbo.out, Nat.add_zero]), hid (fun _ => Hbo.out), hRd2, hF⟩
              | false =>
                go_wp2_with (go_at_call 51; refine (Hop.out).mono ?_; rintro e w1 ⟨rfl, hw⟩; obtain rfl := hw)
                go_roundg (s.size - (m + 1))
                case measure => omega
                case rel => exact ⟨m + 1, by omega, by omega, rfl, hid (by rw [hsc.out, Hd60.out, scan_pass 60 _ (fun _ => Hbo.out)]; omega), hid (hRd2.out.atI (m + 1) (by omega)), hid (hF.out.trans (Fr.setR 1 _))⟩
            · have h60b : (n == 60) = false := beq_eq_false_iff_ne.2 h60
              have h60c : (n != 60) = true := by rw [bne, h60b]; rfl
              go_wp2_with fail
              go_roundg (s.size - (m + 1))
              case measure => omega
              case rel => exact ⟨m + 1, by omega, by omega, rfl, hid (by rw [hsc.out, Hdm.out, scan_pass _ _ (fun e => (bOf_no n hn0 hn1 60 60 rfl h60 e).elim)]; omega), hid (hRd2.out.atI (m + 1) (by omega)), hid (hF.out.trans (Fr.setR 1 _))⟩
          · obtain rfl : m = s.size := by omega
            go_wp2_with fail
            go_meet
            case rel => exact ⟨s.size, hkm, hms, hid (by rw [hsc.out, List.drop_of_length_le (by rw [len_data]; exact Nat.le_refl _)]; rfl), hid (fun h => absurd h (by omega)), hRd2, hF⟩
      case rest =>
        obtain ⟨m, hkm, hms, hsc, hop, hRd2, hF⟩ := hcut
        have c1 := hRd2.out.c1
        have hkm1 : (k : Int) ≤ (m : Int) := by omega
        have hms1 : (m : Int) ≤ (s.size : Int) := by omega
        have HSt2 := hid (hSt.out.fr hF.out hbR (fun g e => by cases e))
        have Hbw2 := hid (below_fr hbw.out hF.out Hbz.out (by omega) (fun g e => by cases e))
        have Hdm : Hid ((s.data.toList.drop k).drop (scanN (s.data.toList.drop k)) = s.data.toList.drop m) := hid (by rw [hsc.out, List.drop_drop]; congr 1; omega)
        obtain ⟨o, ho⟩ : ∃ o, toldS ((s.data.toList.drop k).take (m - k)) true L = o := ⟨_, rfl⟩
        have Ho : Hid (toldS ((s.data.toList.drop k).take (scanN (s.data.toList.drop k))) true L = o) := hid (by rw [hsc.out]; exact ho)
        have Hto := hid (told_any R R s m V L (s.extract k m) true wc (by rw [ByteArray.size_extract]; omega) HL.out hRd2.out)
        rw [data_extract, List.drop_take, ho] at Hto
        have Hlen := hid (fun L' (e : o = some L') => toldS_len (x := (s.data.toList.drop k).take (m - k)) (d := true) HL.out (ho.trans e))
        have HVg := hid (own_ge hRd2.out)
        clear ho
        go_wp2_with fail
        refine Hto.out.mono ?_
        intro e w1 hRT
        cases o with
        | none =>
          obtain ⟨rfl, row, hfr⟩ := hRT
          go_wp2
          refine bad_ Hb.out (HSt2.out.fr hfr hbR HVg.out) (below_fr Hbw2.out hfr Hbz.out (by omega) HVg.out) ?_ _ (by simp) (by simp)
          rw [Hres.out, htok.out, tokT_none _ _ (fun e => by have := congrArg List.length e; rw [List.length_drop, len_data] at this; simp at this; omega) Ho.out]
        | some L1 =>
          obtain ⟨rfl, V1, h3, h4⟩ := hRT
          obtain ⟨A1, cc1, hV1⟩ := h3.shape (n := L1.length) rfl
          subst hV1
          have H3 := hid h3
          have HSt3 := hid (HSt2.out.fr h4 hbR HVg.out)
          have Hbw3 := hid (below_fr Hbw2.out h4 Hbz.out (by omega) HVg.out)
          have HV1 := hid (own_ge h3)
          have d1 := h3.c1
          have d2 := h3.c2
          have s0 := HSt3.out.c0
          have s1 := HSt3.out.c1
          have g0 : w1.frozen? ⟨b, 0, none⟩ = false := HSt3.out.1.frozen 0
          have g1 : w1.frozen? ⟨b + 1, 0, none⟩ = false := HSt3.out.2.frozen 0
          clear h3 h4
          by_cases hmz : m = s.size
          · have hmei : ((m : Int) == (s.size : Int)) = true := by rw [beq_iff_eq]; omega
            have hme : (m == s.size) = true := by rw [beq_iff_eq]; exact hmz
            clear hmz
            go_wp2
            refine fin_ Hb.out hbR H3.out HSt3.out Hbw3.out ?_ _ (by simp) (by simp)
            rw [Hres.out, htok.out, tokT_end _ _ L1 Ho.out (by rw [Hdm.out]; exact List.drop_of_length_le (by rw [len_data]; have := beq_iff_eq.1 hme; omega))]
          · have hlm : m < s.size := by omega
            have hme : (m == s.size) = false := beq_eq_false_iff_ne.2 hmz
            have hmei : ((m : Int) == (s.size : Int)) = false := beq_eq_false_iff_ne.2 (by omega)
            have Hmk := hid (markup_any R R s m _ L1 w1 hl hlm (Hlen.out L1 rfl) H3.out (Hm.out.keep (by rw [Hb.out]; exact Hbw3.out)) hR0 (hop.out hlm))
            obtain ⟨o2, ho2⟩ : ∃ o2, markS (s.data.toList.drop m) L1 = o2 := ⟨_, rfl⟩
            rw [ho2] at Hmk
            have Ho2 := hid ho2
            have hdne : s.data.toList.drop m ≠ [] := fun e => by have := congrArg List.length e; rw [List.length_drop, len_data] at this; simp at this; omega
            have Htk : Hid (tokT s.data.toList [] = goOn o2) := hid (by rw [htok.out, tokT_mark' _ _ L1 Ho.out (by rw [Hdm.out]; exact hdne), Hdm.out, ho2])
            have Hlen2 := hid (fun q (e : o2 = some q) => markS_len (Hlen.out L1 rfl) (ho2.trans e))
            have Hlt2 := hid (fun q (e : o2 = some q) => markS_lt _ _ q hdne (ho2.trans e))
            clear ho2 hdne
            go_wp2_with fail
            refine Hmk.out.mono ?_
            intro e w2 hRB
            cases o2 with
            | none =>
              obtain ⟨rfl, row, hfr⟩ := hRB
              go_wp2
              refine bad_ Hb.out (HSt3.out.fr hfr hbR HV1.out) (below_fr Hbw3.out hfr Hbz.out (by omega) HV1.out) ?_ _ (by simp) (by simp)
              rw [Hres.out, Htk.out]
              rfl
            | some q =>
              obtain ⟨b2, L2, r⟩ := q
              obtain ⟨rfl, V2, k2, hk2, hr2, h5, h6⟩ := hRB
              obtain ⟨A2, cc2, hV2⟩ := h5.shape (n := L2.length) rfl
              subst hV2
              have H5 := hid h5
              have HSt4 := hid (HSt3.out.fr h6 hbR HV1.out)
              have Hbw4 := hid (below_fr Hbw3.out h6 Hbz.out (by omega) HV1.out)
              have d1 := h5.c1
              have d2 := h5.c2
              have s0 := HSt4.out.c0
              have s1 := HSt4.out.c1
              have g0 : w2.frozen? ⟨b, 0, none⟩ = false := HSt4.out.1.frozen 0
              have g1 : w2.frozen? ⟨b + 1, 0, none⟩ = false := HSt4.out.2.frozen 0
              have Hr2 := hid hr2
              clear h5 h6 hr2
              cases b2 with
              | false =>
                go_wp2
                refine fin_ Hb.out hbR H5.out HSt4.out Hbw4.out ?_ _ (by simp) (by simp)
                rw [Hres.out, Htk.out]
                rfl
              | true =>
                have Hr3 := hid (Hr2.out rfl)
                have hlt3 := Hlt2.out _ rfl
                simp only at hlt3
                rw [← Hr3.out, List.length_drop, List.length_drop, len_data] at hlt3
                go_wp2
                go_roundg (s.size - k2)
                case measure => omega
                case rel => exact ⟨k2, L2, _, rfl, hk2, rfl, Hlen2.out _ rfl, hid (by rw [Htk.out, Hr3.out]; rfl), H5, HSt4, Hbw4⟩
    · obtain rfl : k = s.size := by omega
      obtain ⟨A2, cc2, hV2⟩ := hRd.out.shape (n := L.length) rfl
      subst hV2
      have d2 := hRd.out.c2
      have s0 := hSt.out.c0
      have s1 := hSt.out.c1
      have g0 : wr.frozen? ⟨b, 0, none⟩ = false := hSt.out.1.frozen 0
      have g1 : wr.frozen? ⟨b + 1, 0, none⟩ = false := hSt.out.2.frozen 0
      go_wp2
      refine fin_ Hb.out hbR hRd.out hSt.out hbw.out ?_ _ (by simp) (by simp)
      rw [Hres.out, htok.out, List.drop_of_length_le (by rw [len_data]; exact Nat.le_refl _), tokT_nil]
theorem tokens_any (s : ByteArray) (w : World) (hs : s.size ≤ 1099511627776) (hm : MaxAt w) :
    Calls Tryd.prog 16 #[.string s] w (RTk w (toks s.data.toList)) := by
  by_cases hl : s.size ≤ 65536
  · exact tokens_short s w hl hm
  · exact tokens_long s w hs hl
end Go.Proofs.YtihgmgpcdodknaaDoor
