/- Plain: tokens that are written are read again; texts ahead of them, behind them, turn no tag. No program in sight. -/
import Derived.Test.YtihgmgpcdodknaaDoorTokQ
set_option linter.unusedVariables false
namespace Go.Proofs.YtihgmgpcdodknaaDoor
open Go.RowKit

/-- a small letter, or a digit -/
def wC (c : UInt8) : Bool := (decide (97 ≤ c) && decide (c ≤ 122)) || (decide (48 ≤ c) && decide (c ≤ 57))
def wordL (n more : List UInt8) : Bool := !n.isEmpty && n.all fun c => wC c || more.contains c
def headNoDig : List UInt8 → Bool
  | [] => false
  | c :: _ => !(decide (48 ≤ c) && decide (c ≤ 57))
def chkB (t : Tk) : Bool :=
  if t.k < 3 then wordL t.n [] && headNoDig t.n && decide (t.n.length ≤ 32) && t.x.isEmpty && (t.k == 1 || (!t.c && t.ats.isEmpty)) && t.ats.all fun a => wordL a.1 [45] && repairL a.2 == a.2
  else t.n.isEmpty && t.ats.isEmpty && !t.c && (if t.k = 3 then !t.x.isEmpty && repairL t.x == t.x else t.x.isEmpty || (decide (Lib.index t.x [45, 45, 62] < 0) && t.x.head? != some 45 && t.x.head? != some 62 && t.x.getLast? != some 45))
def chkI (t : Tk) : Int := if t.k < 1 ∨ 4 < t.k then 4 else if chkB t then 0 else 9
def wrA (as : List Att) : List UInt8 := as.flatMap fun a => 32 :: (a.1 ++ 61 :: 34 :: (escL a.2 ++ [34]))
/-- a token, written -/
def wrT (t : Tk) : List UInt8 :=
  if t.k = 1 then 60 :: (t.n ++ (wrA t.ats ++ ((if t.c then [47] else []) ++ [62])))
  else if t.k = 2 then 60 :: 47 :: (t.n ++ [62])
  else if t.k = 3 then escL t.x
  else 60 :: 33 :: 45 :: 45 :: (t.x ++ [45, 45, 62])
def wrBar (t : Tk) (p : Bool) : Bool := (t.k == 3 && p) || (t.k == 1 && decide (1 ≤ elemK t.n) && decide (elemK t.n ≤ 3))
def wrS : List Tk → Bool → List UInt8 → List UInt8 × Int
  | [], _, b => (b, 0)
  | t :: r, p, b => if wrBar t p then ([], 9) else if 65536 < (b ++ wrT t).length then ([], 5) else wrS r (t.k == 3) (b ++ wrT t)
def chkAll : List Tk → Int
  | [] => 0
  | t :: r => if chkI t = 0 then chkAll r else chkI t
def wrL (l : List Tk) : List UInt8 × Int := if chkAll l = 0 then wrS l false [] else ([], chkAll l)

/-! ### Octets of words -/
theorem u8_all (p : UInt8 → Prop) [DecidablePred p] (h : ∀ n : Fin 256, p (UInt8.ofNat n.val)) (c : UInt8) : p c := by
  have := h ⟨c.toNat, c.toNat_lt⟩
  simpa using this
theorem wC_low (c : UInt8) (h : wC c = true) : lowB c = c := u8_all (fun c => wC c = true → lowB c = c) (by decide +kernel) c h
theorem wC_name (c : UInt8) (h : wC c = true) : isBlank c = false ∧ c ≠ 47 ∧ c ≠ 62 ∧ c ≠ 61 := u8_all (fun c => wC c = true → isBlank c = false ∧ c ≠ 47 ∧ c ≠ 62 ∧ c ≠ 61) (by decide +kernel) c h
theorem wC_letter (c : UInt8) (h : wC c = true) (hd : (decide (48 ≤ c) && decide (c ≤ 57)) = false) : isLetter c = true := u8_all (fun c => wC c = true → (decide (48 ≤ c) && decide (c ≤ 57)) = false → isLetter c = true) (by decide +kernel) c h hd
theorem wA_ok (c : UInt8) (h : (wC c || [(45 : UInt8)].contains c) = true) : lowB c = c ∧ isBlank c = false ∧ c ≠ 47 ∧ c ≠ 62 ∧ c ≠ 61 :=
  u8_all (fun c => (wC c || [(45 : UInt8)].contains c) = true → lowB c = c ∧ isBlank c = false ∧ c ≠ 47 ∧ c ≠ 62 ∧ c ≠ 61) (by decide +kernel) c h
theorem letter_no (c : UInt8) (h : isLetter c = true) : c ≠ 47 ∧ c ≠ 33 ∧ c ≠ 63 := u8_all (fun c => isLetter c = true → c ≠ 47 ∧ c ≠ 33 ∧ c ≠ 63) (by decide +kernel) c h
theorem word_low (n : List UInt8) (h : wordL n [] = true) : low n = n ∧ n.all nameC = true := by
  unfold wordL at h
  rw [Bool.and_eq_true, List.all_eq_true] at h
  have hc : ∀ c ∈ n, wC c = true := fun c hm => by have := h.2 c hm; simpa using this
  constructor
  · unfold low
    conv => rhs; rw [← List.map_id n]
    exact List.map_congr_left fun c hm => wC_low c (hc c hm)
  · rw [List.all_eq_true]
    intro c hm
    have := wC_name c (hc c hm)
    unfold nameC
    rw [this.1]
    simp [this.2.1, this.2.2.1]
theorem opens_cons (c : UInt8) (z : List UInt8) (h : c ≠ 47 ∨ z ≠ []) (h2 : (c == 47 || c == 33 || c == 63 || isLetter c) = true) : opensB (c :: z) = true := by
  show (if c = 47 ∧ z = [] then false else c == 47 || c == 33 || c == 63 || isLetter c) = true
  rw [if_neg (by rintro ⟨e1, e2⟩; rcases h with h | h; exact h e1; exact h e2), h2]
theorem word_head (n : List UInt8) (h : wordL n [] = true) (hd : headNoDig n = true) : ∃ a t, n = a :: t ∧ isLetter a = true := by
  cases n with
  | nil => cases hd
  | cons a t =>
    unfold wordL at h
    rw [Bool.and_eq_true, List.all_eq_true] at h
    have hw : wC a = true := by have := h.2 a (by simp); simpa using this
    refine ⟨a, t, rfl, wC_letter a hw ?_⟩
    unfold headNoDig at hd
    exact Bool.not_eq_true' _ ▸ hd

/-! ### Attributes -/
theorem at_name : ∀ (q p y : List UInt8) (as : List Att), (∀ c ∈ q, (wC c || [(45 : UInt8)].contains c) = true) → atT (.nam p) (q ++ 61 :: y) as = atT (.wan (p ++ q)) y as
  | [], p, y, as, _ => by rw [List.nil_append, List.append_nil]; exact atT_go rfl
  | c :: q, p, y, as, h => by
    obtain ⟨h0, h1, h2, h3, h4⟩ := wA_ok c (h c (by simp))
    have hs : atStep (.nam p) (c :: (q ++ 61 :: y)) as = .go (.nam (p ++ [c])) (q ++ 61 :: y) as := by
      simp only [atStep]
      rw [h1, if_neg (by simp), if_neg h4, if_neg (by rintro (e | e); exact h2 e; exact h3 e), h0]
    rw [List.cons_append, atT_go hs, at_name q (p ++ [c]) y as (fun c hc => h c (List.mem_cons_of_mem _ hc))]
    simp
theorem at_first (n y : List UInt8) (as : List Att) (h : wordL n [45] = true) : atT .bef (n ++ 61 :: y) as = atT (.wan n) y as := by
  unfold wordL at h
  rw [Bool.and_eq_true, List.all_eq_true] at h
  cases n with
  | nil => cases h.1
  | cons c q =>
    obtain ⟨h0, h1, h2, h3, h4⟩ := wA_ok c (h.2 c (by simp))
    have hs : atStep .bef (c :: (q ++ 61 :: y)) as = .go (.nam [c]) (q ++ 61 :: y) as := by
      simp only [atStep]
      rw [h1, if_neg (by simp), if_neg h2, if_neg h3, h0]
    rw [List.cons_append, atT_go hs, at_name q [c] y as (fun c hc => h.2 c (List.mem_cons_of_mem _ hc))]
    rfl
theorem escA_no (l : List UInt8) (d : UInt8) (hd : d = 60 ∨ d = 62 ∨ d = 34 ∨ d = 39) : d ∉ escL l := by
  intro h
  unfold escL escA at h
  obtain ⟨c, _, hc⟩ := List.mem_flatMap.1 h
  have := escB_clean c d hc
  rcases hd with rfl | rfl | rfl | rfl
  · exact this.1 rfl
  · exact this.2.1 rfl
  · exact this.2.2.1 rfl
  · exact this.2.2.2 rfl
theorem at_value (n e y : List UInt8) (as : List Att) (h : (34 : UInt8) ∉ e) : atT (.wan n) (34 :: (e ++ 34 :: y)) as = atT .bef y (as ++ [(n, decL e)]) := by
  refine atT_go ?_
  simp only [atStep]
  rw [if_neg (by decide), if_neg (by decide), if_pos (by decide), idx_skip e _ 34 h, if_neg (by omega), Int.toNat_natCast, List.take_left, ← List.drop_drop, List.drop_left]
  rfl
theorem at_attrs : ∀ (l : List Att) (as : List Att) (y : List UInt8), (l.all fun a => wordL a.1 [45] && repairL a.2 == a.2) = true → atT .bef (wrA l ++ y) as = atT .bef y (as ++ l)
  | [], as, y, _ => by simp [wrA]
  | a :: l, as, y, h => by
    rw [List.all_cons, Bool.and_eq_true, Bool.and_eq_true] at h
    have he : wrA (a :: l) ++ y = 32 :: (a.1 ++ 61 :: 34 :: (escL a.2 ++ 34 :: (wrA l ++ y))) := by simp [wrA]
    have hb : atStep .bef (32 :: (a.1 ++ 61 :: 34 :: (escL a.2 ++ 34 :: (wrA l ++ y)))) as = .go .bef (a.1 ++ 61 :: 34 :: (escL a.2 ++ 34 :: (wrA l ++ y))) as := rfl
    rw [he, atT_go hb, at_first _ _ _ h.1.1, at_value _ _ _ _ (escA_no _ 34 (.inr (.inr (.inl rfl)))), dec_esc, eq_of_beq h.1.2, at_attrs l _ y h.2]
    simp

/-! ### A token that is no text, read -/
theorem index_end : ∀ (x r : List UInt8), Lib.index x [45, 45, 62] < 0 → Lib.index (x ++ ([45, 45, 62] ++ r)) [45, 45, 62] = (x.length : Int)
  | [], r, _ => by
    show Lib.index (45 :: 45 :: 62 :: r) [45, 45, 62] = 0
    unfold Lib.index
    rw [if_pos (by simp [List.isPrefixOf])]
  | b :: x, r, h => by
    unfold Lib.index at h
    have hp : ([45, 45, 62] : List UInt8).isPrefixOf (b :: x) = false := by
      cases e : ([45, 45, 62] : List UInt8).isPrefixOf (b :: x) with
      | false => rfl
      | true => rw [e, if_pos rfl] at h; omega
    rw [hp, if_neg (by simp)] at h
    have hx : Lib.index x [45, 45, 62] < 0 := by
      by_cases e : (Lib.index x [45, 45, 62] == -1) = true
      · rw [beq_iff_eq.1 e]; decide
      · rw [if_neg e] at h; omega
    have hq : ([45, 45, 62] : List UInt8).isPrefixOf (b :: (x ++ ([45, 45, 62] ++ r))) = false := by
      match x, hp with
      | [], _ => simp [List.isPrefixOf]
      | [c], _ => simp [List.isPrefixOf]
      | c :: d :: y, hp => simpa [List.isPrefixOf] using hp
    rw [List.cons_append]
    unfold Lib.index
    rw [hq, if_neg (by simp), index_end x r hx]
    have : ((x.length : Int) == -1) = false := by rw [beq_eq_false_iff_ne]; omega
    rw [this, if_neg (by simp), List.length_cons]
    push_cast; rfl
theorem bang_com (x r : List UInt8) (L : List Tk) (hx : x = [] ∨ Lib.index x [45, 45, 62] < 0) : bangS (45 :: 45 :: (x ++ ([45, 45, 62] ++ r))) L = (tellS ⟨4, [], x, [], false⟩ L).map (·, r) := by
  have hi : Lib.index (x ++ ([45, 45, 62] ++ r)) [45, 45, 62] = (x.length : Int) := by
    rcases hx with rfl | hx
    · exact index_end [] r (by decide)
    · exact index_end x r hx
  unfold bangS
  rw [if_pos (by simp [List.isPrefixOf]), show (45 :: 45 :: (x ++ ([45, 45, 62] ++ r)) : List UInt8).drop 2 = x ++ ([45, 45, 62] ++ r) from rfl, hi, if_neg (by omega), Int.toNat_natCast, List.take_left]
  rw [← List.drop_drop, List.drop_left]
  rfl
theorem tk_eta (t : Tk) {k : Int} {n x : List UInt8} {ats : List Att} {c : Bool} (h1 : t.k = k) (h2 : t.n = n) (h3 : t.x = x) (h4 : t.ats = ats) (h5 : t.c = c) : (⟨k, n, x, ats, c⟩ : Tk) = t := by
  cases t; simp_all
theorem nil_of_isEmpty {α : Type} {l : List α} (h : l.isEmpty = true) : l = [] := by simpa using h
theorem names_stop2 (nm y : List UInt8) (h : nm.all nameC = true) (hy : ∃ c z, y = c :: z ∧ nameC c = false) : (nm ++ y).takeWhile nameC = nm ∧ (nm ++ y).dropWhile nameC = y := by
  obtain ⟨c, z, rfl, hc⟩ := hy
  exact names_stop nm z c h hc
theorem tag_end' (nm r : List UInt8) (L : List Tk) (h : nm.all nameC = true) : tagE (nm ++ 62 :: r) L = (tellS ⟨2, low nm, [], [], false⟩ L).map (true, ·, r) := by
  have hc := names_stop nm r 62 h rfl
  unfold tagE
  rw [hc.1, hc.2, at_end]
theorem mark_one (t : Tk) (r : List UInt8) (L : List Tk) (h1 : t.k = 1) (hc : chkB t = true) (hr : wrBar t false = false) :
    ∃ c y, wrT t = 60 :: c :: y ∧ (∀ z, opensB (c :: (y ++ z)) = true) ∧ markS (wrT t ++ r) L = (tellS t L).map (true, ·, r) := by
  unfold chkB at hc
  rw [if_pos (by rw [h1]; decide)] at hc
  simp only [Bool.and_eq_true] at hc
  obtain ⟨⟨⟨⟨⟨hw, hd⟩, _⟩, hx⟩, _⟩, has⟩ := hc
  obtain ⟨a, u, hn, ha⟩ := word_head t.n hw hd
  have hwl := word_low t.n hw
  have hel : elemK t.n < 1 ∨ 3 < elemK t.n := by
    unfold wrBar at hr
    rw [h1] at hr
    simp only [beq_self_eq_true, Bool.true_and, Bool.and_false, Bool.false_or, Bool.and_eq_false_iff, decide_eq_false_iff_not] at hr
    omega
  have hwr : wrT t = 60 :: a :: (u ++ (wrA t.ats ++ ((if t.c then [47] else []) ++ [62]))) := by
    unfold wrT
    rw [if_pos h1, hn]; rfl
  have hlet : ∀ z, opensB (a :: ((u ++ (wrA t.ats ++ ((if t.c then [47] else []) ++ [62]))) ++ z)) = true := by
    intro z
    exact opens_cons a _ (.inl (letter_no a ha).1) (by rw [ha]; simp)
  refine ⟨a, _, hwr, hlet, ?_⟩
  rw [hwr, List.cons_append, List.cons_append, markS_cons, if_pos ha]
  have hshape : a :: ((u ++ (wrA t.ats ++ ((if t.c then [47] else []) ++ [62]))) ++ r) = t.n ++ (wrA t.ats ++ ((if t.c then [47] else []) ++ 62 :: r)) := by rw [hn]; simp
  rw [hshape]
  have hst : ∃ c z, wrA t.ats ++ ((if t.c then [47] else []) ++ 62 :: r) = c :: z ∧ nameC c = false := by
    cases t.ats with
    | nil =>
      cases t.c with
      | true => exact ⟨47, _, rfl, rfl⟩
      | false => exact ⟨62, _, rfl, rfl⟩
    | cons b m => exact ⟨32, _, rfl, rfl⟩
  have hns := names_stop2 t.n _ hwl.2 hst
  have hat : atT .bef (wrA t.ats ++ ((if t.c then [47] else []) ++ 62 :: r)) [] = some (t.ats, t.c, r) := by
    rw [at_attrs t.ats [] _ has, List.nil_append]
    cases hcl : t.c with
    | true =>
      have h47 : atStep .bef (47 :: 62 :: r) t.ats = .go .sla (62 :: r) t.ats := rfl
      show atT .bef (47 :: 62 :: r) t.ats = _
      rw [atT_go h47]
      exact atT_done rfl
    | false => exact atT_done rfl
  unfold tagS
  rw [hns.1, hns.2, hat]
  simp only [hwl.1, if_pos hel]
  rw [tk_eta t h1 rfl (nil_of_isEmpty hx) rfl rfl]
  cases tellS t L <;> rfl
theorem mark_two (t : Tk) (r : List UInt8) (L : List Tk) (h1 : t.k = 2) (hc : chkB t = true) :
    ∃ c y, wrT t = 60 :: c :: y ∧ (∀ z, opensB (c :: (y ++ z)) = true) ∧ markS (wrT t ++ r) L = (tellS t L).map (true, ·, r) := by
  unfold chkB at hc
  rw [if_pos (by rw [h1]; decide)] at hc
  simp only [Bool.and_eq_true] at hc
  obtain ⟨⟨⟨⟨⟨hw, hd⟩, _⟩, hx⟩, hk⟩, has⟩ := hc
  rw [h1] at hk
  simp only [show ((2 : Int) == 1) = false from rfl, Bool.false_or, Bool.and_eq_true] at hk
  obtain ⟨a, u, hn, ha⟩ := word_head t.n hw hd
  have hwl := word_low t.n hw
  have hwr : wrT t = 60 :: 47 :: (t.n ++ [62]) := by
    unfold wrT
    rw [if_neg (by rw [h1]; decide), if_pos h1]
  have hop : ∀ z, opensB (47 :: ((t.n ++ [62]) ++ z)) = true := by
    intro z
    exact opens_cons 47 _ (.inr (by simp)) rfl
  refine ⟨47, _, hwr, hop, ?_⟩
  have hsh : wrT t ++ r = 60 :: 47 :: a :: (u ++ 62 :: r) := by rw [hwr, hn]; simp
  have hte := tag_end' t.n r L hwl.2
  rw [hn, List.cons_append, ← hn] at hte
  rw [hsh, markS_cons, if_neg (by decide), if_neg (by decide), if_neg (by decide)]
  simp only [ha, if_true]
  rw [hte, hwl.1, tk_eta t h1 rfl (nil_of_isEmpty hx) (nil_of_isEmpty hk.2) (by simpa using hk.1)]
theorem mark_four (t : Tk) (r : List UInt8) (L : List Tk) (h1 : t.k = 4) (hc : chkB t = true) :
    ∃ c y, wrT t = 60 :: c :: y ∧ (∀ z, opensB (c :: (y ++ z)) = true) ∧ markS (wrT t ++ r) L = (tellS t L).map (true, ·, r) := by
  unfold chkB at hc
  rw [if_neg (by rw [h1]; decide)] at hc
  simp only [Bool.and_eq_true] at hc
  obtain ⟨⟨⟨hn, has⟩, hcl⟩, hx⟩ := hc
  rw [if_neg (by rw [h1]; decide)] at hx
  have hx' : t.x = [] ∨ Lib.index t.x [45, 45, 62] < 0 := by
    rcases Bool.or_eq_true_iff.1 hx with h | h
    · exact .inl (nil_of_isEmpty h)
    · simp only [Bool.and_eq_true, decide_eq_true_eq] at h
      exact .inr h.1.1.1
  have hwr : wrT t = 60 :: 33 :: 45 :: 45 :: (t.x ++ [45, 45, 62]) := by
    unfold wrT
    rw [if_neg (by rw [h1]; decide), if_neg (by rw [h1]; decide), if_neg (by rw [h1]; decide)]
  refine ⟨33, _, hwr, fun z => by simp [opensB], ?_⟩
  have hsh : wrT t ++ r = 60 :: 33 :: 45 :: 45 :: (t.x ++ ([45, 45, 62] ++ r)) := by rw [hwr]; simp
  rw [hsh, markS_cons, if_neg (by decide), if_pos rfl, bang_com _ _ _ hx', tk_eta t h1 (nil_of_isEmpty hn) rfl (nil_of_isEmpty has) (by simpa using hcl)]
  cases tellS t L <;> rfl
theorem mark_tag (t : Tk) (r : List UInt8) (L : List Tk) (h1 : chkI t = 0) (h3 : t.k ≠ 3) (hr : wrBar t false = false) :
    ∃ c y, wrT t = 60 :: c :: y ∧ (∀ z, opensB (c :: (y ++ z)) = true) ∧ markS (wrT t ++ r) L = (tellS t L).map (true, ·, r) := by
  unfold chkI at h1
  split at h1
  · cases h1
  · split at h1
    · rename_i hk hc
      obtain h | h | h : t.k = 1 ∨ t.k = 2 ∨ t.k = 4 := by omega
      · exact mark_one t r L h hc hr
      · exact mark_two t r L h hc
      · exact mark_four t r L h hc
    · cases h1

/-! ### What was written is read again -/
theorem told_nil (d : Bool) (L : List Tk) : toldS [] d L = some L := by
  unfold toldS
  cases d <;> rfl
theorem tok_mark (c : UInt8) (z : List UInt8) (L : List Tk) (ho : opensB (c :: z) = true) : tokT (60 :: c :: z) L = goOn (markS (60 :: c :: z) L) := by
  have hs : scanN (60 :: c :: z) = 0 := by rw [scanN, if_pos ⟨rfl, ho⟩]
  have := tokT_mark' (60 :: c :: z) L L (by rw [hs]; exact told_nil _ _) (by rw [hs]; simp)
  rwa [hs] at this
theorem told_text (t : Tk) (L : List Tk) (h1 : chkI t = 0) (h3 : t.k = 3) : toldS (wrT t) true L = tellS t L ∧ (60 : UInt8) ∉ wrT t ∧ wrT t ≠ [] := by
  have hw : wrT t = escL t.x := by unfold wrT; rw [if_neg (by rw [h3]; decide), if_neg (by rw [h3]; decide), if_pos h3]
  unfold chkI at h1
  rw [if_neg (by omega)] at h1
  by_cases hc : chkB t = true
  · unfold chkB at hc
    rw [if_neg (by omega), if_pos h3] at hc
    simp only [Bool.and_eq_true] at hc
    obtain ⟨⟨⟨hn, has⟩, hcl⟩, hx, hr⟩ := hc
    have hr' : repairL t.x = t.x := eq_of_beq hr
    have hne : t.x ≠ [] := by simpa using hx
    refine ⟨?_, by rw [hw]; exact escA_no _ 60 (.inl rfl), ?_⟩
    · unfold toldS
      rw [hw, if_pos rfl, dec_esc, hr', if_neg hne, tk_eta t h3 (nil_of_isEmpty hn) rfl (nil_of_isEmpty has) (by simpa using hcl)]
    · intro e
      have := dec_esc t.x
      rw [← hw, e, decL_nil, hr'] at this
      exact hne this.symm
  · rw [if_neg hc] at h1; cases h1
def barsOk : List Tk → Bool → Bool
  | [], _ => true
  | t :: r, p => !wrBar t p && barsOk r (t.k == 3)
theorem bar_less (t : Tk) (p : Bool) (h : wrBar t p = false) : wrBar t false = false := by
  unfold wrBar at h ⊢
  rw [Bool.or_eq_false_iff] at h
  rw [h.2]; simp
theorem wr_starts (l : List Tk) (hc : ∀ t ∈ l, chkI t = 0) (hb : barsOk l true = true) : l.flatMap wrT = [] ∨ ∃ c z, l.flatMap wrT = 60 :: c :: z ∧ opensB (c :: z) = true := by
  cases l with
  | nil => exact .inl rfl
  | cons t r =>
    right
    rw [barsOk, Bool.and_eq_true] at hb
    have hw : wrBar t true = false := by simpa using hb.1
    have h3 : t.k ≠ 3 := by
      intro e
      unfold wrBar at hw
      rw [e] at hw
      simp at hw
    obtain ⟨c, y, h1, h2, _⟩ := mark_tag t [] [] (hc t (by simp)) h3 (bar_less t _ hw)
    exact ⟨c, y ++ r.flatMap wrT, by rw [List.flatMap_cons, h1]; rfl, h2 _⟩
theorem tok_one (t : Tk) (W : List UInt8) (p : Bool) (L : List Tk) (hc : chkI t = 0) (hb : wrBar t p = false) (hW : t.k = 3 → W = [] ∨ ∃ c z, W = 60 :: c :: z ∧ opensB (c :: z) = true) :
    tokT (wrT t ++ W) L = (tellS t L).bind fun L' => tokT W L' := by
  by_cases h3 : t.k = 3
  · obtain ⟨ht, hn, hne⟩ := told_text t L hc h3
    rcases hW h3 with rfl | ⟨c, z, rfl, ho⟩
    · rw [List.append_nil, tok_text _ _ hn, ht]
      cases tellS t L <;> rfl
    · have hs : scanN (wrT t ++ 60 :: c :: z) = (wrT t).length := by rw [scan_more _ _ hn, scanN, if_pos ⟨rfl, ho⟩, Nat.add_zero]
      cases e : tellS t L with
      | none => exact tokT_none _ _ (by simp) (by rw [hs, List.take_left, ht, e])
      | some L1 =>
        rw [tokT_mark' _ L L1 (by rw [hs, List.take_left, ht, e]) (by rw [hs, List.drop_left]; simp), hs, List.drop_left]
        exact (tok_mark c z L1 ho).symm
  · obtain ⟨c, y, h1, h2, hm⟩ := mark_tag t W L hc h3 (bar_less t p hb)
    have : wrT t ++ W = 60 :: c :: (y ++ W) := by rw [h1]; rfl
    rw [this, tok_mark c _ L (h2 W), ← this, hm]
    cases tellS t L <;> rfl
theorem read_back : ∀ (l : List Tk) (p : Bool) (L : List Tk), (∀ t ∈ l, chkI t = 0) → barsOk l p = true → L.length ≤ 4096 → tokT (l.flatMap wrT) L = if L.length + l.length ≤ 4096 then some (L ++ l) else none
  | [], p, L, _, _, hL => by rw [if_pos (by simpa using hL), List.append_nil]; exact tokT_nil L
  | t :: r, p, L, hc, hb, hL => by
    rw [barsOk, Bool.and_eq_true] at hb
    have hw : wrBar t p = false := by simpa using hb.1
    rw [List.flatMap_cons, tok_one t _ p L (hc t (by simp)) hw (fun h3 => by
      have := hb.2
      rw [h3] at this
      exact wr_starts r (fun u hu => hc u (List.mem_cons_of_mem _ hu)) this)]
    by_cases hf : L.length = 4096
    · unfold tellS
      rw [if_pos hf, if_neg (by rw [List.length_cons]; omega)]; rfl
    · unfold tellS
      rw [if_neg hf, Option.bind_some, read_back r (t.k == 3) (L ++ [t]) (fun u hu => hc u (List.mem_cons_of_mem _ hu)) hb.2 (by rw [List.length_append, List.length_singleton]; omega)]
      rw [List.length_append, List.length_singleton, List.length_cons, List.append_assoc, List.singleton_append]
      by_cases h : L.length + 1 + r.length ≤ 4096
      · rw [if_pos h, if_pos (by omega)]
      · rw [if_neg h, if_neg (by omega)]
theorem wrS_ok : ∀ (l : List Tk) (p : Bool) (b s : List UInt8), b.length ≤ 65536 → wrS l p b = (s, 0) → barsOk l p = true ∧ s = b ++ l.flatMap wrT ∧ s.length ≤ 65536
  | [], p, b, s, hl, h => by
    cases h
    exact ⟨rfl, by simp, hl⟩
  | t :: r, p, b, s, hl, h => by
    unfold wrS at h
    split at h
    · cases h
    · rename_i hb
      split at h
      · cases h
      · rename_i hlen
        obtain ⟨h1, h2, h3⟩ := wrS_ok r (t.k == 3) (b ++ wrT t) s (by omega) h
        have hb' : wrBar t p = false := by simpa using hb
        refine ⟨by rw [barsOk, hb', h1]; rfl, by rw [h2]; simp, h3⟩
theorem chkAll_ok : ∀ (l : List Tk), chkAll l = 0 → ∀ t ∈ l, chkI t = 0
  | [], _, t, ht => by cases ht
  | u :: r, h, t, ht => by
    unfold chkAll at h
    split at h
    · rename_i h0
      rcases List.mem_cons.1 ht with rfl | ht
      · exact h0
      · exact chkAll_ok r h t ht
    · rename_i h0; exact absurd h h0
theorem wrL_ok (l : List Tk) (s : List UInt8) (h : wrL l = (s, 0)) : (∀ t ∈ l, chkI t = 0) ∧ barsOk l false = true ∧ s = l.flatMap wrT ∧ s.length ≤ 65536 := by
  unfold wrL at h
  split at h
  · rename_i h0
    obtain ⟨h1, h2, h3⟩ := wrS_ok l false [] s (by simp) h
    exact ⟨chkAll_ok l h0, h1, h2, h3⟩
  · rename_i h0
    injection h with _ h
    exact absurd h h0
/-- a fault: no text -/
theorem wrS_bad : ∀ (l : List Tk) (p : Bool) (b : List UInt8), (wrS l p b).2 ≠ 0 → (wrS l p b).1 = []
  | [], p, b, h => absurd rfl h
  | t :: r, p, b, h => by
    unfold wrS at h ⊢
    split
    · rfl
    · rename_i h1
      rw [if_neg h1] at h
      split
      · rfl
      · rename_i h2
        rw [if_neg h2] at h
        exact wrS_bad r _ _ h
theorem wrL_bad (l : List Tk) (h : (wrL l).2 ≠ 0) : (wrL l).1 = [] := by
  unfold wrL at h ⊢
  split
  · rename_i h0
    rw [if_pos h0] at h
    exact wrS_bad l _ _ h
  · rfl
/-- THE LAW TokensBack -/
theorem toks_back (l : List Tk) (s : List UInt8) (h : wrL l = (s, 0)) : toks s = if l.length ≤ 4096 then (l, 0) else ([], 3) := by
  obtain ⟨h1, h2, rfl, h4⟩ := wrL_ok l s h
  unfold toks
  rw [if_pos h4, read_back l false [] h1 h2 (by simp)]
  simp only [List.length_nil, Nat.zero_add, List.nil_append]
  by_cases h : l.length ≤ 4096
  · rw [if_pos h, if_pos h]
  · rw [if_neg h, if_neg h]

/-! ### Texts ahead and behind -/
def noT (t : Tk) : Bool := t.k != 3
theorem told_noT (x : List UInt8) (d : Bool) (L L1 : List Tk) (h : toldS x d L = some L1) : L1.filter noT = L.filter noT := by
  unfold toldS at h
  by_cases h0 : (if d = true then decL x else x) = []
  · rw [if_pos h0] at h; cases h; rfl
  · rw [if_neg h0] at h
    unfold tellS at h
    split at h
    · cases h
    · cases h
      rw [List.filter_append]
      have : ([⟨3, [], if d = true then decL x else x, [], false⟩] : List Tk).filter noT = [] := rfl
      rw [this, List.append_nil]
theorem read_amid : ∀ (l : List Tk) (p q : List UInt8) (L L' : List Tk), (60 : UInt8) ∉ p → (60 : UInt8) ∉ q → (∀ t ∈ l, chkI t = 0) → (∀ t ∈ l, wrBar t false = false) → tokT (p ++ (l.flatMap wrT ++ q)) L = some L' → L'.filter noT = L.filter noT ++ l.filter noT
  | [], p, q, L, L', hp, hq, _, _, h => by
    rw [List.flatMap_nil, List.nil_append, tok_text _ _ (by rw [List.mem_append, not_or]; exact ⟨hp, hq⟩)] at h
    rw [told_noT _ _ _ _ h]
    simp
  | t :: r, p, q, L, L', hp, hq, hc, hb, h => by
    have hc' : ∀ u ∈ r, chkI u = 0 := fun u hu => hc u (List.mem_cons_of_mem _ hu)
    have hb' : ∀ u ∈ r, wrBar u false = false := fun u hu => hb u (List.mem_cons_of_mem _ hu)
    by_cases h3 : t.k = 3
    · have hn := (told_text t L (hc t (by simp)) h3).2.1
      have := read_amid r (p ++ wrT t) q L L' (by rw [List.mem_append, not_or]; exact ⟨hp, hn⟩) hq hc' hb' (by
        rw [← h]; congr 1; simp)
      rw [this, List.filter_cons, if_neg (by unfold noT; rw [h3]; decide)]
    · obtain ⟨c, y, h1, h2, hm⟩ := mark_tag t (r.flatMap wrT ++ q) L (hc t (by simp)) h3 (hb t (by simp))
      have e1 : (t :: r).flatMap wrT ++ q = 60 :: c :: (y ++ (r.flatMap wrT ++ q)) := by rw [List.flatMap_cons, h1]; simp
      have hs : scanN (p ++ 60 :: c :: (y ++ (r.flatMap wrT ++ q))) = p.length := by rw [scan_more _ _ hp, scanN, if_pos ⟨rfl, h2 _⟩, Nat.add_zero]
      rw [e1] at h
      cases e : toldS p true L with
      | none =>
        rw [tokT_none _ _ (by simp) (by rw [hs, List.take_left, e])] at h
        cases h
      | some L1 =>
        obtain ⟨c', y', h1', -, hm'⟩ := mark_tag t (r.flatMap wrT ++ q) L1 (hc t (by simp)) h3 (hb t (by simp))
        have e2 : wrT t ++ (r.flatMap wrT ++ q) = 60 :: c :: (y ++ (r.flatMap wrT ++ q)) := by rw [h1]; rfl
        rw [tokT_mark' _ L L1 (by rw [hs, List.take_left, e]) (by rw [hs, List.drop_left]; simp), hs, List.drop_left, ← e2, hm'] at h
        cases ht : tellS t L1 with
        | none => rw [ht] at h; cases h
        | some L2 =>
          rw [ht] at h
          have h' : tokT (r.flatMap wrT ++ q) L2 = some L' := h
          have ih := read_amid r [] q L2 L' (by simp) hq hc' hb' h'
          have hL2 : L2 = L1 ++ [t] := by
            unfold tellS at ht
            split at ht
            · cases ht
            · cases ht; rfl
          have hk : noT t = true := by unfold noT; simpa using h3
          rw [ih, hL2, List.filter_append, told_noT _ _ _ _ e, List.filter_cons, List.filter_cons, if_pos hk, if_pos hk]
          simp
theorem bars_all : ∀ (l : List Tk) (p : Bool), barsOk l p = true → ∀ t ∈ l, wrBar t false = false
  | [], _, _, t, ht => by cases ht
  | u :: r, p, h, t, ht => by
    rw [barsOk, Bool.and_eq_true] at h
    rcases List.mem_cons.1 ht with rfl | ht
    · exact bar_less t p (by simpa using h.1)
    · exact bars_all r _ h.2 t ht
/-- THE LAW ShapeTexts: the tokens that are no text -/
theorem toks_amid (l : List Tk) (s a b : List UInt8) (h : wrL l = (s, 0)) (L1 L2 : List Tk) (h1 : toks (escL a ++ s ++ escL b) = (L1, 0)) (h2 : toks s = (L2, 0)) : L1.filter noT = L2.filter noT := by
  obtain ⟨hc, hb, rfl, hl⟩ := wrL_ok l s h
  have key : ∀ (x : List UInt8) (M : List Tk), toks x = (M, 0) → tokT x [] = some M := by
    intro x M hx
    unfold toks at hx
    split at hx
    · split at hx
      · injection hx with _ hx; cases hx
      · rename_i h; injection hx with hx _; rw [h, hx]
    · injection hx with _ hx; cases hx
  have k1 := read_amid l (escL a) (escL b) [] L1 (escA_no _ 60 (.inl rfl)) (escA_no _ 60 (.inl rfl)) hc (bars_all l _ hb) (by rw [← List.append_assoc]; exact key _ _ h1)
  have k2 := read_amid l [] [] [] L2 (by simp) (by simp) hc (bars_all l _ hb) (by rw [List.append_nil, List.nil_append]; exact key _ _ h2)
  rw [k1, k2]
end Go.Proofs.YtihgmgpcdodknaaDoor
