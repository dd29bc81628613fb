import Derived.BigFrame
import Derived.Test.YtkcnmjdomipbjaaGreatS32
import Derived.Test.YtkcnmjdomipbjaaGreatS33
set_option linter.unusedVariables false
set_option maxHeartbeats 100000000
set_option maxRecDepth 100000
namespace Go.Proofs.YtkcnmjdomipbjaaGreat
open Go.RowKit
def dfsOk (ds : List Df) : Prop := (∃ d r, ds = d :: r /\ d.nm.toList.isEmpty = true) /\ ∀ d ∈ ds, (∀ t ∈ d.b, t.may) /\ tnsNeed ds d.b
def PChk22 (ds : List Df) (w : World) (e : Ending) (w' : World) : Prop := ∃ p er : Int, e = .returned (.tuple #[.int .i64 p, .int .i64 er]) /\ (er = 0 -> dfsOk ds) /\ Below w.heap.size w w'
theorem check22_any (ds : List Df) (n : Nat) (hn : ds.length = n) (hz : n <= 9223372036854775807) (A : Option Addr) (c : Nat) (w : World) (hok : ∀ d ∈ ds, tnsOk d.b /\ tnsNum d.b <= 1024) (hr : RowsV w (fun _ => True) 2 A 0 (ds.map Df.row)) : Calls Tryz.prog 25 #[.slice A n c] w (PChk22 ds w) := by
 have Hr := hid hr
 have Hn := hid hn
 have Hok := hid hok
 clear hr hn hok
 rcases Nat.eq_zero_or_pos n with h0 | h0
 ·subst h0;go_enter Tryz.func25, Tryz.ntmps25;go_wp2_with fail
  go_ret2;exact ⟨0, 9, rfl, (fun h => absurd h (by decide)), Below.refl _ _⟩
 have h0i : (0 : Int) < (n : Int) := by omega
 have h0e : ((n : Int) == 0) = false := beq_eq_false_iff_ne.2 (by omega)
 obtain ⟨d0, dr, hds⟩ : ∃ d0 dr, ds = d0 :: dr := by
  cases ds with
  | nil => have : (0 : Nat) = n := Hn.out; omega
  | cons d0 dr => exact ⟨d0, dr, rfl⟩
 obtain ⟨ad, rfl, _, hadl, hrow⟩ := RowsV.get Hr.out (k := 0) (by have := Hn.out; omega)
 have hd0 : ds[0]'(by have := Hn.out; omega) = d0 := by simp [hds]
 rw [hd0] at hrow
 have Hds := hid hds
 obtain ⟨nm0, b0⟩ := d0
 have a0 := (Df.at_ hrow rfl).1
 simp only [Nat.zero_mul, addr_zero] at a0
 clear hrow hd0 hds
 obtain ⟨q0, hq0⟩ := xE nm0.toList.isEmpty
 have Hq0 := hid hq0
 go_enter Tryz.func25, Tryz.ntmps25
 cases q0
 ·go_wp2_with fail
  go_ret2;exact ⟨0, 9, rfl, (fun h => absurd h (by decide)), Below.refl _ _⟩
 go_wp2_with fail
 clear a0 hq0
 go_loopw [4] (fun i wr => ∃ j : Nat, j <= n /\ i = .int .i64 (j : Int) /\ (∀ d ∈ ds.take j, ∀ t ∈ d.b, t.may) /\ Below w.heap.size w wr) (fun i _ => n - (intOf i).toNat)
 case atStart => exact ⟨0, Nat.zero_le _, rfl, (fun d h => by simp at h), Below.refl _ _⟩
 obtain ⟨j, hj, rfl, hmay, hb⟩ := hrel
 have Hmay := hid hmay
 have Hb := hid hb
 clear hmay hb
 obtain ⟨W0, rfl⟩ := xS wr
 by_cases hlt : j < n
 ·have hli : (j : Int) < (n : Int) := by omega
  have hj0 : (0 : Int) <= (j : Int) := by omega
  have hjl : j < ds.length := by have := Hn.out; omega
  obtain ⟨ad', hAd, _, _, hrow⟩ := RowsV.get Hr.out hjl;cases hAd;have hsn : ds.take (j + 1) = ds.take j ++ [ds[j]] := (List.take_append_getElem hjl).symm;obtain ⟨d, hd⟩ := xE ds[j];have hdo := Hok.out _ (List.getElem_mem hjl);rw [hd] at hrow hsn hdo;obtain ⟨nm, bb⟩ := d;obtain ⟨nb, hnb⟩ := xE bb.length;obtain ⟨a0, Ab, cb, a1, hrb⟩ := Df.at_ hrow hnb;simp only at a0 hrb hdo;have hbk : (ad.add (j * 2)).block < w.heap.size := by rw [block_of_add]; exact hadl
  replace a0 := (Hb.out.cell (p := ad.add (j * 2)) hbk).trans a0;replace a1 := (Hb.out.cell (p := ⟨(ad.add (j * 2)).block, (ad.add (j * 2)).off + 1, none⟩) hbk).trans a1;have HDp := hid (fun W (h : Below w.heap.size w W) => depth_any 1024 bb nb hnb hdo.2 (by omega) Ab cb W (RowsV.below hrb h));have HMy := hid (fun W (h : Below w.heap.size w W) => may22_any 1024 bb nb hnb hdo.2 (by omega) hdo.1 Ab cb W (RowsV.below hrb h));have Hs := hid hsn;clear hrow hsn hnb hdo hrb hd;obtain ⟨qn, hqn⟩ := xE nm.toList.isEmpty;obtain ⟨dd, hdd⟩ := xE (tnsDep bb);go_upto_region 6 with fail
  go_cut [51] from 18 to 51 (fun cc wx => ∃ b : Bool, cc = .bool b /\ (b = false -> ∀ t ∈ bb, t.may) /\ Below w.heap.size w wx)
  case first => as_aux_lemma =>
   cases qn
   all_goals (
    by_cases hj1 : 0 < j
    all_goals (
     by_cases hd17 : 17 < dd
     all_goals (
      go_wp2_with (first
       | (go_at_call 29; refine (HDp.out _ Hb.out).mono ?_; rintro e w3 ⟨he, m, hw3⟩; rw [hdd] at he; subst he hw3; have hb3 : Below w.heap.size w (W0.drewN m) := below_drewN Hb.out m)
       | (go_at_call 46; refine (HMy.out _ hb3).mono ?_; rintro e w4 ⟨bm, rfl, hm4, hb4⟩; have hb5 := hb3.trans (hb4.mono hb3.size); cases bm))
      all_goals (
       go_meet
       first
        | exact ⟨_, rfl, (fun _ => hm4 (by first | rfl | trivial)), hb5⟩
        | exact ⟨_, rfl, (fun h => by simp at h), hb5⟩
        | exact ⟨_, rfl, (fun h => by simp at h), hb3⟩
        | exact ⟨_, rfl, (fun h => by simp at h), Hb.out⟩))))
  obtain ⟨b, rfl, hm, hb⟩ := hcut;obtain ⟨w2, rfl⟩ := xS wc;clear a0 a1 HDp HMy hqn hdd;cases b
  ·have Hm := hid (hm rfl);have Hb2 := hid hb;clear hm hb;go_wp2_with fail
   go_roundw
   case rel => exact ⟨j + 1, by omega, by go_num, by
    rw [Hs.out];intro q hq;rcases List.mem_append.1 hq with h | h
    ·exact Hmay.out q h
    rw [List.mem_singleton.1 h]; exact Hm.out, Hb2.out⟩
   simp [intOf]; omega
  clear hm;go_wp2_with fail
  go_ret2;exact ⟨0, 9, rfl, (fun h => absurd h (by decide)), hb⟩
 obtain rfl : j = n := by omega
 have HM1 : Hid (∀ d ∈ ds, ∀ t ∈ d.b, t.may) := hid (by have h := Hmay.out; rwa [List.take_of_length_le (by have := Hn.out; omega)] at h)
 clear Hmay hlt hj
 go_wp2_with fail
 go_loopw [5] (fun i wr => ∃ k : Nat, k <= j /\ i = .int .i64 (k : Int) /\ (∀ d ∈ ds.take k, tnsNeed ds d.b) /\ Below w.heap.size w wr) (fun i _ => j - (intOf i).toNat)
 case atStart => exact ⟨0, Nat.zero_le _, rfl, (fun d h => by simp at h), Hb.out⟩
 obtain ⟨k, hk, rfl, hnd, hb⟩ := hrel
 have Hnd := hid hnd
 have Hb2 := hid hb
 clear hnd hb Hb
 obtain ⟨W2, rfl⟩ := xS wr
 by_cases hlt : k < j
 ·have hli : (k : Int) < (j : Int) := by omega
  have hj0 : (0 : Int) <= (k : Int) := by omega
  have hjl : k < ds.length := by have := Hn.out; omega
  obtain ⟨ad', hAd, _, _, hrow⟩ := RowsV.get Hr.out hjl;cases hAd;have hsn : ds.take (k + 1) = ds.take k ++ [ds[k]] := (List.take_append_getElem hjl).symm;obtain ⟨d, hd⟩ := xE ds[k];have hdo := Hok.out _ (List.getElem_mem hjl);rw [hd] at hrow hsn hdo;obtain ⟨nm, bb⟩ := d;obtain ⟨nb, hnb⟩ := xE bb.length;obtain ⟨-, Ab, cb, a1, hrb⟩ := Df.at_ hrow hnb;simp only at hrb hdo;have hbk : (ad.add (k * 2)).block < w.heap.size := by rw [block_of_add]; exact hadl
  replace a1 := (Hb2.out.cell (p := ⟨(ad.add (k * 2)).block, (ad.add (k * 2)).off + 1, none⟩) hbk).trans a1;have HNe := hid (needs22_any ds j Hn.out hz (some ad) c 1024 bb nb hnb hdo.2 (by omega) hdo.1 Ab cb [] 0 rfl (by omega) none 0 W2 (RowsV.below hrb Hb2.out) (by unfold strRows List.map RowsV; trivial) (RowsV.below Hr.out Hb2.out));have Hs := hid hsn;clear hrow hsn hnb hdo hrb hd;go_upto_region 12 with (go_at_call 47; refine HNe.out.mono ?_; rintro e w3 ⟨p, er, rfl, hne, hb3⟩)
  have Hb3 := hid (Hb2.out.trans (hb3.mono Hb2.out.size));have Hne := hid hne;clear hne hb3 a1 HNe;by_cases h0 : er = 0
  ·subst h0;go_wp2_with fail
   go_roundw
   case rel => exact ⟨k + 1, by omega, by go_num, by
    rw [Hs.out];intro q hq;rcases List.mem_append.1 hq with h | h
    ·exact Hnd.out q h
    rw [List.mem_singleton.1 h]; exact Hne.out rfl, Hb3.out⟩
   simp [intOf]; omega
  have h0b : (er != 0) = true := bne_iff_ne.2 h0;go_wp2_with fail
  go_ret2;exact ⟨p, er, rfl, (fun h => absurd h h0), Hb3.out⟩
 obtain rfl : k = j := by omega
 have HN1 : Hid (∀ d ∈ ds, tnsNeed ds d.b) := hid (by have h := Hnd.out; rwa [List.take_of_length_le (by have := Hn.out; omega)] at h)
 go_wp2_with fail
 go_ret2
 exact ⟨0, 0, rfl, fun _ => ⟨⟨_, _, Hds.out, Hq0.out⟩, fun d hd => ⟨HM1.out d hd, HN1.out d hd⟩⟩, Hb2.out⟩
structure St where
 k : Int
 el : ByteArray
 at_ : ByteArray
 dl : Int
 pe : ByteArray
 rf : ByteArray
 pa : Int
 wd : ByteArray
def St.l (s : St) : List Value := [.int .i64 s.k, .string s.el, .string s.at_, .int .u8 s.dl, .string s.pe, .string s.rf, .int .i64 s.pa, .string s.wd]
def St.v (s : St) : Value := .agg #[.int .i64 s.k, .string s.el, .string s.at_, .int .u8 s.dl, .string s.pe, .string s.rf, .int .i64 s.pa, .string s.wd]
def St.ok (s : St) : Prop := StOk 41 s.el s.at_ s.pe s.rf s.wd
theorem St.len (s : St) : s.l.length = 8 := rfl
theorem St.one (s : St) : s.l.all (·.oneCell') = true := rfl
def UnitRow (r : List Value) : Prop := ∃ (nm : ByteArray) (f t : St) (A : Option Addr) (n c : Nat), r = .string nm :: (f.l ++ t.l ++ [.slice A n c]) /\ t.ok
theorem UnitRow.len {r : List Value} (h : UnitRow r) : r.length = 18 := by
 obtain ⟨nm, f, t, A, n, c, rfl, _⟩ := h
 rfl
def isB (v : Value) : Prop := ∃ b, v = .bool b
def isI (v : Value) : Prop := ∃ n, v = .int .i64 n
structure WIn (pw : Nat) (vdf : Value) (n d : Nat) (w : World) (vu vdo vme vwa : Value) (at_ er : Int) : Prop where
 wk : WkAt pw ⟨vdf, vu, vdo, vme, vwa, d, at_, er⟩ w
 un : ∃ rows : List (List Value), w.ownsRow pw 35 18 vu n rows.flatten /\ rows.length = n /\ ∀ r ∈ rows, UnitRow r
 dn : ∃ xs, w.ownsRow pw 4 1 vdo n xs /\ ∀ x ∈ xs, isB x
 mn : ∃ xs, w.ownsRow pw 3 1 vme n xs /\ ∀ x ∈ xs, isI x
 wn : ∃ xs, w.ownsRow pw 4 1 vwa n xs /\ ∀ x ∈ xs, isB x
 ne : ∀ g, vdo.ownBlock = some g -> vwa.ownBlock ≠ some g
 n_le : n <= 64
 d_le : d <= 32
def WI (pw : Nat) (vdf : Value) (n d : Nat) (w : World) : Prop := ∃ vu vdo vme vwa at_ er, WIn pw vdf n d w vu vdo vme vwa at_ er
def WkX (pw : Nat) (vdf : Value) (w : World) : Prop := ∃ t : Wk, t.defs = vdf /\ WkAt pw t w
section
variable {w w' : World} {base sz n g : Nat} {e t : TypeId} {v : Value} {xs : List Value} {cs : Array Value}
theorem own_stay (h : w.ownsRow base e sz v n xs) (hs : ∀ g cur, v.ownBlock = some g -> w.heap[g]? = some (.cells cur e (0, 0)) -> w'.heap[g]? = w.heap[g]?) : w'.ownsRow base e sz v n xs := by
 refine ⟨h.1, ?_⟩
 rcases h.2 with h0 | ⟨g, cap, cur, rfl, hb, hg, h4⟩
 ·exact .inl h0
 exact .inr ⟨g, cap, cur, rfl, hb, (hs g cur rfl hg).trans hg, h4⟩
theorem own_typed (h : w.ownsRow base e sz v n xs) : ∀ g, v.ownBlock = some g -> ∃ cs, w.heap[g]? = some (.cells cs e (0, 0)) := fun g hg => by
 rcases h.2 with ⟨rfl, _⟩ | ⟨g', cap, cur, rfl, hb, hg', h4⟩
 ·cases hg
 have : g' = g := by simpa [Value.ownBlock] using hg
 subst this
 exact ⟨cur, hg'⟩
theorem own_below (h : w.ownsRow base e sz v n xs) (hb : Below w.heap.size w w') : w'.ownsRow base e sz v n xs := own_stay h fun g _ hg _ => hb.block g (h.lt g hg).2
theorem own_grown (h : w.ownsRow base e sz v n xs) {ob : Option Nat} (hg : w.grownBy w' ob) (hne : ∀ g, v.ownBlock = some g -> ob ≠ some g) : w'.ownsRow base e sz v n xs := own_stay h fun g _ hgv _ => hg.block g (h.lt g hgv).2 fun e => hne g hgv e.symm
theorem own_tfX {X : TypeId -> Bool} {b1 : Nat} (h : w.ownsRow base e sz v n xs) (ht : TF X b1 w w') (hx : X e = false) : w'.ownsRow base e sz v n xs := own_stay h fun g _ hg hc => ht.block g (h.lt g hg).2 (.inr ⟨_, _, _, hc, hx⟩)
theorem own_ne (h : w.ownsRow base e sz v n xs) (hB : Blk w g t cs) (ht : t ≠ e) : v.ownBlock ≠ some g := fun k => by
 obtain ⟨cs', hc⟩ := own_typed h g k
 exact Blk.ne_ hB hc ht rfl
theorem own_far (h : w.ownsRow base e sz v n xs) (hg : v.ownBlock ≠ some g) (i : Nat) (u : Value) : (w.setCell ⟨g, i, none⟩ u).ownsRow base e sz v n xs := own_stay h fun g' _ hg' _ => Below.heap_setCell w ⟨g, i, none⟩ u g' (fun k => hg (by rw [<- show g' = g from k]; exact hg'))
theorem own_farC (h : w.ownsRow base e sz v n xs) (hg : v.ownBlock ≠ some g) (o : Nat) (vs : List Value) : (w.setCells g o vs).ownsRow base e sz v n xs := own_stay h fun g' _ hg' _ => setCells_far vs o w (fun k => hg (k ▸ hg'))
end
section
variable {pw n d : Nat} {vdf vu vdo vme vwa : Value} {at_ er : Int} {w w' : World}
theorem WIn.lt (h : WIn pw vdf n d w vu vdo vme vwa at_ er) : pw < w.heap.size := Blk.lt h.wk
theorem WIn.stay (h : WIn pw vdf n d w vu vdo vme vwa at_ er) (hs : ∀ b cs t, w.heap[b]? = some (.cells cs t (0, 0)) -> XW t = true -> pw <= b -> w'.heap[b]? = w.heap[b]?) : WIn pw vdf n d w' vu vdo vme vwa at_ er := by
 have own : ∀ {e sz v xs}, w.ownsRow pw e sz v n xs -> XW e = true -> w'.ownsRow pw e sz v n xs := fun ho hx => own_stay ho fun g cur hg hc => hs g cur _ hc hx (ho.lt g hg).1
 exact ⟨(hs pw _ _ h.wk rfl (Nat.le_refl _)).trans h.wk, h.un.imp fun _ k => ⟨own k.1 rfl, k.2⟩, h.dn.imp fun _ k => ⟨own k.1 rfl, k.2⟩, h.mn.imp fun _ k => ⟨own k.1 rfl, k.2⟩, h.wn.imp fun _ k => ⟨own k.1 rfl, k.2⟩, h.ne, h.n_le, h.d_le⟩
theorem WIn.below (h : WIn pw vdf n d w vu vdo vme vwa at_ er) (hb : Below w.heap.size w w') : WIn pw vdf n d w' vu vdo vme vwa at_ er :=
 h.stay fun b cs t hc _ _ => hb.block b (by
  rcases Nat.lt_or_ge b w.heap.size with hl | hl
  ·exact hl
  rw [Array.getElem?_eq_none hl] at hc; cases hc)
theorem WIn.drew (h : WIn pw vdf n d w vu vdo vme vwa at_ er) : WIn pw vdf n d w.drew vu vdo vme vwa at_ er := h.below (Below.refl _ _).drew
theorem WIn.farC (h : WIn pw vdf n d w vu vdo vme vwa at_ er) {g : Nat} {t : TypeId} {cs : Array Value} (hB : Blk w g t cs) (hx : XW t = false) (o : Nat) (vs : List Value) : WIn pw vdf n d (w.setCells g o vs) vu vdo vme vwa at_ er :=
 h.stay fun b cs' t' hc ht _ => setCells_far vs o w fun k => by
  subst k;unfold Blk at hB;rw [hB] at hc;injection hc with hc
  injection hc with _ e2
  rw [<- e2, hx] at ht; cases ht
theorem WIn.far (h : WIn pw vdf n d w vu vdo vme vwa at_ er) {g : Nat} {t : TypeId} {cs : Array Value} (hB : Blk w g t cs) (hx : XW t = false) (i : Nat) (u : Value) : WIn pw vdf n d (w.setCell ⟨g, i, none⟩ u) vu vdo vme vwa at_ er :=
 h.stay fun b cs' t' hc ht _ => Below.heap_setCell w ⟨g, i, none⟩ u b fun k => by
  have k' : b = g := k;subst k';unfold Blk at hB;rw [hB] at hc;injection hc with hc
  injection hc with _ e2
  rw [<- e2, hx] at ht; cases ht
theorem WIn.x (h : WIn pw vdf n d w vu vdo vme vwa at_ er) : WkX pw vdf w := ⟨_, rfl, h.wk⟩
theorem WkX.below (h : WkX pw vdf w) (hb : Below w.heap.size w w') : WkX pw vdf w' := h.imp fun _ k => ⟨k.1, k.2.below hb⟩
theorem WkX.lt (h : WkX pw vdf w) : pw < w.heap.size := by
 obtain ⟨t, _, k⟩ := h
 exact Blk.lt k
theorem WkX.farC (h : WkX pw vdf w) {g : Nat} (hg : pw ≠ g) (o : Nat) (vs : List Value) : WkX pw vdf (w.setCells g o vs) := h.imp fun _ k => ⟨k.1, Blk.farC k.2 hg o vs⟩
theorem WkX.far (h : WkX pw vdf w) {g : Nat} (hg : pw ≠ g) (i : Nat) (u : Value) : WkX pw vdf (w.setCell ⟨g, i, none⟩ u) := h.imp fun _ k => ⟨k.1, Blk.far (p := ⟨g, i, none⟩) k.2 hg u⟩
end
structure DsAt (pw : Nat) (vdf : Value) (ds : List Df) (w : World) : Prop where
 rows : ∃ A c, vdf = .slice A ds.length c /\ RowsV w (fun b => b < pw) 2 A 0 (ds.map Df.row)
 ok : ∀ d ∈ ds, tnsOk d.b /\ tnsNum d.b <= 1024 /\ (∀ t ∈ d.b, t.may) /\ tnsNeed ds d.b
 len : ds.length <= 9223372036854775807
theorem rows_keep {pw sz : Nat} {A : Option Addr} {l : List (List Dt)} {w w' : World} (h : RowsV w (fun b => b < pw) sz A 0 l) (hb : Below pw w w') : RowsV w' (fun b => b < pw) sz A 0 l := RowsV.keep hb.size (fun b hS _ => ⟨hS, hb.block b hS⟩) l sz A 0 h
theorem DsAt.keep {pw : Nat} {vdf : Value} {ds : List Df} {w w' : World} (h : DsAt pw vdf ds w) (hb : Below pw w w') : DsAt pw vdf ds w' := by
 obtain ⟨⟨A, c, e, h1⟩, h2, h3⟩ := h
 exact ⟨⟨A, c, e, rows_keep h1 hb⟩, h2, h3⟩
def NRow (pw : Nat) (w : World) (l : List Tn) (r : List Value) : Prop := ∃ (k : Int) (x nm : ByteArray) (p : List Ca) (b e : List Tn) (a s u s' u' : Int) (Ap : Option Addr) (cp : Nat) (Ab : Option Addr) (nb cb : Nat) (Ae : Option Addr) (ne ce : Nat), Tn.mk k x nm p b e a s u ∈ l /\ r = [.int .i64 k, .string x, .string nm, .slice Ap p.length cp, .slice Ab nb cb, .slice Ae ne ce, .int .i64 a, .int .i64 s', .int .i64 u'] /\ RowsV w (fun b => b < pw) 2 Ap 0 (p.map Ca.row) /\ ((k < 3 ∨ 5 < k) -> nb = b.length /\ ne = e.length)
theorem NRow.keep {pw : Nat} {w w' : World} {l : List Tn} {r : List Value} (h : NRow pw w l r) (hb : Below pw w w') : NRow pw w' l r := by
 obtain ⟨k, x, nm, p, b, e, a, s, u, s', u', Ap, cp, Ab, nb, cb, Ae, ne, ce, h1, h2, h3, h4⟩ := h
 exact ⟨k, x, nm, p, b, e, a, s, u, s', u', Ap, cp, Ab, nb, cb, Ae, ne, ce, h1, h2, rows_keep h3 hb, h4⟩
theorem NRow.len {pw : Nat} {w : World} {l : List Tn} {r : List Value} (h : NRow pw w l r) : r.length = 9 := by
 obtain ⟨k, x, nm, p, b, e, a, s, u, s', u', Ap, cp, Ab, nb, cb, Ae, ne, ce, h1, rfl, _⟩ := h
 rfl
def PNo (pw : Nat) (vdf : Value) (l : List Tn) (n d : Nat) (w : World) (e : Ending) (w' : World) : Prop := ∃ (out : Value) (s : St) (b : Bool), e = .returned (.tuple #[out, s.v, .bool b]) /\ s.ok /\ TF XW pw w w' /\ WkX pw vdf w' /\ (∃ rows : List (List Value), w'.ownsRow w.heap.size 52 9 out rows.length rows.flatten /\ rows.length <= l.length /\ ∀ r ∈ rows, NRow pw w l r) /\ (b = true -> ∃ n', n <= n' /\ WI pw vdf n' d w')
def NoC (pw : Nat) (vdf : Value) (ds : List Df) (d : Nat) : Prop := ∀ (l : List Tn) (m : Nat) (A : Option Addr) (c : Nat) (s : St) (n : Nat) (w : World), l.length = m -> s.ok -> WI pw vdf n d w -> DsAt pw vdf ds w -> RowsV w (fun b => b < pw) 9 A 0 (tnRows l) -> tnsOk l -> tnsNum l <= 1024 -> tnsNeed ds l -> Calls Tryz.prog 49 #[.pointer (some ⟨pw, 0, none⟩), .slice A m c, s.v] w (PNo pw vdf l n d w)
def PUn (pw : Nat) (vdf : Value) (l : List Tn) (n d : Nat) (w : World) (e : Ending) (w' : World) : Prop := ∃ (k : Nat) (s : St) (b : Bool), e = .returned (.tuple #[.int .i64 (k : Int), s.v, .bool b]) /\ s.ok /\ TF XW pw w w' /\ WkX pw vdf w' /\ (b = true -> ∃ n', n <= n' /\ WI pw vdf n' d w' /\
 (n = 0 -> ∃ vu vdo vme vwa at_ er g cap out, WIn pw vdf n' d w' vu vdo vme vwa at_ er /\ vu = .slice (some ⟨g, 0, none⟩) n' cap /\ w'.cell? ⟨g, 17, none⟩ = some out /\ ∃ rows : List (List Value), w'.ownsRow pw 52 9 out rows.length rows.flatten /\ rows.length <= l.length /\ ∀ r ∈ rows, NRow pw w' l r))
def UnC (pw : Nat) (vdf : Value) (ds : List Df) (d : Nat) : Prop := ∀ (nm : ByteArray) (s : St) (at_ : Int) (n : Nat) (i : Nat) (l : List Tn) (w : World), s.ok -> WI pw vdf n d w -> DsAt pw vdf ds w -> findD ds nm 0 = (i : Int) -> (∃ x, ds[i]? = some ⟨x, l⟩) -> Calls Tryz.prog 26 #[.pointer (some ⟨pw, 0, none⟩), .string nm, s.v, .int .i64 at_] w (PUn pw vdf l n d w)
section
variable {P : Program} {ops : Array Oper} {rest : List Oper} {op : Oper} {a : Act} {w w' : World} {Q : Exit -> Act -> World -> Prop}
theorem wpl_enter {f : FuncId} {args : Array Value} {R : Ending -> World -> Prop} (d : Option Tmp) (hgd : op.guard = none) (hd : op.dst = d) (hrun : (execOp a.eval op).run P w = .ok (.enter f args) w) (hc : Calls P f args w R)
  (k : ∀ e w', R e w' -> ∃ v, e = .returned v /\ wpList P ops Q rest (a.put d v) w') : wpList P ops Q (op :: rest) a w :=
 wpList_plain hgd fun _ hK => by
  unfold Oper.wp;rw [hrun, Oper.upon_enter];refine hc.mono fun e w' hR => ?_
  obtain ⟨v, rfl, hW⟩ := k e w' hR;subst hd;exact hK _ _ hW
theorem wpl_val (d : Option Tmp) {v : Value} (hgd : op.guard = none) (hd : op.dst = d) (hrun : (execOp a.eval op).run P w = .ok (.value v) w') (k : wpList P ops Q rest (a.put d v) w') : wpList P ops Q (op :: rest) a w :=
 wpList_plain hgd fun _ hK => by
  subst hd;unfold Oper.wp;rw [hrun];exact hK _ _ k
theorem wpl_skip (hgd : op.guard = none) (hd : op.dst = none) (hrun : (execOp a.eval op).run P w = .ok .skip w') (k : wpList P ops Q rest a w') : wpList P ops Q (op :: rest) a w :=
 wpList_plain hgd fun _ hK => by
  unfold Oper.wp;rw [hrun, Oper.upon_skip, hd];exact hK _ _ k
end
theorem failX (pw : Nat) (vdf : Value) (a b : Int) (w : World) (h : WkX pw vdf w) : Calls Tryz.prog 48 #[.pointer (some ⟨pw, 0, none⟩), .int .i64 a, .int .i64 b] w (fun e w' => e = .returned (.bool false) /\ WkX pw vdf w' /\ TF XW pw w w') := by
 obtain ⟨t, h1, h2⟩ := h
 refine (fail25_any pw pw (Nat.le_refl _) t a b w h2).mono ?_
 rintro e w1 ⟨he, ⟨er, at_, hk⟩, ht⟩
 exact ⟨he, ⟨{ t with er := er, at_ := at_ }, h1, hk⟩, ht⟩
def qS (k k' : Int) (el at_ : ByteArray) (dl : Int) (pe rf : ByteArray) (pa : Int) (wd : ByteArray) (el' at_' : ByteArray) (dl' : Int) (pe' rf' : ByteArray) (pa' : Int) (wd' : ByteArray) : Bool := decide (k = k' /\ el.toList = el'.toList /\ at_.toList = at_'.toList /\ dl = dl' /\ pe.toList = pe'.toList /\ rf.toList = rf'.toList /\ pa = pa' /\ wd.toList = wd'.toList)
theorem eql_states (k k' : Int) (el at_ : ByteArray) (dl : Int) (pe rf : ByteArray) (pa : Int) (wd : ByteArray) (el' at_' : ByteArray) (dl' : Int) (pe' rf' : ByteArray) (pa' : Int) (wd' : ByteArray) (w : World) : (binOp BinOp.eql 32 (.agg #[.int .i64 k, .string el, .string at_, .int .u8 dl, .string pe, .string rf, .int .i64 pa, .string wd]) (.agg #[.int .i64 k', .string el', .string at_', .int .u8 dl', .string pe', .string rf', .int .i64 pa', .string wd'])).run Tryz.prog w = .ok (.bool (qS k k' el at_ dl pe rf pa wd el' at_' dl' pe' rf' pa' wd')) w := by
 go_simp
 unfold qS
 repeat' split
 all_goals simp_all
theorem neq_states (k k' : Int) (el at_ : ByteArray) (dl : Int) (pe rf : ByteArray) (pa : Int) (wd : ByteArray) (el' at_' : ByteArray) (dl' : Int) (pe' rf' : ByteArray) (pa' : Int) (wd' : ByteArray) (w : World) : (binOp BinOp.neq 32 (.agg #[.int .i64 k, .string el, .string at_, .int .u8 dl, .string pe, .string rf, .int .i64 pa, .string wd]) (.agg #[.int .i64 k', .string el', .string at_', .int .u8 dl', .string pe', .string rf', .int .i64 pa', .string wd'])).run Tryz.prog w = .ok (.bool (!qS k k' el at_ dl pe rf pa wd el' at_' dl' pe' rf' pa' wd')) w := by
 go_simp
 unfold qS
 repeat' split
 all_goals simp_all
theorem guard_states (b : BinOp) (x y : Operand) (k k' : Int) (el at_ : ByteArray) (dl : Int) (pe rf : ByteArray) (pa : Int) (wd : ByteArray) (el' at_' : ByteArray) (dl' : Int) (pe' rf' : ByteArray) (pa' : Int) (wd' : ByteArray) (w : World) : (eqGuard b 32 x y (.agg #[.int .i64 k, .string el, .string at_, .int .u8 dl, .string pe, .string rf, .int .i64 pa, .string wd]) (.agg #[.int .i64 k', .string el', .string at_', .int .u8 dl', .string pe', .string rf', .int .i64 pa', .string wd'])).run Tryz.prog w = .ok () w := by
 unfold eqGuard
 cases b <;> go_simp
theorem wpl_moveG {P : Program} {ops : Array Oper} {rest : List Oper} {op : Oper} {a : Act} {w : World} {Q : Exit -> Act -> World -> Prop} (d : Option Tmp) {v : Value} (hd : op.dst = d) (hw : Region.wanted op (yielded ops a.tmps) = true) (hrun : (execOp a.eval op).run P w = .ok (.value v) w) (k : wpList P ops Q rest (a.put d v) w) : wpList P ops Q (op :: rest) a w := by
 subst hd
 refine BigFrame.wpList_want hw fun _ hK => ?_
 unfold Oper.wp
 rw [hrun]
 exact hK _ _ k
theorem wpl_not {P : Program} {ops : Array Oper} {rest : List Oper} {op : Oper} {a : Act} {w : World} {Q : Exit -> Act -> World -> Prop} (d : Option Tmp) (hd : op.dst = d) (hw : Region.wanted op (yielded ops a.tmps) = false) (k : wpList P ops Q rest (a.put d undef) w) : wpList P ops Q (op :: rest) a w := by
 subst hd
 exact wpList_skip hw k
theorem wpl_loadG {ops : Array Oper} {rest : List Oper} {op : Oper} {a : Act} {w : World} {Q : Exit -> Act -> World -> Prop} {g : Nat} {t ty : TypeId} {l : List Value} (h : Blk w g t l.toArray) (dd : Option Tmp) (hdd : op.dst = dd) (hw : Region.wanted op (yielded ops a.tmps) = true) (x : Operand) (ho : op.op = .load ty x)
  (hx : a.eval x = .pointer (some ⟨g, 0, none⟩)) (d : TypeDesc) (hu : Tryz.prog.underlying ty = some d) (hd : d.isRow = true) (hi : (Tryz.prog.info? ty).map (·.size) = some l.length)
  (k : wpList Tryz.prog ops Q rest (a.put dd (.agg l.toArray)) w) : wpList Tryz.prog ops Q (op :: rest) a w := by
 subst hdd
 refine BigFrame.wpList_want hw fun _ hK => ?_
 exact wp_load_mid ty x ho g 0 hx l d (h.range (by simp)) hu hd hi (hK _ _ k)
def neS (s t : St) : Bool := !qS s.k t.k s.el s.at_ s.dl s.pe s.rf s.pa s.wd t.el t.at_ t.dl t.pe t.rf t.pa t.wd
theorem wpl_neqS {ops : Array Oper} {rest : List Oper} {op : Oper} {a : Act} {w : World} {Q : Exit -> Act -> World -> Prop} (s t : St) (d : Option Tmp) {q : Bool} (hq : neS s t = q) (x y : Operand) (ho : op.op = .binOp .neq 32 x y 32) (hd : op.dst = d) (hw : Region.wanted op (yielded ops a.tmps) = true) (hx : a.eval x = .agg s.l.toArray) (hy : a.eval y = .agg t.l.toArray)
  (k : wpList Tryz.prog ops Q rest (a.put d (.bool q)) w) : wpList Tryz.prog ops Q (op :: rest) a w := by
 subst hd hq
 refine BigFrame.wpList_want hw fun _ hK => ?_
 unfold Oper.wp
 have h1 := guard_states .neq x y s.k t.k s.el s.at_ s.dl s.pe s.rf s.pa s.wd t.el t.at_ t.dl t.pe t.rf t.pa t.wd w
 have h2 := neq_states s.k t.k s.el s.at_ s.dl s.pe s.rf s.pa s.wd t.el t.at_ t.dl t.pe t.rf t.pa t.wd w
 have h3 : (execOp a.eval op).run Tryz.prog w = .ok (.value (.bool (neS s t))) w := by
  unfold execOp;rw [ho];simp only [hx, hy, St.l, Sem.run_bind, Sem.run_pure, h1, h2, Result.andThen_ok];rfl
 rw [h3]
 exact hK _ _ k
structure WL (P : Program) (ops : Array Oper) (Q : Exit -> Act -> World -> Prop) (l : List Oper) (a : Act) (w : World) : Prop where
 out : wpList P ops Q l a w
theorem wpl_moveW {P : Program} {ops : Array Oper} {rest : List Oper} {op : Oper} {a : Act} {w : World} {Q : Exit -> Act -> World -> Prop} (d : Option Tmp) {v : Value} (hgd : op.guard = none) (hd : op.dst = d) (hrun : (execOp a.eval op).run P w = .ok (.value v) w) (k : WL P ops Q rest (a.put d v) w) : wpList P ops Q (op :: rest) a w :=
 wpl_val d hgd hd hrun k.out
theorem WL.not {P : Program} {ops : Array Oper} {rest : List Oper} {op : Oper} {a : Act} {w : World} {Q : Exit -> Act -> World -> Prop} (d : Option Tmp) (hd : op.dst = d) (hw : Region.wanted op (yielded ops a.tmps) = false) (k : WL P ops Q rest (a.put d undef) w) : WL P ops Q (op :: rest) a w :=
 ⟨wpl_not d hd hw k.out⟩
end Go.Proofs.YtkcnmjdomipbjaaGreat
