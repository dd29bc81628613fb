import Derived.Deep.QuietTactic
import Derived.BigQuiet
import Derived.Test.YtkcnmjdomipbjaaGreatS7
set_option linter.unusedVariables false
set_option maxHeartbeats 100000000
set_option maxRecDepth 100000
namespace Go.Proofs.YtkcnmjdomipbjaaGreat
open Go.RowKit
theorem conv_row {P : Program} (cells : Array Value) (l : List UInt8) (W : World) (src dst e : TypeId) (hs : P.underlying src = some (.slice e)) (he : P.underlying e = some (.int .u8)) (hd : P.underlying dst = some .string) (n : Nat) (hn : n = l.length) (hc : ∀ j (h : j < l.length), cells[j]? = some (.int .u8 (l[j].toNat : Int))) :
  (convert src dst (.slice (some ⟨W.heap.size, 0, none⟩) n n)).run P (W.alloc (.cells cells e)) = .ok (.string ⟨l.toArray⟩) (W.alloc (.cells cells e)) := by
 have h : BytesIn (W.alloc (.cells cells e)) W.heap.size l := fun j hj => by
  rw [World.cell?_alloc_mark]; exact hc j hj
 exact h.back n src dst e hs he hd n hn
theorem at_bOf {n : Int} (h0 : 0 <= n) (h1 : n <= 255) : some (Value.int .u8 n) = some (.int .u8 ((bOf n).toNat : Int)) := by rw [bOf_toNat n h0 h1]
theorem refSize_any (n : Int) (h0 : 0 <= n) (h1 : n <= 255) (w : World) : Calls Tryz.prog 145 #[.int .u8 n] w fun e w' => e = .returned (.int .i64 (szI n)) /\ w = w' := by
 go_enter Tryz.func145, Tryz.ntmps145
 go_wp2
 all_goals go_ret
 all_goals (refine ⟨ret_int ?_, rfl⟩; unfold szI; repeat' split; all_goals omega)
theorem refEncode_any (c : Int) (hc0 : -9223372036854775808 <= c) (hc1 : c <= 9223372036854775807) (w : World) :
  Calls Tryz.prog 124 #[.int .i64 c] w (RStrInt w (encL c) (encE c)) := by
 have hok := hid (encOk_valid c)
 by_cases hb : c < 0 ∨ c > 1114111 ∨ (55296 <= c /\ c <= 57343)
 ·have e : encOk c = false := decide_eq_false (by omega);have E1 := hid (show encL c = [] by unfold encL; rw [e]; rfl);have E2 := hid (show encE c = 4 by unfold encE; rw [e]; rfl);go_enter Tryz.func124, Tryz.ntmps124;go_wp2
  all_goals go_ret2
  all_goals exact ⟨_, _, rfl, hid E1.out.symm, hid E2.out.symm, Below.refl _ _⟩
 have e : encOk c = true := decide_eq_true (by omega)
 have E1 := hid (show encL c = (Lib.encodeRuneZ c).map bOf by unfold encL; rw [e]; rfl)
 have E2 := hid (show encE c = 0 by unfold encE; rw [e]; rfl)
 obtain ⟨k, rfl⟩ : ∃ k : Nat, c = (k : Int) := ⟨c.toNat, by omega⟩
 have hk : k <= 1114111 := by omega
 by_cases h1 : k < 128
 ·rw [Lib.encodeRuneZ_one (by omega) (by omega)] at E1;have kc := fun (W : World) => conv_row (P := Tryz.prog) #[.int .u8 (k : Int)] [bOf (k : Int)] W 62 9 5 Tryz.underlying62 Tryz.underlying5 Tryz.underlying9 1 rfl (fun j hj => by
   match j, hj with
   | 0, _ => exact at_bOf (by omega) (by omega)
   | j + 1, hj => exact absurd hj (by simp))
  go_enter Tryz.func124, Tryz.ntmps124;go_wp2
  go_ret2;exact ⟨_, _, rfl, hid E1.out.symm, hid E2.out.symm, by go_grown⟩
 by_cases h2 : k < 2048
 ·rw [Lib.encodeRuneZ_two (by omega) (by omega)] at E1;have kc := fun (W : World) => conv_row (P := Tryz.prog) #[.int .u8 (192 + (k : Int) / 64), .int .u8 (128 + (k : Int) % 64)] [bOf (192 + (k : Int) / 64), bOf (128 + (k : Int) % 64)] W 62 9 5 Tryz.underlying62 Tryz.underlying5 Tryz.underlying9 2 rfl (fun j hj => by
   match j, hj with
   | 0, _ => exact at_bOf (by omega) (by omega)
   | 1, _ => exact at_bOf (by omega) (by omega)
   | j + 2, hj => exact absurd hj (by simp))
  go_enter Tryz.func124, Tryz.ntmps124;go_wp2
  go_ret2;exact ⟨_, _, rfl, hid E1.out.symm, hid E2.out.symm, by go_grown⟩
 obtain ⟨c, hc⟩ : ∃ c : Int, (k : Int) = c := ⟨_, rfl⟩
 rw [hc] at E1 E2 hb ⊢
 have hk0 : 2048 <= c := by omega
 have hk1 : c <= 1114111 := by omega
 obtain ⟨x, hx⟩ := xE (c % 64)
 obtain ⟨d, hd⟩ := xE (c / 64)
 obtain ⟨y, hy⟩ := xE (d % 64)
 by_cases h3 : c < 65536
 ·rw [Lib.encodeRuneZ_three (by omega)] at E1;obtain ⟨z, hz⟩ := xE (c / 4096);rw [hz, hd, hy, hx] at E1;have hx1 : 0 <= x /\ x < 64 := by omega
  have hy1 : 0 <= y /\ y < 64 := by omega
  have hz1 : 0 <= z /\ z < 16 := by omega
  have hd1 : 0 <= d /\ d < 1024 := by omega
  have kc := fun (W : World) => conv_row (P := Tryz.prog) #[.int .u8 (224 + z), .int .u8 (128 + y), .int .u8 (128 + x)] [bOf (224 + z), bOf (128 + y), bOf (128 + x)] W 62 9 5 Tryz.underlying62 Tryz.underlying5 Tryz.underlying9 3 rfl (fun j hj => by
   match j, hj with
   | 0, _ => exact at_bOf (by omega) (by omega)
   | 1, _ => exact at_bOf (by omega) (by omega)
   | 2, _ => exact at_bOf (by omega) (by omega)
   | j + 3, hj => exact absurd hj (by simp))
  rcases (show c < 55296 ∨ 57343 < c by omega) with h4 | h4
  ·clear hb e hok hc0 hc1 h1 h2 hk hc k;go_enter Tryz.func124, Tryz.ntmps124;go_wp2
   go_ret2;exact ⟨_, _, rfl, hid E1.out.symm, hid E2.out.symm, by go_grown⟩
  clear hb e hok hc0 hc1 h1 h2 hk hc k;go_enter Tryz.func124, Tryz.ntmps124;go_wp2
  go_ret2;exact ⟨_, _, rfl, hid E1.out.symm, hid E2.out.symm, by go_grown⟩
 rw [Lib.encodeRuneZ_four (by omega) (by omega)] at E1
 obtain ⟨z, hz⟩ := xE (c / 262144)
 obtain ⟨v, hv⟩ := xE (c / 4096)
 obtain ⟨u, hu⟩ := xE (v % 64)
 rw [hz, hv, hu, hd, hy, hx] at E1
 have hx1 : 0 <= x /\ x < 64 := by omega
 have hy1 : 0 <= y /\ y < 64 := by omega
 have hz1 : 0 <= z /\ z < 5 := by omega
 have hu1 : 0 <= u /\ u < 64 := by omega
 have hd1 : 0 <= d /\ d < 20000 := by omega
 have hv1 : 0 <= v /\ v < 300 := by omega
 have kc := fun (W : World) => conv_row (P := Tryz.prog) #[.int .u8 (240 + z), .int .u8 (128 + u), .int .u8 (128 + y), .int .u8 (128 + x)] [bOf (240 + z), bOf (128 + u), bOf (128 + y), bOf (128 + x)] W 62 9 5 Tryz.underlying62 Tryz.underlying5 Tryz.underlying9 4 rfl (fun j hj => by
  match j, hj with
  | 0, _ => exact at_bOf (by omega) (by omega)
  | 1, _ => exact at_bOf (by omega) (by omega)
  | 2, _ => exact at_bOf (by omega) (by omega)
  | 3, _ => exact at_bOf (by omega) (by omega)
  | j + 4, hj => exact absurd hj (by simp))
 clear hb e hok hc0 hc1 h1 h2 hk hc k
 go_enter Tryz.func124, Tryz.ntmps124
 go_wp2
 go_ret2
 exact ⟨_, _, rfl, hid E1.out.symm, hid E2.out.symm, by go_grown⟩
theorem dec_bad (l : List UInt8) (hne : l ≠ []) (h : Good l -> False) : Hid (decC l = -1) /\ Hid (((decN l : Nat) : Int) = 1) := by
 have := good_not l hne h
 exact ⟨this.1, by show ((decN l : Nat) : Int) = 1; rw [this.2]; rfl⟩
theorem byte_and (p : UInt8 -> Bool) (m : Int) (x : Int) (hx0 : 0 <= x /\ x <= 255) (hp : p (bOf x) = true) (h : (List.range 256).all (fun j => !p (UInt8.ofNat j) || (bits .and .i64 (j : Int) m == headI (j : Int))) = true) : bits .and .i64 x m = headI x := by
 have e := bOf_toNat x hx0.1 hx0.2
 have := List.all_eq_true.1 h (bOf x).toNat (by have := (bOf x).toNat_lt; simp; omega)
 rw [UInt8.ofNat_toNat, hp, e] at this
 simpa using this
theorem bytes_eq {t u : ByteArray} (h : t.data.toList = u.data.toList) : t = u := by
 cases t; cases u; congr; exact Array.toList_inj.1 h
theorem refDecode_any (s : ByteArray) (w : World) (hs : s.size <= 1099511627776) :
  Calls Tryz.prog 138 #[.string s] w (RIntInt w (decC s.data.toList) (decN s.data.toList)) := by
 have hlen := len_data s
 by_cases h0 : s.size = 0
 ·have e0 : s.data.toList = [] := List.eq_nil_of_length_eq_zero (by omega);have E1 := hid (show decC s.data.toList = -1 by rw [e0]; rfl);have E2 := hid (show decN s.data.toList = 0 by rw [e0]; rfl);obtain rfl : s = ⟨#[]⟩ := by
   have : s.data = #[] := Array.eq_empty_of_size_eq_zero h0;cases s; simp_all
  clear hlen e0;go_enter Tryz.func138, Tryz.ntmps138;go_wp2
  go_ret2;exact ⟨_, _, rfl, hid E1.out.symm, hid (by rw [E2.out]; rfl), Below.refl _ _⟩
 obtain ⟨a, t, hat⟩ : ∃ a t, s.data.toList = a :: t := by
  cases e : s.data.toList with
  | nil => rw [e] at hlen; simp at hlen; omega
  | cons a t => exact ⟨a, t, rfl⟩
 obtain ⟨x, hx⟩ : ∃ x : Int, (a.toNat : Int) = x := ⟨_, rfl⟩
 have hx0 : 0 <= x /\ x <= 255 := by have := a.toNat_lt; omega
 have hne : s.data.toList ≠ [] := by rw [hat]; simp
 have hpos : 0 < s.size := by omega
 have hemp : s.toList.isEmpty = false := by rw [ByteArray.toList_eq, hat]; rfl
 have hi0 : ((s[0]'hpos).toNat : Int) = x := by
  rw [<- hx]; congr 2;rw [<- data_get s 0 hpos (by omega)];simp [hat]
 have G := hid (good_facts s.data.toList)
 have HB := hid (dec_bad s.data.toList hne)
 have Hat := hid hat
 have Hx := hid hx
 obtain ⟨n, hn⟩ := xE (szI x)
 have Hn := hid hn
 have hcl : (n = 0) ∨ (n = 1 /\ x < 128) ∨ (n = 2 /\ 194 <= x /\ x < 224) ∨ (n = 3 /\ 224 <= x /\ x < 240) ∨ (n = 4 /\ 240 <= x /\ x < 245) := by
  rw [<- hn]; unfold szI; repeat' split;all_goals omega
 have Hlen := hid hlen
 have HBig : Hid (((s.size : Int) < n ∨ n = 0) -> decC s.data.toList = -1 /\ ((decN s.data.toList : Nat) : Int) = 1) := hid (fun h => HB.out (fun g => by
  obtain ⟨a', t', n', e1, e2, e3, e4, _⟩ := G.out g;rw [Hat.out] at e1; injection e1 with e1 e1'; subst e1
  rw [Hx.out, Hn.out] at e2;rw [Hlen.out] at e4;omega))
 clear hat hne hlen hx
 go_enter Tryz.func138, Tryz.ntmps138
 go_wp2_with fail
 refine (refSize_any x hx0.1 hx0.2 _).mono ?_
 rintro e w1 ⟨rfl, rfl⟩
 rw [hn]
 clear hn
 rcases hcl with rfl | ⟨rfl, hc⟩ | ⟨rfl, hc⟩ | ⟨rfl, hc⟩ | ⟨rfl, hc⟩
 ·go_wp2
  go_ret2;have := HBig.out (.inr (by first | trivial | rfl));exact ⟨_, _, rfl, hid this.1.symm, hid this.2.symm, Below.refl _ _⟩
 ·have hand := byte_and (fun c => decide (c.toNat < 128)) 127 x hx0 (by have := bOf_toNat x hx0.1 hx0.2; simp; omega) (by decide +kernel);obtain ⟨h, hh⟩ := xE (headI x);have hhb : 0 <= h /\ h <= 127 := by rw [<- hh]; unfold headI; (repeat' split) <;> omega
  rw [hh] at hand;have Hh := hid hh;clear hh;by_cases hbig : (s.size : Int) < 1
  ·go_wp2
   go_ret2;have := HBig.out (.inl hbig);exact ⟨_, _, rfl, hid this.1.symm, hid this.2.symm, Below.refl _ _⟩
  go_wp2_with (go_quiet (fail))
  clear hand;go_loopw [6, 7] (fun c i wr => ∃ (k : Nat) (y : Int), 1 <= k /\ k <= 1 /\ i = .int .i64 k /\ c = .int .i64 y /\ Hid (y = foldC h (t.take (k - 1))) /\ 0 <= y /\ (k = 1 -> y <= 127) /\ (k = 2 -> y <= 8191) /\ (k = 3 -> y <= 524287) /\ (k = 4 -> y <= 33554431) /\ Below w.heap.size w wr) (fun _ i _ => 1 - (intOf i).toNat)
  case atStart => exact ⟨1, h, by omega, by omega, rfl, rfl, hid rfl, hhb.1, fun _ => by omega, fun h => by omega, fun h => by omega, fun h => by omega, below_drewN (by go_grown) _⟩
  obtain ⟨k, y, hk1, hk2, rfl, rfl, hy, hy0, hy1, hy2, hy3, hy4, hb⟩ := hrel;by_cases hlt : k < 1
  ·exfalso; omega
  obtain rfl : k = 1 := by omega
  have hyb : y <= 33554431 := by omega
  clear hy1 hy2 hy3 hy4;go_wp2_with (go_at_call 124; refine (refEncode_any y (by omega) (by omega) _).mono ?_)
  rintro e w2 ⟨t', r, rfl, ht', hr, hb2⟩;have HG : Hid (Good s.data.toList -> encOk y = true /\ Lib.encodeRune y = s.data.toList.take 1) := hid (fun g => by
   obtain ⟨a', t'', n', e1, e2, e3, e4, e5, e6, e7⟩ := G.out g;rw [Hat.out] at e1; injection e1 with e1 e1'; subst e1; subst e1'
   rw [Hx.out, Hn.out] at e2;obtain rfl : n' = 1 := by omega
   rw [Hx.out, Hh.out] at e6 e7;have e8 := hy.out;rw [e8]; exact ⟨e6, e7⟩)
  cases hok : encOk y with
  | false =>
   obtain rfl : r = 4 := by rw [hr.out]; unfold encE; rw [hok]; rfl
   have this := HB.out (fun g => by have := (HG.out g).1; rw [hok] at this; cases this);have HT := hid this;clear this hok;go_wp2_with fail
   go_ret2;exact ⟨_, _, rfl, hid HT.out.1.out.symm, hid HT.out.2.out.symm, then_ hb hb2⟩
  | true =>
   obtain rfl : r = 0 := by rw [hr.out]; unfold encE; rw [hok]; rfl
   have hte : t'.data.toList = Lib.encodeRune y := by rw [ht'.out]; unfold encL; rw [hok]; rfl
   by_cases heq : t'.data.toList = s.data.toList.take 1
   ·have this := good_is s.data.toList y hok 1 (by rw [<- hte, heq]) (by rw [Hlen.out]; omega);have HT := hid this;have heb : t' = s.extract 0 1 := bytes_eq (by rw [heq, data_extract]; simp);have Hte := hid hte;clear this hok hte heq ht';subst heb;go_wp2_with fail
    go_ret2;exact ⟨_, _, rfl, hid HT.out.1.symm, hid (by rw [HT.out.2]; rfl), then_ hb hb2⟩
   have this := HB.out (fun g => by have := (HG.out g).2; rw [<- hte] at this; exact heq this);have HT := hid this;have heb : (t'.toList == (s.extract 0 1).toList) = false := by
    rw [beq_eq_false_iff_ne, ByteArray.toList_eq, ByteArray.toList_eq, data_extract]; simpa using heq
   clear this hok hte heq ht';go_wp2_with fail
   go_ret2;exact ⟨_, _, rfl, hid HT.out.1.out.symm, hid HT.out.2.out.symm, then_ hb hb2⟩
 ·have hand := byte_and (fun c => decide (194 <= c.toNat) && decide (c.toNat < 224)) 31 x hx0 (by have := bOf_toNat x hx0.1 hx0.2; simp; omega) (by decide +kernel);obtain ⟨h, hh⟩ := xE (headI x);have hhb : 0 <= h /\ h <= 31 := by rw [<- hh]; unfold headI; (repeat' split) <;> omega
  rw [hh] at hand;have Hh := hid hh;clear hh;by_cases hbig : (s.size : Int) < 2
  ·go_wp2
   go_ret2;have := HBig.out (.inl hbig);exact ⟨_, _, rfl, hid this.1.symm, hid this.2.symm, Below.refl _ _⟩
  go_wp2_with (go_quiet (fail))
  clear hand;go_loopw [6, 7] (fun c i wr => ∃ (k : Nat) (y : Int), 1 <= k /\ k <= 2 /\ i = .int .i64 k /\ c = .int .i64 y /\ Hid (y = foldC h (t.take (k - 1))) /\ 0 <= y /\ (k = 1 -> y <= 127) /\ (k = 2 -> y <= 8191) /\ (k = 3 -> y <= 524287) /\ (k = 4 -> y <= 33554431) /\ Below w.heap.size w wr) (fun _ i _ => 2 - (intOf i).toNat)
  case atStart => exact ⟨1, h, by omega, by omega, rfl, rfl, hid rfl, hhb.1, fun _ => by omega, fun h => by omega, fun h => by omega, fun h => by omega, below_drewN (by go_grown) _⟩
  obtain ⟨k, y, hk1, hk2, rfl, rfl, hy, hy0, hy1, hy2, hy3, hy4, hb⟩ := hrel;by_cases hlt : k < 2
  ·have hks : k < s.size := by omega
   obtain ⟨z, hz⟩ : ∃ z : Int, ((s[k]'hks).toNat : Int) = z := ⟨_, rfl⟩
   have hz0 : 0 <= z /\ z <= 255 := by have := (s[k]'hks).toNat_lt; omega
   have Ht : Hid (∃ h' : k - 1 < t.length, (t[k - 1].toNat : Int) = z) := hid (by
    have e1 := data_get s k hks (by rw [Hlen.out]; exact hks);have e2 := Hlen.out;rw [Hat.out] at e2;have e3 : k - 1 < t.length := by simp at e2; omega
    refine ⟨e3, ?_⟩;rw [<- hz, <- e1];obtain ⟨k', rfl⟩ : ∃ k', k = k' + 1 := ⟨k - 1, by omega⟩
    simp [Hat.out])
   have hyb : y <= 524287 := by
    rcases (show k = 1 ∨ k = 2 ∨ k = 3 by omega) with e | e | e
    ·have := hy1 e; omega
    ·have := hy2 e; omega
    have := hy3 e; omega
   have HY := hid (show (k = 1 -> y <= 127) /\ (k = 2 -> y <= 8191) /\ (k = 3 -> y <= 524287) from ⟨hy1, hy2, hy3⟩);have HBad : Hid ((z < 128 ∨ 191 < z) -> decC s.data.toList = -1 /\ ((decN s.data.toList : Nat) : Int) = 1) := hid (fun hq => HB.out (fun g => by
    obtain ⟨a', t', n', e1, e2, e3, e4, e5, _⟩ := G.out g;rw [Hat.out] at e1; injection e1 with e1 e1'; subst e1; subst e1'
    rw [Hx.out, Hn.out] at e2;obtain rfl : n' = 2 := by omega
    obtain ⟨g1, g2⟩ := Ht.out;have := e5 t[k - 1] (by rw [List.mem_take_iff_getElem]; exact ⟨k - 1, by omega, rfl⟩);omega))
   clear hy1 hy2 hy3 hy4;rcases (show (z < 128 ∨ 191 < z) ∨ (128 <= z /\ z <= 191) by omega) with hq | hq
   ·go_wp2_with fail
    all_goals go_ret2
    all_goals exact ⟨_, _, rfl, hid (HBad.out hq).1.symm, hid (HBad.out hq).2.symm, hb⟩
   go_wp2_with fail
   go_roundw
   case rel =>
    refine ⟨k + 1, y * 64 + z - 128, by omega, by omega, by go_num, by go_num, hid ?_, by omega, fun h => by omega, fun e => ?_, fun e => ?_, fun e => ?_, hb⟩
    ·obtain ⟨g1, g2⟩ := Ht.out;obtain ⟨k', rfl⟩ : ∃ k', k = k' + 1 := ⟨k - 1, by omega⟩
     rw [show k' + 1 + 1 - 1 = k' + 1 by omega, take_one t k' (by simpa using g1), foldC_snoc];have := hy.out;rw [show k' + 1 - 1 = k' by omega] at this;rw [this];have g3 : (t[k'].toNat : Int) = z := g2;rw [g3]
    ·have := HY.out.1 (by omega); omega
    ·have := HY.out.2.1 (by omega); omega
    have := HY.out.2.2 (by omega); omega
   simp [intOf]; omega
  obtain rfl : k = 2 := by omega
  have hyb : y <= 33554431 := by omega
  clear hy1 hy2 hy3 hy4;go_wp2_with (go_at_call 124; refine (refEncode_any y (by omega) (by omega) _).mono ?_)
  rintro e w2 ⟨t', r, rfl, ht', hr, hb2⟩;have HG : Hid (Good s.data.toList -> encOk y = true /\ Lib.encodeRune y = s.data.toList.take 2) := hid (fun g => by
   obtain ⟨a', t'', n', e1, e2, e3, e4, e5, e6, e7⟩ := G.out g;rw [Hat.out] at e1; injection e1 with e1 e1'; subst e1; subst e1'
   rw [Hx.out, Hn.out] at e2;obtain rfl : n' = 2 := by omega
   rw [Hx.out, Hh.out] at e6 e7;have e8 := hy.out;rw [e8]; exact ⟨e6, e7⟩)
  cases hok : encOk y with
  | false =>
   obtain rfl : r = 4 := by rw [hr.out]; unfold encE; rw [hok]; rfl
   have this := HB.out (fun g => by have := (HG.out g).1; rw [hok] at this; cases this);have HT := hid this;clear this hok;go_wp2_with fail
   go_ret2;exact ⟨_, _, rfl, hid HT.out.1.out.symm, hid HT.out.2.out.symm, then_ hb hb2⟩
  | true =>
   obtain rfl : r = 0 := by rw [hr.out]; unfold encE; rw [hok]; rfl
   have hte : t'.data.toList = Lib.encodeRune y := by rw [ht'.out]; unfold encL; rw [hok]; rfl
   by_cases heq : t'.data.toList = s.data.toList.take 2
   ·have this := good_is s.data.toList y hok 2 (by rw [<- hte, heq]) (by rw [Hlen.out]; omega);have HT := hid this;have heb : t' = s.extract 0 2 := bytes_eq (by rw [heq, data_extract]; simp);have Hte := hid hte;clear this hok hte heq ht';subst heb;go_wp2_with fail
    go_ret2;exact ⟨_, _, rfl, hid HT.out.1.symm, hid (by rw [HT.out.2]; rfl), then_ hb hb2⟩
   have this := HB.out (fun g => by have := (HG.out g).2; rw [<- hte] at this; exact heq this);have HT := hid this;have heb : (t'.toList == (s.extract 0 2).toList) = false := by
    rw [beq_eq_false_iff_ne, ByteArray.toList_eq, ByteArray.toList_eq, data_extract]; simpa using heq
   clear this hok hte heq ht';go_wp2_with fail
   go_ret2;exact ⟨_, _, rfl, hid HT.out.1.out.symm, hid HT.out.2.out.symm, then_ hb hb2⟩
 ·have hand := byte_and (fun c => decide (224 <= c.toNat) && decide (c.toNat < 240)) 15 x hx0 (by have := bOf_toNat x hx0.1 hx0.2; simp; omega) (by decide +kernel);obtain ⟨h, hh⟩ := xE (headI x);have hhb : 0 <= h /\ h <= 15 := by rw [<- hh]; unfold headI; (repeat' split) <;> omega
  rw [hh] at hand;have Hh := hid hh;clear hh;by_cases hbig : (s.size : Int) < 3
  ·go_wp2
   go_ret2;have := HBig.out (.inl hbig);exact ⟨_, _, rfl, hid this.1.symm, hid this.2.symm, Below.refl _ _⟩
  go_wp2_with (go_quiet (fail))
  clear hand;go_loopw [6, 7] (fun c i wr => ∃ (k : Nat) (y : Int), 1 <= k /\ k <= 3 /\ i = .int .i64 k /\ c = .int .i64 y /\ Hid (y = foldC h (t.take (k - 1))) /\ 0 <= y /\ (k = 1 -> y <= 127) /\ (k = 2 -> y <= 8191) /\ (k = 3 -> y <= 524287) /\ (k = 4 -> y <= 33554431) /\ Below w.heap.size w wr) (fun _ i _ => 3 - (intOf i).toNat)
  case atStart => exact ⟨1, h, by omega, by omega, rfl, rfl, hid rfl, hhb.1, fun _ => by omega, fun h => by omega, fun h => by omega, fun h => by omega, below_drewN (by go_grown) _⟩
  obtain ⟨k, y, hk1, hk2, rfl, rfl, hy, hy0, hy1, hy2, hy3, hy4, hb⟩ := hrel;by_cases hlt : k < 3
  ·have hks : k < s.size := by omega
   obtain ⟨z, hz⟩ : ∃ z : Int, ((s[k]'hks).toNat : Int) = z := ⟨_, rfl⟩
   have hz0 : 0 <= z /\ z <= 255 := by have := (s[k]'hks).toNat_lt; omega
   have Ht : Hid (∃ h' : k - 1 < t.length, (t[k - 1].toNat : Int) = z) := hid (by
    have e1 := data_get s k hks (by rw [Hlen.out]; exact hks);have e2 := Hlen.out;rw [Hat.out] at e2;have e3 : k - 1 < t.length := by simp at e2; omega
    refine ⟨e3, ?_⟩;rw [<- hz, <- e1];obtain ⟨k', rfl⟩ : ∃ k', k = k' + 1 := ⟨k - 1, by omega⟩
    simp [Hat.out])
   have hyb : y <= 524287 := by
    rcases (show k = 1 ∨ k = 2 ∨ k = 3 by omega) with e | e | e
    ·have := hy1 e; omega
    ·have := hy2 e; omega
    have := hy3 e; omega
   have HY := hid (show (k = 1 -> y <= 127) /\ (k = 2 -> y <= 8191) /\ (k = 3 -> y <= 524287) from ⟨hy1, hy2, hy3⟩);have HBad : Hid ((z < 128 ∨ 191 < z) -> decC s.data.toList = -1 /\ ((decN s.data.toList : Nat) : Int) = 1) := hid (fun hq => HB.out (fun g => by
    obtain ⟨a', t', n', e1, e2, e3, e4, e5, _⟩ := G.out g;rw [Hat.out] at e1; injection e1 with e1 e1'; subst e1; subst e1'
    rw [Hx.out, Hn.out] at e2;obtain rfl : n' = 3 := by omega
    obtain ⟨g1, g2⟩ := Ht.out;have := e5 t[k - 1] (by rw [List.mem_take_iff_getElem]; exact ⟨k - 1, by omega, rfl⟩);omega))
   clear hy1 hy2 hy3 hy4;rcases (show (z < 128 ∨ 191 < z) ∨ (128 <= z /\ z <= 191) by omega) with hq | hq
   ·go_wp2_with fail
    all_goals go_ret2
    all_goals exact ⟨_, _, rfl, hid (HBad.out hq).1.symm, hid (HBad.out hq).2.symm, hb⟩
   go_wp2_with fail
   go_roundw
   case rel =>
    refine ⟨k + 1, y * 64 + z - 128, by omega, by omega, by go_num, by go_num, hid ?_, by omega, fun h => by omega, fun e => ?_, fun e => ?_, fun e => ?_, hb⟩
    ·obtain ⟨g1, g2⟩ := Ht.out;obtain ⟨k', rfl⟩ : ∃ k', k = k' + 1 := ⟨k - 1, by omega⟩
     rw [show k' + 1 + 1 - 1 = k' + 1 by omega, take_one t k' (by simpa using g1), foldC_snoc];have := hy.out;rw [show k' + 1 - 1 = k' by omega] at this;rw [this];have g3 : (t[k'].toNat : Int) = z := g2;rw [g3]
    ·have := HY.out.1 (by omega); omega
    ·have := HY.out.2.1 (by omega); omega
    have := HY.out.2.2 (by omega); omega
   simp [intOf]; omega
  obtain rfl : k = 3 := by omega
  have hyb : y <= 33554431 := by omega
  clear hy1 hy2 hy3 hy4;go_wp2_with (go_at_call 124; refine (refEncode_any y (by omega) (by omega) _).mono ?_)
  rintro e w2 ⟨t', r, rfl, ht', hr, hb2⟩;have HG : Hid (Good s.data.toList -> encOk y = true /\ Lib.encodeRune y = s.data.toList.take 3) := hid (fun g => by
   obtain ⟨a', t'', n', e1, e2, e3, e4, e5, e6, e7⟩ := G.out g;rw [Hat.out] at e1; injection e1 with e1 e1'; subst e1; subst e1'
   rw [Hx.out, Hn.out] at e2;obtain rfl : n' = 3 := by omega
   rw [Hx.out, Hh.out] at e6 e7;have e8 := hy.out;rw [e8]; exact ⟨e6, e7⟩)
  cases hok : encOk y with
  | false =>
   obtain rfl : r = 4 := by rw [hr.out]; unfold encE; rw [hok]; rfl
   have this := HB.out (fun g => by have := (HG.out g).1; rw [hok] at this; cases this);have HT := hid this;clear this hok;go_wp2_with fail
   go_ret2;exact ⟨_, _, rfl, hid HT.out.1.out.symm, hid HT.out.2.out.symm, then_ hb hb2⟩
  | true =>
   obtain rfl : r = 0 := by rw [hr.out]; unfold encE; rw [hok]; rfl
   have hte : t'.data.toList = Lib.encodeRune y := by rw [ht'.out]; unfold encL; rw [hok]; rfl
   by_cases heq : t'.data.toList = s.data.toList.take 3
   ·have this := good_is s.data.toList y hok 3 (by rw [<- hte, heq]) (by rw [Hlen.out]; omega);have HT := hid this;have heb : t' = s.extract 0 3 := bytes_eq (by rw [heq, data_extract]; simp);have Hte := hid hte;clear this hok hte heq ht';subst heb;go_wp2_with fail
    go_ret2;exact ⟨_, _, rfl, hid HT.out.1.symm, hid (by rw [HT.out.2]; rfl), then_ hb hb2⟩
   have this := HB.out (fun g => by have := (HG.out g).2; rw [<- hte] at this; exact heq this);have HT := hid this;have heb : (t'.toList == (s.extract 0 3).toList) = false := by
    rw [beq_eq_false_iff_ne, ByteArray.toList_eq, ByteArray.toList_eq, data_extract]; simpa using heq
   clear this hok hte heq ht';go_wp2_with fail
   go_ret2;exact ⟨_, _, rfl, hid HT.out.1.out.symm, hid HT.out.2.out.symm, then_ hb hb2⟩
 have hand := byte_and (fun c => decide (240 <= c.toNat) && decide (c.toNat < 245)) 7 x hx0 (by have := bOf_toNat x hx0.1 hx0.2; simp; omega) (by decide +kernel)
 obtain ⟨h, hh⟩ := xE (headI x)
 have hhb : 0 <= h /\ h <= 7 := by rw [<- hh]; unfold headI; (repeat' split) <;> omega
 rw [hh] at hand
 have Hh := hid hh
 clear hh
 by_cases hbig : (s.size : Int) < 4
 ·go_wp2
  go_ret2;have := HBig.out (.inl hbig);exact ⟨_, _, rfl, hid this.1.symm, hid this.2.symm, Below.refl _ _⟩
 go_wp2_with (go_quiet (fail))
 clear hand
 go_loopw [6, 7] (fun c i wr => ∃ (k : Nat) (y : Int), 1 <= k /\ k <= 4 /\ i = .int .i64 k /\ c = .int .i64 y /\ Hid (y = foldC h (t.take (k - 1))) /\ 0 <= y /\ (k = 1 -> y <= 127) /\ (k = 2 -> y <= 8191) /\ (k = 3 -> y <= 524287) /\ (k = 4 -> y <= 33554431) /\ Below w.heap.size w wr) (fun _ i _ => 4 - (intOf i).toNat)
 case atStart => exact ⟨1, h, by omega, by omega, rfl, rfl, hid rfl, hhb.1, fun _ => by omega, fun h => by omega, fun h => by omega, fun h => by omega, below_drewN (by go_grown) _⟩
 obtain ⟨k, y, hk1, hk2, rfl, rfl, hy, hy0, hy1, hy2, hy3, hy4, hb⟩ := hrel
 by_cases hlt : k < 4
 ·have hks : k < s.size := by omega
  obtain ⟨z, hz⟩ : ∃ z : Int, ((s[k]'hks).toNat : Int) = z := ⟨_, rfl⟩
  have hz0 : 0 <= z /\ z <= 255 := by have := (s[k]'hks).toNat_lt; omega
  have Ht : Hid (∃ h' : k - 1 < t.length, (t[k - 1].toNat : Int) = z) := hid (by
   have e1 := data_get s k hks (by rw [Hlen.out]; exact hks);have e2 := Hlen.out;rw [Hat.out] at e2;have e3 : k - 1 < t.length := by simp at e2; omega
   refine ⟨e3, ?_⟩;rw [<- hz, <- e1];obtain ⟨k', rfl⟩ : ∃ k', k = k' + 1 := ⟨k - 1, by omega⟩
   simp [Hat.out])
  have hyb : y <= 524287 := by
   rcases (show k = 1 ∨ k = 2 ∨ k = 3 by omega) with e | e | e
   ·have := hy1 e; omega
   ·have := hy2 e; omega
   have := hy3 e; omega
  have HY := hid (show (k = 1 -> y <= 127) /\ (k = 2 -> y <= 8191) /\ (k = 3 -> y <= 524287) from ⟨hy1, hy2, hy3⟩);have HBad : Hid ((z < 128 ∨ 191 < z) -> decC s.data.toList = -1 /\ ((decN s.data.toList : Nat) : Int) = 1) := hid (fun hq => HB.out (fun g => by
   obtain ⟨a', t', n', e1, e2, e3, e4, e5, _⟩ := G.out g;rw [Hat.out] at e1; injection e1 with e1 e1'; subst e1; subst e1'
   rw [Hx.out, Hn.out] at e2;obtain rfl : n' = 4 := by omega
   obtain ⟨g1, g2⟩ := Ht.out;have := e5 t[k - 1] (by rw [List.mem_take_iff_getElem]; exact ⟨k - 1, by omega, rfl⟩);omega))
  clear hy1 hy2 hy3 hy4;rcases (show (z < 128 ∨ 191 < z) ∨ (128 <= z /\ z <= 191) by omega) with hq | hq
  ·go_wp2_with fail
   all_goals go_ret2
   all_goals exact ⟨_, _, rfl, hid (HBad.out hq).1.symm, hid (HBad.out hq).2.symm, hb⟩
  go_wp2_with fail
  go_roundw
  case rel =>
   refine ⟨k + 1, y * 64 + z - 128, by omega, by omega, by go_num, by go_num, hid ?_, by omega, fun h => by omega, fun e => ?_, fun e => ?_, fun e => ?_, hb⟩
   ·obtain ⟨g1, g2⟩ := Ht.out;obtain ⟨k', rfl⟩ : ∃ k', k = k' + 1 := ⟨k - 1, by omega⟩
    rw [show k' + 1 + 1 - 1 = k' + 1 by omega, take_one t k' (by simpa using g1), foldC_snoc];have := hy.out;rw [show k' + 1 - 1 = k' by omega] at this;rw [this];have g3 : (t[k'].toNat : Int) = z := g2;rw [g3]
   ·have := HY.out.1 (by omega); omega
   ·have := HY.out.2.1 (by omega); omega
   have := HY.out.2.2 (by omega); omega
  simp [intOf]; omega
 obtain rfl : k = 4 := by omega
 have hyb : y <= 33554431 := by omega
 clear hy1 hy2 hy3 hy4
 go_wp2_with (go_at_call 124; refine (refEncode_any y (by omega) (by omega) _).mono ?_)
 rintro e w2 ⟨t', r, rfl, ht', hr, hb2⟩
 have HG : Hid (Good s.data.toList -> encOk y = true /\ Lib.encodeRune y = s.data.toList.take 4) := hid (fun g => by
  obtain ⟨a', t'', n', e1, e2, e3, e4, e5, e6, e7⟩ := G.out g;rw [Hat.out] at e1; injection e1 with e1 e1'; subst e1; subst e1'
  rw [Hx.out, Hn.out] at e2;obtain rfl : n' = 4 := by omega
  rw [Hx.out, Hh.out] at e6 e7;have e8 := hy.out;rw [e8]; exact ⟨e6, e7⟩)
 cases hok : encOk y with
 | false =>
  obtain rfl : r = 4 := by rw [hr.out]; unfold encE; rw [hok]; rfl
  have this := HB.out (fun g => by have := (HG.out g).1; rw [hok] at this; cases this);have HT := hid this;clear this hok;go_wp2_with fail
  go_ret2;exact ⟨_, _, rfl, hid HT.out.1.out.symm, hid HT.out.2.out.symm, then_ hb hb2⟩
 | true =>
  obtain rfl : r = 0 := by rw [hr.out]; unfold encE; rw [hok]; rfl
  have hte : t'.data.toList = Lib.encodeRune y := by rw [ht'.out]; unfold encL; rw [hok]; rfl
  by_cases heq : t'.data.toList = s.data.toList.take 4
  ·have this := good_is s.data.toList y hok 4 (by rw [<- hte, heq]) (by rw [Hlen.out]; omega);have HT := hid this;have heb : t' = s.extract 0 4 := bytes_eq (by rw [heq, data_extract]; simp);have Hte := hid hte;clear this hok hte heq ht';subst heb;go_wp2_with fail
   go_ret2;exact ⟨_, _, rfl, hid HT.out.1.symm, hid (by rw [HT.out.2]; rfl), then_ hb hb2⟩
  have this := HB.out (fun g => by have := (HG.out g).2; rw [<- hte] at this; exact heq this);have HT := hid this;have heb : (t'.toList == (s.extract 0 4).toList) = false := by
   rw [beq_eq_false_iff_ne, ByteArray.toList_eq, ByteArray.toList_eq, data_extract]; simpa using heq
  clear this hok hte heq ht';go_wp2_with fail
  go_ret2;exact ⟨_, _, rfl, hid HT.out.1.out.symm, hid HT.out.2.out.symm, then_ hb hb2⟩
end Go.Proofs.YtkcnmjdomipbjaaGreat
