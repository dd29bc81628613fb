import Derived.Deep.Cut
import Derived.Test.YtkcnmjdomipbjaaGreatS20
import Derived.Test.YtkcnmjdomipbjaaGreatS22
set_option linter.unusedVariables false
set_option maxHeartbeats 100000000
set_option maxRecDepth 100000
namespace Go.Proofs.YtkcnmjdomipbjaaGreat
open Go.RowKit
def WdOk (i : It) : Prop := i.x.size <= 1048576 /\ (i.k = 3 -> 1 <= i.x.size)
def PWords (n : Nat) (w : World) (e : Ending) (w' : World) : Prop := ∃ (A : Option Addr) (c : Nat) (ws : List It) (p er : Int), e = .returned (.tuple #[.slice A ws.length c, .int .i64 p, .int .i64 er]) /\ ws.length <= c /\ DtN 0 w.heap.size w' (.slice A ws.length c) (.rows 3 (ws.map It.row)) /\ (∀ i ∈ ws, WdOk i) /\ ws.length <= n /\ Below w.heap.size w w'
theorem OwnN.cap {b0 lo base sz n c : Nat} {w : World} {e : TypeId} {A : Option Addr} {l : List (List Dt)} (h : OwnN b0 lo w base e sz (.slice A n c) l) : n <= c := by
 obtain ⟨xs, h1, _⟩ := h
 rcases h1.2 with ⟨h2, h3⟩ | ⟨g, cap, cur, h2, _, _, h3, _⟩
 ·cases h2; exact Nat.le_refl _
 cases h2; exact h3
theorem words_any (s : ByteArray) (bs : Int) (w : World) (hs : s.size <= 1048576) : Calls Tryz.prog 56 #[.string s, .int .i64 bs] w (PWords s.size w) := by
 have HK := hid (fun a ha W => skip_any s a W (by omega) ha)
 have HW := hid (fun a ha W => word18_any s a W (by omega) ha)
 have HK0 := hid (HK.out 0 (by omega))
 go_enter Tryz.func56, Tryz.ntmps56
 go_wp2_with (go_at_call 34; refine (HK0.out _).mono ?_; rintro e w1 ⟨r, rfl, _, hr2, hw⟩; obtain rfl := hw)
 go_loopw [7, 8] (fun v i wr => ∃ (k : Nat) (ws : List It), k <= s.size /\ i = .int .i64 (k : Int) /\ ws.length <= k /\ (∀ i ∈ ws, WdOk i) /\ OwnN 0 w1.heap.size wr w1.heap.size 128 3 v (ws.map It.row) /\ Below w1.heap.size w1 wr) (fun _ i _ => s.size - (intOf i).toNat)
 case atStart => exact ⟨r, [], by omega, rfl, Nat.zero_le _, (fun _ h => by cases h), OwnN.nil, Below.refl _ _⟩
 obtain ⟨k, ws, hk, rfl, hl, hws, hO, hb⟩ := hrel
 have HO := hid hO
 have Hws := hid hws
 obtain ⟨A, c, rfl⟩ := hO.shape (n := ws.length) (by simp)
 clear hO hws
 by_cases hlt : k < s.size
 ·have hli : (k : Int) < s.size := by omega
  have HW1 := hid (HW.out k hlt);go_upto_region 5 with (go_at_call 72; refine (HW1.out _).mono ?_; rintro e w3 ⟨kk, t, ap, to_, er, pl, rfl, ht, hto, hb3⟩)
  obtain ⟨q, hq⟩ := xE (er != 0);cases q
  ·obtain ⟨hk3, m, hm, hm1, hm2⟩ := hto (by simpa using hq);subst hm;have HK1 := hid (HK.out m (by omega));go_upto_region 8 with fail
   obtain ⟨np, hnp⟩ := xE (wrap64 (bs + (k : Int)));obtain ⟨w5, hw5⟩ := xE (w3.alloc (.cells #[.int .i64 kk, .string t, .int .i64 np] 128));have hbb5 : Below wr.heap.size wr w5 := by rw [<- hw5]; exact hb3.trans ((alloc_below w3 _).mono hb3.size)
   have HX5 : Hid (Blk w5 w3.heap.size 128 #[.int .i64 kk, .string t, .int .i64 np]) := hid (by rw [<- hw5]; exact Blk.new w3 _ _);have HO5 := hid (OwnN.below HO.out hbb5);have hb5 : Below w1.heap.size w1 w5 := hb.trans (hbb5.mono hb.size);have hs5 := hb5.size;rw [hnp, hw5];clear hw5 hnp hto hbb5 hb3 HW HW1 HO;obtain ⟨g5, hg5⟩ := xE w3.heap.size;rw [hg5] at HX5 ⊢;clear hg5;obtain ⟨⟨e0, e1, e2⟩, _⟩ := blk3_cells HX5.out
   go_wp2_with (first
    | (at_builtin; refine wpl_pushX rfl _ _ rfl Tryz.underlying78 info_Word HO5.out rfl (us := [.int .i64 kk, .string t, .int .i64 np]) (r := It.row ⟨kk, t, np⟩) ⟨_, _, rfl, DtV.int, _, _, rfl, DtV.str, _, _, rfl, DtV.int, rfl⟩ rfl rfl (by rw [List.length_map]; omega) hs5 ?_; intro v1 w6 hO6 hb6 _ _; rw [<- List.map_singleton (f := It.row), <- List.map_append] at hO6; have HO6 := hid hO6; clear hO6)
    | (go_at_call 34; refine (HK1.out _).mono ?_; rintro e w7 ⟨r2, rfl, hr3, hr4, hw⟩; obtain rfl := hw))
   go_roundw
   case rel => exact ⟨r2, ws ++ [⟨kk, t, np⟩], by omega, rfl, by simp; omega, allSnoc Hws.out ⟨by show t.size <= _; omega, hk3⟩, HO6.out, hb5.trans hb6⟩
   simp [intOf]; omega
  go_wp2_with fail
  go_ret3
  exact ⟨none, 0, [], _, _, rfl, Nat.le_refl _, DtV.none_, (fun _ h => by cases h), Nat.zero_le _, hb.trans ((hb3.trans ((alloc_below _ _).mono hb3.size)).mono hb.size)⟩
 have hlf : ¬ ((k : Int) < s.size) := by omega
 go_wp2_with fail
 go_ret3
 exact ⟨_, _, ws, _, _, rfl, OwnN.cap HO.out, OwnN.dt HO.out rfl (Nat.le_refl _), Hws.out, by omega, hb⟩
end Go.Proofs.YtkcnmjdomipbjaaGreat
