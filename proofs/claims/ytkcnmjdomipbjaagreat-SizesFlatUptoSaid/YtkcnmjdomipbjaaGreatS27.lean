import Derived.Test.YtkcnmjdomipbjaaGreatS20
set_option linter.unusedVariables false
set_option maxHeartbeats 100000000
set_option maxRecDepth 100000
namespace Go.Proofs.YtkcnmjdomipbjaaGreat
open Go.RowKit
theorem check13_any (k : Int) (el at_ : ByteArray) (dl : Int) (pe rf : ByteArray) (pa : Int) (wd : ByteArray) (w : World) (hok : StOk 1048576 el at_ pe rf wd) : Calls Tryz.prog 74 #[.agg #[.int .i64 k, .string el, .string at_, .int .u8 dl, .string pe, .string rf, .int .i64 pa, .string wd]] w (PChk (StOk 40 el at_ pe rf wd) w) := by
 have HL := hid (fun W => language_any k el at_ dl pe rf pa wd W hok.1 hok.2.1)
 obtain ⟨z1, z2, z3, z4, z5⟩ := hok
 have Hb := hid (alloc_below w (.cells #[.int .i64 k, .string el, .string at_, .int .u8 dl, .string pe, .string rf, .int .i64 pa, .string wd] 32))
 have HB := hid (Blk.new w 32 #[.int .i64 k, .string el, .string at_, .int .u8 dl, .string pe, .string rf, .int .i64 pa, .string wd])
 obtain ⟨W, hW⟩ := xE (w.alloc (.cells #[.int .i64 k, .string el, .string at_, .int .u8 dl, .string pe, .string rf, .int .i64 pa, .string wd] 32))
 obtain ⟨pt, hpt⟩ := xE w.heap.size
 rw [hW] at HB Hb
 rw [hpt] at HB
 have hlt := HB.out.lt
 obtain ⟨⟨c0, c1, c2, c3, c4, c5, c6, c7⟩, _⟩ := st_cells HB.out
 by_cases hk : k < 0
 ·go_enter Tryz.func74, Tryz.ntmps74;go_wp2_with fail
  go_ret;exact ⟨_, rfl, fun h => absurd h (by decide), Hb.out⟩
 by_cases hk2 : 19 < k
 ·go_enter Tryz.func74, Tryz.ntmps74;go_wp2_with fail
  go_ret;exact ⟨_, rfl, fun h => absurd h (by decide), Hb.out⟩
 obtain ⟨q0, e0⟩ := xE (k == 0)
 obtain ⟨q9, e9⟩ := xE (k == 9)
 obtain ⟨q10, e10⟩ := xE (k == 10)
 obtain ⟨q17, e17⟩ := xE (k == 17)
 have e9' : (k != 9) = !q9 := by rw [bne, e9]
 obtain ⟨r34, d34⟩ := xE (dl != 34)
 obtain ⟨r39, d39⟩ := xE (dl != 39)
 obtain ⟨r0, d0⟩ := xE (dl != 0)
 obtain ⟨p0, f0⟩ := xE (pa != 0)
 go_enter Tryz.func74, Tryz.ntmps74
 go_upto_region 4 with fail
 clear hW hpt
 go_cut [4] from 15 (fun v wx => (∃ b : Bool, v = .bool b) /\ wx = W)
 case first =>
  as_aux_lemma =>
   go_wp2_with fail
   all_goals (go_meet <;> exact ⟨⟨_, rfl⟩, rfl⟩)
 obtain ⟨⟨b4, rfl⟩, rfl⟩ := hcut
 go_upto_region 5 with fail
 go_cut [5] from 25 (fun v wx => (∃ b : Bool, v = .bool b) /\ wx = wc)
 case first =>
  as_aux_lemma =>
   go_wp2_with fail
   all_goals (go_meet <;> exact ⟨⟨_, rfl⟩, rfl⟩)
 obtain ⟨⟨b5, rfl⟩, rfl⟩ := hcut
 go_upto_region 6 with fail
 go_cut [6] from 31 (fun v wx => (∃ b : Bool, v = .bool b) /\ wx = wc)
 case first =>
  as_aux_lemma =>
   go_wp2_with fail
   all_goals (go_meet <;> exact ⟨⟨_, rfl⟩, rfl⟩)
 obtain ⟨⟨b6, rfl⟩, rfl⟩ := hcut
 go_upto_region 7 with fail
 by_cases hs : StOk 40 el at_ pe rf wd
 ·go_cut [45] from 46 (fun v wx => (∃ b : Bool, v = .bool b) /\ wx = wc)
  case first =>
   as_aux_lemma =>
    go_wp2_with fail
    all_goals (go_meet <;> exact ⟨⟨_, rfl⟩, rfl⟩)
  obtain ⟨⟨b45, rfl⟩, rfl⟩ := hcut;cases b45 with
  | true =>
   go_wp2_with fail
   go_ret;exact ⟨_, rfl, fun _ => (by first | exact hs | trivial), Hb.out⟩
  | false =>
   go_upto_region 9 with fail
   go_cut [74] from 75 (fun v wx => (∃ b : Bool, v = .bool b) /\ wx = wc)
   case first =>
    as_aux_lemma =>
     go_wp2_with fail
     all_goals (go_meet <;> exact ⟨⟨_, rfl⟩, rfl⟩)
   obtain ⟨⟨b74, rfl⟩, rfl⟩ := hcut;cases b74 with
   | true =>
    go_wp2_with fail
    go_ret;exact ⟨_, rfl, fun _ => (by first | exact hs | trivial), Hb.out⟩
   | false =>
    go_upto_region 11 with fail
    go_cut [4, 5, 6, 83] from 84 (fun v4 v5 v6 v wx => (∃ b : Bool, v = .bool b) /\ wx = wc /\ (∃ b : Bool, v4 = .bool b) /\ (∃ b : Bool, v5 = .bool b) /\ (∃ b : Bool, v6 = .bool b))
    case first =>
     as_aux_lemma =>
      go_wp2_with fail
      all_goals (go_meet <;> exact ⟨⟨_, rfl⟩, rfl, ⟨_, rfl⟩, ⟨_, rfl⟩, ⟨_, rfl⟩⟩)
    obtain ⟨⟨b83, rfl⟩, rfl, ⟨b4', rfl⟩, ⟨b5', rfl⟩, ⟨b6', rfl⟩⟩ := hcut;cases b83 with
    | true =>
     go_wp2_with fail
     go_ret;exact ⟨_, rfl, fun _ => (by first | exact hs | trivial), Hb.out⟩
    | false =>
     go_upto_region 13 with fail
     go_cut [118] from 119 (fun v wx => (∃ b : Bool, v = .bool b) /\ wx = wc)
     case first =>
      as_aux_lemma =>
       go_wp2_with fail
       all_goals (go_meet <;> exact ⟨⟨_, rfl⟩, rfl⟩)
     obtain ⟨⟨b118, rfl⟩, rfl⟩ := hcut;cases b118 with
     | true =>
      go_wp2_with fail
      go_ret;exact ⟨_, rfl, fun _ => (by first | exact hs | trivial), Hb.out⟩
     | false =>
      go_upto_region 15 with fail
      go_wp2_with (go_at_call 77; refine (HL.out _).mono ?_; rintro e w2 ⟨r, rfl, hb2⟩; have HB2 := hid (HB.out.below hb2 hlt); obtain ⟨⟨g0, g1, g2, g3, g4, g5, g6, g7⟩, _⟩ := st_cells HB2.out)
      all_goals
       go_ret;exact ⟨_, rfl, fun _ => (by first | exact hs | trivial), Hb.out.trans (hb2.mono Hb.out.size)⟩
 have hbig : 33 < (el.size : Int) ∨ 32 < (at_.size : Int) ∨ 34 < (pe.size : Int) ∨ 16 < (rf.size : Int) ∨ 16 < (wd.size : Int) := by
  unfold StOk at hs; omega
 go_cut [45] from 46 (fun v wx => v = .bool true /\ wx = wc)
 case first =>
  as_aux_lemma =>
   by_cases y1 : 33 < (el.size : Int)
   ·go_wp2_with fail
    go_meet;exact ⟨rfl, rfl⟩
   by_cases y2 : 32 < (at_.size : Int)
   ·go_wp2_with fail
    go_meet;exact ⟨rfl, rfl⟩
   by_cases y3 : 34 < (pe.size : Int)
   ·go_wp2_with fail
    go_meet;exact ⟨rfl, rfl⟩
   by_cases y4 : 16 < (rf.size : Int)
   ·go_wp2_with fail
    go_meet;exact ⟨rfl, rfl⟩
   have y5 : 16 < (wd.size : Int) := by omega
   go_wp2_with fail
   go_meet;exact ⟨rfl, rfl⟩
 obtain ⟨rfl, rfl⟩ := hcut
 go_wp2_with fail
 go_ret
 exact ⟨_, rfl, fun h => absurd h (by decide), Hb.out⟩
end Go.Proofs.YtkcnmjdomipbjaaGreat
