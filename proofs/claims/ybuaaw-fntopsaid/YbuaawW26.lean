import Derived.Test.YbuaawW23
import Derived.Test.YbuaawW25
import Derived.Test.YbuaawMem5
import Derived.Test.YbuaawPlain13
import Derived.Test.YbuaawW5
import Derived.Deep.DeepCutAuto
namespace Go.Proofs.Ybuaaw
open Go.RowKit
attribute [local go_sem] mk_size mk_toList mk_getElem mk_extract take_len_drop mk_append_lit

theorem inl_cells {n cap B : Nat} (mb moff : Nat) (mem : List Inl) (k : Nat) (hk : k < mem.length) : ∀ w' : World, Own w' B tInl (.slice (some ⟨mb, moff, none⟩) n cap) mem →
    w'.cell? ⟨mb, moff + k * 3, none⟩ = some (.int .i64 mem[k].kind) ∧ w'.cell? ⟨mb, moff + k * 3 + 1, none⟩ = some (.int .i64 mem[k].style) ∧ w'.cell? ⟨mb, moff + k * 3 + 2, none⟩ = some (.string (mk mem[k].text)) := by
  intro w' h
  obtain ⟨b, o, he, _, hc⟩ := h.rdd.inl k hk
  simp only [Option.some.injEq, Addr.mk.injEq] at he
  obtain ⟨rfl, rfl, -⟩ := he
  exact hc k hk
theorem own_cell {w : World} {B g n cap : Nat} (ms : List Inl) (h : Own w B tInt (.slice (some ⟨g, 0, none⟩) n cap) (ownL ms)) (q : Nat) (hq : q < tlen ms) : w.cell? ⟨g, q, none⟩ = some (.int .i64 (loc ms q : Nat)) := by
  have hq' : q < (ownL ms).length := by rw [ownL_len]; exact hq
  have := h.cellAt q hq' 0 (by simp [tInt])
  simpa [tInt, ownL_get] using this
theorem drewN_add (w : World) (a b : Nat) : (w.drewN a).drewN b = w.drewN (a + b) := by unfold World.drewN; simp [Nat.add_assoc]
theorem s59 {w' : World} {N g B L p q : Nat} {kd sty : Int} {txt l : List UInt8} (hal : Own w' B tByte (.slice (some ⟨g, 0, none⟩) L L) l) (hblk : w'.heap[N]? = some (.cells #[.int .i64 kd, .int .i64 sty, .string (mk txt)] 44 (0, 0))) (hp : p ≤ q) (hq : q ≤ l.length) :
    w'.cell? ⟨N, 0, none⟩ = some (.int .i64 kd) ∧ w'.cell? ⟨N, 1, none⟩ = some (.int .i64 sty) ∧ (convert 66 9 (.slice (some ⟨g, p, none⟩) (q - p) (L - p))).run Yaac.prog w' = .ok (.string (mk ((l.drop p).take (q - p)))) w' :=
  ⟨blk_cell hblk rfl, blk_cell hblk rfl, conv_rdd (hal.subB p q hp hq)⟩
def contQ (ms : List Inl) (p q E : Nat) : Bool := decide (q < E ∧ loc ms q = loc ms p)
theorem wd_len (ms : List Inl) (h : Wd ms) : ms.length ≤ tlen ms := by
  induction ms with
  | nil => simp
  | cons m ms ih =>
    have h1 := h m (by simp)
    have h2 : m.text.length ≠ 0 := fun e => h1 (List.eq_nil_of_length_eq_zero e)
    have h3 := ih (fun x hx => h x (by simp [hx]))
    simp only [List.length_cons, tlen]; omega

set_option maxRecDepth 100000 in
set_option maxHeartbeats 16000000 in
theorem layoutS_any (ps : List Inl) (n : Int) (v : Value) (B : Nat) (w : World) (hB : B ≤ w.heap.size) (h1 : Rdd w B tInl v ps) (hs : ps.length ≤ 4294967296) (ht : tlen ps ≤ 4294967296) (hn : n ≤ 9223372036854775807) :
    Calls Yaac.prog 40 #[v, .int .i64 n] w fun e w' => ∃ v', e = .returned v' ∧ Own w' w.heap.size tFrg v' (layout (wid n) ps) ∧ Below w.heap.size w w' := by
  obtain ⟨a1, c1, rfl, _, _⟩ := h1.shape
  have hW0 := wid_pos n
  have hWm : wid n ≤ 9223372036854775807 := by unfold wid; split <;> omega
  have hll := layout_len (wid n) hW0 ps
  have hwz := wsz_words ps
  have HWD : Hid (∀ x ∈ words ps, Wd x ∧ x ≠ []) := words_wd ps
  go_enter Yaac.func40, Yaac.ntmps40
  go_wp2_with (first
    | (go_at_call 43; refine (widS_any n _).mono ?_; rintro e w' ⟨rfl, hw⟩; replace hw := hw.symm; subst hw)
    | (go_at_call 49; refine (words_any ps _ B _ hB h1 hs).mono ?_; rintro e w1 ⟨v1, rfl, rs, hors, hrows, hb1⟩))
  generalize hWn : wid n = W at *
  have HW : Hid (wid n = W) := hWn
  clear hWn
  obtain ⟨ro, rcap, rfl⟩ := hors.shape
  have z1 := hb1.size
  have HLAY : Hid (lGo W (words ps) false 0 [] = layout W ps) := rfl
  have HRL : Hid (rs.length = (words ps).length) := hrows.1
  have hrsl : rs.length ≤ 17179869184 := by rw [HRL.out]; have := wsz_len (words ps); omega
  generalize words ps = ws at *
  go_wp2
  go_loopw [7, 8, 9, 10] (fun ov sv cv iv wr => ∃ (i col : Nat) (st : Bool) (out : List Frg), i ≤ rs.length ∧ iv = .int .i64 i ∧ cv = .int .i64 col ∧ sv = .bool st ∧ col + wsz (ws.drop i) ≤ wsz ws ∧ Own wr w1.heap.size tFrg ov out ∧ Below w1.heap.size w1 wr ∧ Hid (lGo W (ws.drop i) st col out = layout W ps)) (fun _ _ _ iv _ => rs.length - (intOf iv).toNat)
  case atStart => exact ⟨0, 0, false, [], Nat.zero_le _, rfl, rfl, rfl, by simp, Own.nil _ _ _, Below.refl _ _, HLAY⟩
  case round =>
    obtain ⟨i, col, st, out, hi, rfl, rfl, rfl, hcol, hor, hbel, hr⟩ := hrel
    obtain ⟨wx, rfl⟩ : ∃ wx : World, wx = wr := ⟨_, rfl⟩
    obtain ⟨qo, qcap, rfl⟩ := hor.shape
    have hz := hbel.size
    have hol : out.length ≤ (layout W ps).length := by rw [← hr.out]; exact lGo_out _ _ _ _ _
    by_cases hlt2 : i < rs.length
    · have hlt : i < ws.length := by rw [← HRL.out]; exact hlt2
      obtain ⟨b1, o1, rfl, hbb1, hc1⟩ := (hors.below hbel).rdd.row i hlt2
      have hd := hc1 i hlt2
      obtain ⟨hom, -⟩ := hrows.2 i hlt2 hlt
      clear hc1
      have i1 : (i : Int) < (rs.length : Int) := by omega
      rw [wsz_at ws i hlt] at hcol
      have hr2 := hr.out
      rw [lGo_at W ws i st col out hlt] at hr2
      obtain ⟨hwd, hne⟩ := HWD.out ws[i] (List.getElem_mem hlt)
      clear hr
      generalize ws[i] = mem at *
      generalize rs[i] = tri at *
      obtain ⟨mo, mn, mcap⟩ := tri
      unfold triV at hom
      simp only at hom hd
      obtain ⟨mo', mcap', he⟩ := hom.shape
      simp only [Value.slice.injEq] at he
      obtain ⟨rfl, rfl, rfl⟩ := he
      have hmp : 0 < mem.length := by cases mem with | nil => exact absurd rfl hne | cons _ _ => simp
      obtain ⟨mb, moff, rfl, hmb0, -⟩ := hom.rdd.inl 0 hmp
      have HWE : Hid (Wd mem) := hwd
      have hmll := wd_len mem hwd
      have HR2 : Hid _ := hr2
      have htm : tlen mem ≤ 17179869184 := by omega
      have homx := hom.below hbel
      clear hwd hne hr2
      go_wp2
      go_loop [12, 13] (fun lv kv => ∃ k : Nat, k ≤ mem.length ∧ kv = .int .i64 k ∧ lv = .int .i64 (tlen (mem.take k) : Nat) ∧ tlen (mem.take k) ≤ 17179869184) (fun _ kv => mem.length - (intOf kv).toNat)
      case atStart => exact ⟨0, Nat.zero_le _, rfl, by simp [tlen], by simp [tlen]⟩
      case round =>
        obtain ⟨k, hk, rfl, rfl, htk⟩ := hrel
        by_cases hkl : k < mem.length
        · obtain ⟨b5, o5, he, hb5', hc5⟩ := homx.rdd.inl k hkl
          simp only [Option.some.injEq, Addr.mk.injEq] at he
          obtain ⟨rfl, rfl, -⟩ := he
          have hd5 := hc5 k hkl
          clear hc5
          have ik : (k : Int) < (mem.length : Int) := by omega
          have HT : Hid (tlen (mem.take (k + 1)) = tlen (mem.take k) + mem[k].text.length) := tlen_take1 mem k hkl
          have htk2 : tlen (mem.take k) + mem[k].text.length ≤ 17179869184 := by
            have := tlen_take_le mem (k + 1)
            rw [HT.out] at this; omega
          generalize mem[k] = p at *
          obtain ⟨kd, sty, txt⟩ := p
          obtain ⟨f1, f2, f3⟩ := hd5
          simp only at f1 f2 f3 htk2 HT
          go_wp2
          go_round
          case rel => exact ⟨k + 1, by omega, by go_num, by rw [HT.out]; go_num, by rw [HT.out]; omega⟩
          case measure => simp [intOf]; omega
        · have ik : ¬ (k : Int) < (mem.length : Int) := by omega
          rw [List.take_of_length_le (by omega)] at htk ⊢
          clear htk
          by_cases hL : tlen mem ≤ W
          · have hLb : (tlen mem : Int) ≤ (W : Int) := by omega
            have hr3 := HR2.out
            rw [if_pos hL] at hr3
            have HR3 : Hid _ := hr3
            clear hr3 HR2
            have HOL : Hid ((out ++ fit (brF W st col (tlen mem)) mem).length ≤ (layout W ps).length) := by unfold Hid; rw [← HR3.out]; exact lGo_out _ _ _ _ _
            as_aux_lemma =>
              go_upto_if 61 with fail
              go_cut [14] (fun fv wc => fv = .int .i64 (brF W st col (tlen mem)) ∧ wc = wx)
              case first =>
                cases st with
                | false =>
                  have HF : Hid (brF W false col (tlen mem) = 0) := by simp [Hid, brF]
                  go_wp2
                  go_meet
                  case rel => exact ⟨by rw [HF.out], rfl⟩
                | true =>
                  by_cases hf : col + 1 + tlen mem ≤ W
                  · have hfb : (col : Int) + 1 + (tlen mem : Int) ≤ (W : Int) := by omega
                    have HF : Hid (brF W true col (tlen mem) = 1) := by unfold Hid brF; rw [if_pos rfl, if_pos hf]
                    go_wp2
                    go_meet
                    case rel => exact ⟨by rw [HF.out], rfl⟩
                  · have hfb : ¬ (col : Int) + 1 + (tlen mem : Int) ≤ (W : Int) := by omega
                    have HF : Hid (brF W true col (tlen mem) = 2) := by unfold Hid brF; rw [if_pos rfl, if_neg hf]
                    go_wp2
                    go_meet
                    case rel => exact ⟨by rw [HF.out], rfl⟩
              case rest =>
                obtain ⟨rfl, hwc⟩ := hcut
                replace hwc := hwc.symm
                subst hwc
                have HF1 : Hid ((brF W st col (tlen mem) = 1) ↔ (st = true ∧ col + 1 + tlen mem ≤ W)) := by
                  unfold Hid brF
                  by_cases h1 : st = true
                  · by_cases h2 : col + 1 + tlen mem ≤ W
                    · simp [h1, h2]
                    · simp [h1, h2]
                  · simp [h1]
                generalize brF W st col (tlen mem) = f at *
                go_wp2
                go_loopw [7, 15] (fun rv kv wr => ∃ (k : Nat) (o : List Frg), k ≤ mem.length ∧ kv = .int .i64 k ∧ Own wr w1.heap.size tFrg rv o ∧ Own wr w.heap.size tInl (.slice (some ⟨mb, moff, none⟩) mem.length mcap) mem ∧ Below w1.heap.size w1 wr ∧ Hid (o ++ fit (if k = 0 then f else 0) (mem.drop k) = out ++ fit f mem)) (fun _ kv _ => mem.length - (intOf kv).toNat)
                case atStart => exact ⟨0, out, Nat.zero_le _, rfl, hor, homx, hbel, by simp [Hid]⟩
                case round =>
                  obtain ⟨k2, o, hk2, rfl, hor4, hom4, hb4, hr4⟩ := hrel
                  obtain ⟨wa, rfl⟩ : ∃ wa : World, wa = wr := ⟨_, rfl⟩
                  obtain ⟨qo, qcap, rfl⟩ := hor4.shape
                  have z4 := hb4.size
                  have hol4 : o.length ≤ (layout W ps).length := Nat.le_trans (by have := congrArg List.length hr4.out; rw [List.length_append] at this; omega) HOL.out
                  by_cases hkl : k2 < mem.length
                  · obtain ⟨b5, o5, he, hb5', hc5⟩ := hom4.rdd.inl k2 hkl
                    simp only [Option.some.injEq, Addr.mk.injEq] at he
                    obtain ⟨rfl, rfl, -⟩ := he
                    have hd5 := hc5 k2 hkl
                    clear hc5
                    have HCK : Hid _ := inl_cells (n := mem.length) (cap := mcap) (B := w.heap.size) mb moff mem k2 hkl
                    have ik0 : (0 : Int) ≤ (k2 : Int) := by omega
                    have ik : (k2 : Int) < (mem.length : Int) := by omega
                    have hr4' := hr4.out
                    rw [fit_at f mem k2 hkl] at hr4'
                    clear hr4
                    generalize mem[k2] = p at *
                    obtain ⟨kd, sty, txt⟩ := p
                    obtain ⟨f1, f2, f3⟩ := hd5
                    simp only at f1 f2 f3 hr4' HCK
                    have HE : Hid ((o ++ [⟨if k2 = 0 then f else 0, kd, sty, txt⟩]) ++ fit (if k2 + 1 = 0 then f else 0) (mem.drop (k2 + 1)) = out ++ fit f mem) := by unfold Hid; rw [if_neg (by omega : ¬ k2 + 1 = 0), ← hr4']; simp
                    clear hr4'
                    go_upto_if 75 with fail
                    go_cut [16] (fun bv wc => bv = .int .i64 (if k2 = 0 then f else 0) ∧ wc = wa)
                    case first =>
                      by_cases hk0 : k2 = 0
                      · have hkb : ((k2 : Int) == 0) = true := beq_iff_eq.2 (by omega)
                        have HF : Hid ((if k2 = 0 then f else 0) = f) := by unfold Hid; rw [if_pos hk0]
                        clear hk0
                        go_wp2
                        go_meet
                        case rel => exact ⟨by rw [HF.out], rfl⟩
                      · have hkb : ((k2 : Int) == 0) = false := beq_eq_false_iff_ne.2 (by omega)
                        have HF : Hid ((if k2 = 0 then f else 0) = 0) := by unfold Hid; rw [if_neg hk0]
                        clear hk0
                        go_wp2
                        go_meet
                        case rel => exact ⟨by rw [HF.out], rfl⟩
                    case rest =>
                      obtain ⟨rfl, hwc⟩ := hcut
                      replace hwc := hwc.symm
                      subst hwc
                      generalize (if k2 = 0 then f else 0) = br at *
                      go_wp2
                      go_region_held3 (fun w' => w'.cell? ⟨mb, moff + k2 * 3, none⟩ = some (.int .i64 kd) ∧ w'.cell? ⟨mb, moff + k2 * 3 + 1, none⟩ = some (.int .i64 sty) ∧ w'.cell? ⟨mb, moff + k2 * 3 + 2, none⟩ = some (.string (mk txt)))
                        (first | go_keep | exact HCK.out _ (hom4.apart hor4 hgr3 (by simp [tInl, tFrg])))
                        ((refine step_app1 tFrg (w := wa) (.tmp 77) (.tmp 95) w1.heap.size _ o hor4 ⟨br, kd, sty, txt⟩ _ rfl (by simp [tFrg]) (by rfl) (by rfl) (by rfl) (by rfl) (by omega) (by omega) ?_; intro g3 cap3 w3 ho3 hgr3 hat3 hb3'))
                      go_wp2
                      go_roundw
                      case rel => exact ⟨k2 + 1, o ++ [⟨br, kd, sty, txt⟩], by omega, by go_num, by first | exact ho3 | simpa using ho3, hom4.apart hor4 hgr3 (by simp [tInl, tFrg]), hb4.trans hb3', HE⟩
                      case measure => simp [intOf]; omega
                  · have ik : ¬ (k2 : Int) < (mem.length : Int) := by omega
                    have HO : Hid (o = out ++ fit f mem) := by
                      have := hr4.out
                      rw [List.drop_of_length_le (by omega : mem.length ≤ k2)] at this
                      simpa [fit, Hid] using this
                    clear hr4
                    by_cases hff : st = true ∧ col + 1 + tlen mem ≤ W
                    · have fb : (f == 1) = true := beq_iff_eq.2 (HF1.out.2 hff)
                      have hr5 := HR3.out
                      rw [if_pos hff, ← HO.out] at hr5
                      have HR5 : Hid _ := hr5
                      clear hr5 hff
                      go_wp2
                      go_roundw
                      case rel => exact ⟨i + 1, col + 1 + tlen mem, true, o, by omega, by go_num, by go_num, rfl, by omega, hor4, hb4, HR5⟩
                      case measure => simp [intOf]; omega
                    · have fb : (f == 1) = false := beq_eq_false_iff_ne.2 (fun h => hff (HF1.out.1 h))
                      have hr5 := HR3.out
                      rw [if_neg hff, ← HO.out] at hr5
                      have HR5 : Hid _ := hr5
                      clear hr5 hff
                      go_wp2
                      go_roundw
                      case rel => exact ⟨i + 1, tlen mem, true, o, by omega, by go_num, by go_num, rfl, by omega, hor4, hb4, HR5⟩
                      case measure => simp [intOf]; omega
          · have hLb : ¬ (tlen mem : Int) ≤ (W : Int) := by omega
            have hr3 := HR2.out
            rw [if_neg hL] at hr3
            have HR3 : Hid _ := hr3
            clear hr3 HR2
            have HOL : Hid ((out ++ ch W st mem 0).length ≤ (layout W ps).length) := by unfold Hid; rw [← HR3.out]; exact lGo_out _ _ _ _ _
            have HOW : Hid ((ownL mem).length = tlen mem) := ownL_len mem
            have HTX : Hid ((wtx mem).length = tlen mem) := wtx_len mem
            go_wp2_with (first
              | (at_make; refine makeE tInt 0 rfl (.tmp 104) wx.heap.size (tlen mem) .i64 rfl rfl rfl (by omega) (by omega) ?_; intro w2 ho2 hb2 hlt2)
              | (at_make; refine makeE tByte 0 rfl (.tmp 106) wx.heap.size (tlen mem) .i64 rfl rfl rfl (by omega) (by omega) ?_; intro w3 ho3 hb3 hlt3))
            have hgne : w2.heap.size ≠ wx.heap.size := by omega
            have hb23 : Below wx.heap.size wx w3 := hb2.trans (hb3.mono (by omega))
            have ho2' := ho2.below hb3
            clear ho2 hb2 hb3
            go_loopw [19, 20] (fun av kv wr => ∃ k : Nat, k ≤ mem.length ∧ kv = .int .i64 k ∧ av = .int .i64 (tlen (mem.take k) : Nat) ∧ Own wr wx.heap.size tInt (.slice (some ⟨wx.heap.size, 0, none⟩) (tlen mem) (tlen mem)) ((ownL mem).take (tlen (mem.take k)) ++ List.replicate ((ownL mem).length - tlen (mem.take k)) 0) ∧ Own wr wx.heap.size tByte (.slice (some ⟨w2.heap.size, 0, none⟩) (tlen mem) (tlen mem)) ((wtx mem).take (tlen (mem.take k)) ++ List.replicate ((wtx mem).length - tlen (mem.take k)) 0) ∧ Below wx.heap.size wx wr) (fun _ kv _ => mem.length - (intOf kv).toNat)
            case atStart => exact ⟨0, Nat.zero_le _, rfl, by simp [tlen], by simpa [tlen, HOW.out] using ho2', by simpa [tlen, HTX.out] using ho3, hb23⟩
            case round =>
              obtain ⟨k4, hk4, rfl, rfl, how, hal, hb4⟩ := hrel
              obtain ⟨wa, rfl⟩ : ∃ wa : World, wa = wr := ⟨_, rfl⟩
              have z4 := hb4.size
              by_cases hkl : k4 < mem.length
              · obtain ⟨b5, o5, he, hb5', hc5⟩ := (homx.below hb4).rdd.inl k4 hkl
                simp only [Option.some.injEq, Addr.mk.injEq] at he
                obtain ⟨rfl, rfl, -⟩ := he
                have hd5 := hc5 k4 hkl
                clear hc5
                have ik : (k4 : Int) < (mem.length : Int) := by omega
                have HT : Hid (tlen (mem.take (k4 + 1)) = tlen (mem.take k4) + mem[k4].text.length) := tlen_take1 mem k4 hkl
                have htk2 : tlen (mem.take k4) + mem[k4].text.length ≤ tlen mem := by
                  have := tlen_take_le mem (k4 + 1)
                  rw [HT.out] at this; omega
                have HWG : Hid (∀ j (hj : j < mem[k4].text.length) (h : tlen (mem.take k4) + j < (wtx mem).length), (wtx mem)[tlen (mem.take k4) + j] = mem[k4].text[j]) := fun j hj h => wtx_get mem k4 j hkl hj h
                have HOG : Hid (∀ j (hj : j < mem[k4].text.length) (h : tlen (mem.take k4) + j < (ownL mem).length), (ownL mem)[tlen (mem.take k4) + j] = (k4 : Int)) := fun j hj h => by
                  rw [ownL_get, loc_uniq mem _ k4 (by omega) (by omega) (by rw [HT.out]; omega)]
                generalize mem[k4] = p at *
                obtain ⟨kd, sty, txt⟩ := p
                obtain ⟨f1, f2, f3⟩ := hd5
                simp only at f1 f2 f3 htk2 HT HWG HOG
                generalize tlen (mem.take k4) = A at *
                as_aux_lemma =>
                  go_wp2
                  go_loopw [19, 22] (fun av jv wr => ∃ j : Nat, j ≤ txt.length ∧ jv = .int .i64 j ∧ av = .int .i64 (A + j : Nat) ∧ Own wr wx.heap.size tInt (.slice (some ⟨wx.heap.size, 0, none⟩) (tlen mem) (tlen mem)) ((ownL mem).take (A + j) ++ List.replicate ((ownL mem).length - (A + j)) 0) ∧ Own wr wx.heap.size tByte (.slice (some ⟨w2.heap.size, 0, none⟩) (tlen mem) (tlen mem)) ((wtx mem).take (A + j) ++ List.replicate ((wtx mem).length - (A + j)) 0) ∧ Below wx.heap.size wx wr) (fun _ jv _ => txt.length - (intOf jv).toNat)
                  case atStart => exact ⟨0, Nat.zero_le _, rfl, by simp, by simpa using how, by simpa using hal, hb4⟩
                  case round =>
                    clear f1 f2 f3 how hal hb4
                    obtain ⟨j, hj, rfl, rfl, how, hal, hb4⟩ := hrel
                    obtain ⟨wb, rfl⟩ : ∃ wb : World, wb = wr := ⟨_, rfl⟩
                    by_cases hjl : j < txt.length
                    · have ij : (j : Int) < (txt.length : Int) := by omega
                      have hA1 : A + j < (ownL mem).length := by rw [HOW.out]; omega
                      have hA2 : A + j < (wtx mem).length := by rw [HTX.out]; omega
                      have iA : ((A + j : Nat) : Int) < (tlen mem : Int) := by omega
                      have c1 := how.cellAt (A + j) (by simp; omega) 0 (by simp [tInt])
                      have g1 := how.frozenAt (A + j)
                      have c2 := hal.cellAt (A + j) (by simp; omega) 0 (by simp [tByte])
                      have g2 := hal.frozenAt (A + j)
                      have hw1 := how.store1 (A + j) (by simp; omega) (ownL mem)[A + j] 0 (.int .i64 k4) (by simp [tInt]) (by simp [tInt, HOG.out j hjl hA1])
                      rw [set_take_rep (ownL mem) 0 (A + j) hA1] at hw1
                      have hw2 := (hal.setOther (g := wx.heap.size) (A + j) (.int .i64 k4) (by simp [Value.ownBlock, hgne])).store1 (A + j) (by simp; omega) (wtx mem)[A + j] 0 (.int .u8 txt[j].toNat) (by simp [tByte]) (by simp [tByte, HWG.out j hjl hA2])
                      rw [set_take_rep (wtx mem) 0 (A + j) hA2] at hw2
                      simp only [tInt, tByte, Nat.mul_one, Nat.add_zero] at c1 c2 hw1 hw2
                      obtain ⟨y1, e1⟩ : ∃ v, wb.cell? ⟨wx.heap.size, A + j, none⟩ = some v := ⟨_, c1⟩
                      obtain ⟨y2, e2⟩ : ∃ v, wb.cell? ⟨w2.heap.size, A + j, none⟩ = some v := ⟨_, c2⟩
                      clear c1 c2
                      have hw3 := hw1.setOther (g := w2.heap.size) (A + j) (.int .u8 txt[j].toNat) (by simp [Value.ownBlock, Ne.symm hgne])
                      go_wp2
                      go_roundw
                      case rel => exact ⟨j + 1, by omega, by go_num, by go_num, hw3, hw2, (hb4.setCell (Nat.le_refl _) _).setCell (by first | omega | (simp; done) | (simp; omega)) _⟩
                      case measure => simp [intOf]; omega
                    · have ij : ¬ (j : Int) < (txt.length : Int) := by omega
                      have ej : A + j = tlen (mem.take (k4 + 1)) := by rw [HT.out]; omega
                      rw [ej] at how hal
                      have HEJ : Hid (A + j = tlen (mem.take (k4 + 1))) := ej
                      clear ej
                      go_wp2
                      go_roundw
                      case rel => exact ⟨k4 + 1, by omega, by go_num, by first | (rw [← HEJ.out]; done) | (rw [← HEJ.out]; go_num), how, hal, hb4⟩
                      case measure => simp [intOf]; omega
              · have ik : ¬ (k4 : Int) < (mem.length : Int) := by omega
                have e4 : tlen (mem.take k4) = tlen mem := by rw [List.take_of_length_le (by omega)]
                rw [e4] at how hal
                rw [List.take_of_length_le (by rw [HOW.out]; omega), HOW.out, Nat.sub_self, List.replicate_zero, List.append_nil] at how
                rw [List.take_of_length_le (by rw [HTX.out]; omega), HTX.out, Nat.sub_self, List.replicate_zero, List.append_nil] at hal
                have hor4 := hor.below hb4
                have hom4 := homx.below hb4
                have hb1x : Below w1.heap.size w1 wa := hbel.trans (hb4.mono hz)
                clear e4 hb4 hb23 ho2' ho3 homx hor
                as_aux_lemma =>
                  go_wp2
                  go_loopw [7, 9, 23, 24] (fun rv cv sv nv wr => ∃ (start chunk c : Nat) (o : List Frg), start ≤ tlen mem ∧ chunk ≤ start ∧ sv = .int .i64 start ∧ nv = .int .i64 chunk ∧ cv = .int .i64 c ∧ Hid ((start < tlen mem → start % W = 0) ∧ (start ≠ 0 → chunk ≠ 0) ∧ (start ≠ 0 → c = if start % W = 0 then W else start % W)) ∧ Own wr w1.heap.size tFrg rv o ∧ Own wr wx.heap.size tInt (.slice (some ⟨wx.heap.size, 0, none⟩) (tlen mem) (tlen mem)) (ownL mem) ∧ Own wr wx.heap.size tByte (.slice (some ⟨w2.heap.size, 0, none⟩) (tlen mem) (tlen mem)) (wtx mem) ∧ Own wr w.heap.size tInl (.slice (some ⟨mb, moff, none⟩) mem.length mcap) mem ∧ Below w1.heap.size w1 wr ∧ Hid (o ++ ch W st (dropB mem start) start = out ++ ch W st mem 0)) (fun _ _ sv _ _ => tlen mem - (intOf sv).toNat)
                  case atStart => exact ⟨0, 0, col, out, Nat.zero_le _, Nat.le_refl _, rfl, rfl, rfl, ⟨fun _ => Nat.zero_mod _, fun h => absurd rfl h, fun h => absurd rfl h⟩, hor4, how, hal, hom4, hb1x, by rw [dropB_zero mem HWE.out]; exact rfl⟩
                  case round =>
                    clear hor4 how hal hom4 hb1x
                    obtain ⟨start, chunk, c, o, hst, hch, rfl, rfl, rfl, HS, hor5, how, hal, hom5, hb5, hr5⟩ := hrel
                    obtain ⟨wb, rfl⟩ : ∃ wb : World, wb = wr := ⟨_, rfl⟩
                    obtain ⟨qo5, qcap5, rfl⟩ := hor5.shape
                    have z5 := hb5.size
                    by_cases hsl : start < tlen mem
                    · have isl : (start : Int) < (tlen mem : Int) := by omega
                      have HS0 : Hid (start % W = 0) := HS.out.1 hsl
                      go_upto_if 145 with fail
                      go_cut [25] (fun ev wc => ev = .int .i64 (min (tlen mem) (start + W) : Nat) ∧ wc = wb)
                      case first =>
                        by_cases hgt : W < tlen mem - start
                        · have hgb : (W : Int) < (tlen mem : Int) - (start : Int) := by omega
                          go_wp2
                          go_meet
                          case rel => exact ⟨by congr 1; omega, rfl⟩
                        · have hgb : ¬ (W : Int) < (tlen mem : Int) - (start : Int) := by omega
                          go_wp2
                          go_meet
                          case rel => exact ⟨by congr 1; omega, rfl⟩
                      case rest =>
                        obtain ⟨rfl, hwc⟩ := hcut
                        replace hwc := hwc.symm
                        subst hwc
                        have hE1 : start < min (tlen mem) (start + W) := by omega
                        have hE2 : min (tlen mem) (start + W) ≤ tlen mem := by omega
                        generalize hEE : min (tlen mem) (start + W) = E at *
                        have HE : Hid (min (tlen mem) (start + W) = E) := hEE
                        clear hEE
                        go_wp2
                        go_loopw [7, 26] (fun rv pv wr => ∃ (p : Nat) (o : List Frg), start ≤ p ∧ p ≤ E ∧ pv = .int .i64 p ∧ Own wr w1.heap.size tFrg rv o ∧ Own wr wx.heap.size tInt (.slice (some ⟨wx.heap.size, 0, none⟩) (tlen mem) (tlen mem)) (ownL mem) ∧ Own wr wx.heap.size tByte (.slice (some ⟨w2.heap.size, 0, none⟩) (tlen mem) (tlen mem)) (wtx mem) ∧ Own wr w.heap.size tInl (.slice (some ⟨mb, moff, none⟩) mem.length mcap) mem ∧ Below w1.heap.size w1 wr ∧ Hid (o ++ ch W st (dropB mem p) p = out ++ ch W st mem 0)) (fun _ pv _ => E - (intOf pv).toNat)
                        case atStart => exact ⟨start, o, Nat.le_refl _, by omega, rfl, hor5, how, hal, hom5, hb5, hr5⟩
                        case round =>
                          clear hor5 how hal hom5 hb5 hr5
                          obtain ⟨p, o, hsp, hpe, rfl, hor5, how, hal, hom5, hb5, hr5⟩ := hrel
                          obtain ⟨wc0, rfl⟩ : ∃ wc0 : World, wc0 = wr := ⟨_, rfl⟩
                          obtain ⟨qo6, qcap6, rfl⟩ := hor5.shape
                          have z6 := hb5.size
                          by_cases hpl : p < E
                          · have ipl : (p : Int) < (E : Int) := by omega
                            have hpt : p < tlen mem := by omega
                            obtain ⟨hlo, HLO⟩ : loc mem p < mem.length ∧ Hid (tlen (mem.take (loc mem p)) ≤ p ∧ p < tlen (mem.take (loc mem p + 1))) := loc_spec mem p hpt
                            as_aux_lemma =>
                              go_wp2
                              go_loopw [27] (fun qv wr => ∃ q : Nat, p ≤ q ∧ q ≤ E ∧ qv = .int .i64 q ∧ Hid (∀ x, p ≤ x → x < q → loc mem x = loc mem p) ∧ ∃ n, wr = wc0.drewN n) (fun qv _ => E - (intOf qv).toNat)
                              case atStart => exact ⟨p, Nat.le_refl _, by omega, rfl, fun x h1 h2 => by omega, 0, rfl⟩
                              case round =>
                                obtain ⟨q, hpq, hqe, rfl, hrun, nq, rfl⟩ := hrel
                                go_upto_region 53 with fail
                                go_cut [167] (fun hv wc => hv = .bool (contQ mem p q E) ∧ ∃ n, wc = wc0.drewN n)
                                case first =>
                                  have cp := own_cell mem how p hpt
                                  have ip2 : (p : Int) < (tlen mem : Int) := by omega
                                  have ip0 : (0 : Int) ≤ (p : Int) := by omega
                                  have iq0 : (0 : Int) ≤ (q : Int) := by omega
                                  by_cases hqE : q < E
                                  · have cq := own_cell mem how q (by omega)
                                    have iq : (q : Int) < (E : Int) := by omega
                                    have iqb : decide ((q : Int) < (E : Int)) = true := decide_eq_true iq
                                    have iq2 : (q : Int) < (tlen mem : Int) := by omega
                                    by_cases hlq : loc mem q = loc mem p
                                    · have tb : ((loc mem q : Int) == (loc mem p : Int)) = true := beq_iff_eq.2 (by omega)
                                      have HH : Hid (contQ mem p q E = true) := decide_eq_true ⟨hqE, hlq⟩
                                      clear hlq
                                      go_wp2
                                      go_quiet (fail)
                                      go_wp2
                                      go_meet
                                      case rel => exact ⟨by rw [HH.out], _, drewN_add _ _ _⟩
                                    · have tb : ((loc mem q : Int) == (loc mem p : Int)) = false := beq_eq_false_iff_ne.2 (by omega)
                                      have HH : Hid (contQ mem p q E = false) := decide_eq_false (fun h => hlq h.2)
                                      clear hlq
                                      go_wp2
                                      go_quiet (fail)
                                      go_wp2
                                      go_meet
                                      case rel => exact ⟨by rw [HH.out], _, drewN_add _ _ _⟩
                                  · have iq : ¬ (q : Int) < (E : Int) := by omega
                                    have iqb : decide ((q : Int) < (E : Int)) = false := decide_eq_false iq
                                    have HH : Hid (contQ mem p q E = false) := decide_eq_false (fun h => hqE h.1)
                                    go_wp2
                                    go_quiet (fail)
                                    go_wp2
                                    go_meet
                                    case rel => exact ⟨by rw [HH.out], _, drewN_add _ _ _⟩
                                case rest =>
                                  obtain ⟨rfl, n1, rfl⟩ := hcut
                                  cases hcq : contQ mem p q E with
                                  | true =>
                                    have hcq' : q < E ∧ loc mem q = loc mem p := of_decide_eq_true hcq
                                    have HN : Hid (∀ x, p ≤ x → x < q + 1 → loc mem x = loc mem p) := fun x h1 h2 => by
                                      by_cases e : x = q
                                      · subst e; exact hcq'.2
                                      · exact hrun.out x h1 (by omega)
                                    have hqE := hcq'.1
                                    clear hcq hcq'
                                    go_wp2
                                    go_roundw
                                    case rel => exact ⟨q + 1, by omega, by omega, by go_num, HN, _, rfl⟩
                                    case measure => simp [intOf]; omega
                                  | false =>
                                    have hcq' : ¬ (q < E ∧ loc mem q = loc mem p) := of_decide_eq_false hcq
                                    have hpq2 : p < q := by
                                      rcases Nat.lt_or_ge p q with h | h
                                      · exact h
                                      · have e : q = p := by omega
                                        subst e; exact absurd ⟨hpl, rfl⟩ hcq'
                                    have hpm := mod_start W p start HS0.out hsp (by have := HE.out; omega)
                                    have hlo2 := HLO.out
                                    rw [tlen_take1 mem _ hlo] at hlo2
                                    have htk := q_eq W mem p q E hW0 hpt (by have := HE.out; omega) hpq2 hqe hrun.out (by
                                      by_cases h : q = E
                                      · exact .inl h
                                      · exact .inr (fun h2 => hcq' ⟨by omega, h2⟩)) hlo
                                    have hstep := chS W st mem p (loc mem p) (q - p) hW0 HWE.out hlo hlo2.1 hlo2.2 htk
                                    have epq : p + (q - p) = q := by omega
                                    rw [epq] at hstep
                                    have hr6 := hr5.out
                                    rw [hstep] at hr6
                                    have HBS : Hid _ := brC_start W st p start HS0.out hsp (by have := HE.out; omega)
                                    have HR6 : Hid ((o ++ [⟨brC W st p, mem[loc mem p].kind, mem[loc mem p].style, ((wtx mem).drop p).take (q - p)⟩]) ++ ch W st (dropB mem q) q = out ++ ch W st mem 0) := by unfold Hid; rw [← hr6]; simp
                                    have hol6 : o.length ≤ (layout W ps).length := Nat.le_trans (by have := congrArg List.length hr6; rw [List.length_append] at this; omega) HOL.out
                                    have hor6 : Own (wc0.drewN n1) w1.heap.size tFrg (.slice qo6 o.length qcap6) o := hor5
                                    have how6 : Own (wc0.drewN n1) wx.heap.size tInt (.slice (some ⟨wx.heap.size, 0, none⟩) (tlen mem) (tlen mem)) (ownL mem) := how
                                    have hal6 : Own (wc0.drewN n1) wx.heap.size tByte (.slice (some ⟨w2.heap.size, 0, none⟩) (tlen mem) (tlen mem)) (wtx mem) := hal
                                    have hom6 : Own (wc0.drewN n1) w.heap.size tInl (.slice (some ⟨mb, moff, none⟩) mem.length mcap) mem := hom5
                                    have hb6 := below_drewN hb5 n1
                                    clear hcq hcq' hpm hlo2 htk hstep epq hr6 hr5 hrun hor5 how hal hom5 hb5
                                    generalize wc0.drewN n1 = wd at *
                                    as_aux_lemma =>
                                      have z7 := hb6.size
                                      go_upto_region 56 with fail
                                      go_cut [179] (fun bv wc => bv = .bool (decide (p = start ∧ (start ≠ 0 ∨ st = true))) ∧ wc = wd)
                                      case first =>
                                        by_cases hps : p = start
                                        · have hpb : ((p : Int) == (start : Int)) = true := beq_iff_eq.2 (by omega)
                                          by_cases hc0 : 0 < chunk
                                          · have hcb : (0 : Int) < (chunk : Int) := by omega
                                            have HC : Hid (decide (p = start ∧ (start ≠ 0 ∨ st = true)) = true) := decide_eq_true ⟨hps, .inl (by omega)⟩
                                            clear hps
                                            go_wp2
                                            go_meet
                                            case rel => exact ⟨by rw [HC.out], rfl⟩
                                          · have hcb : ¬ (0 : Int) < (chunk : Int) := by omega
                                            have hs0 : start = 0 := by
                                              rcases Nat.eq_zero_or_pos start with h | h
                                              · exact h
                                              · have := HS.out.2.1 (by omega); omega
                                            cases st with
                                            | false =>
                                              have HC : Hid (decide (p = start ∧ (start ≠ 0 ∨ false = true)) = false) := decide_eq_false (by simp [hs0])
                                              clear hps hs0
                                              go_wp2
                                              go_meet
                                              case rel => exact ⟨by rw [HC.out], rfl⟩
                                            | true =>
                                              have HC : Hid (decide (p = start ∧ (start ≠ 0 ∨ true = true)) = true) := decide_eq_true ⟨hps, .inr rfl⟩
                                              clear hps hs0
                                              go_wp2
                                              go_meet
                                              case rel => exact ⟨by rw [HC.out], rfl⟩
                                        · have hpb : ((p : Int) == (start : Int)) = false := beq_eq_false_iff_ne.2 (by omega)
                                          have HC : Hid (decide (p = start ∧ (start ≠ 0 ∨ st = true)) = false) := decide_eq_false (fun h => hps h.1)
                                          go_wp2
                                          go_meet
                                          case rel => exact ⟨by rw [HC.out], rfl⟩
                                      case rest =>
                                      obtain ⟨rfl, hwc⟩ := hcut
                                      replace hwc := hwc.symm
                                      subst hwc
                                      have HBD : Hid (brC W st p = if decide (p = start ∧ (start ≠ 0 ∨ st = true)) = true then 2 else 0) := by
                                        unfold Hid; rw [HBS.out]
                                        by_cases h : p = start ∧ (start ≠ 0 ∨ st = true)
                                        · rw [if_pos h, if_pos (decide_eq_true h)]
                                        · rw [if_neg h, if_neg (by rw [decide_eq_false h]; simp)]
                                      generalize decide (p = start ∧ (start ≠ 0 ∨ st = true)) = bb at *
                                      go_upto_if 179 with fail
                                      go_cut [28] (fun bv wc => bv = .int .i64 (brC W st p) ∧ wc = wd)
                                      case first =>
                                        cases bb with
                                        | true =>
                                          have HC : Hid (brC W st p = 2) := HBD
                                          go_wp2
                                          go_meet
                                          case rel => exact ⟨by rw [HC.out], rfl⟩
                                        | false =>
                                          have HC : Hid (brC W st p = 0) := HBD
                                          go_wp2
                                          go_meet
                                          case rel => exact ⟨by rw [HC.out], rfl⟩
                                      case rest =>
                                        obtain ⟨rfl, hwc⟩ := hcut
                                        replace hwc := hwc.symm
                                        subst hwc
                                        have cp := own_cell mem how6 p hpt
                                        have hd6 := inl_cells mb moff mem (loc mem p) hlo _ hom6
                                        have ip2 : (p : Int) < (tlen mem : Int) := by omega
                                        have ip0 : (0 : Int) ≤ (p : Int) := by omega
                                        have il0 : (0 : Int) ≤ (loc mem p : Int) := by omega
                                        have il1 : (loc mem p : Int) < (mem.length : Int) := by omega
                                        generalize mem[loc mem p] = pc at *
                                        generalize loc mem p = lo at *
                                        generalize brC W st p = br at *
                                        obtain ⟨kd, sty, txt⟩ := pc
                                        obtain ⟨f1, f2, f3⟩ := hd6
                                        simp only at f1 f2 f3 HR6
                                        have s1 : (p : Int) ≤ (q : Int) := by omega
                                        have s2 : (q : Int) ≤ (tlen mem : Int) := by omega
                                        have hne : ¬ tlen mem = p := by omega
                                        have hblk := heap_alloc_new wd (.cells #[.int .i64 kd, .int .i64 sty, .string (mk txt)] 44)
                                        have hqt : q ≤ (wtx mem).length := by rw [HTX.out]; omega
                                        have hpq3 : p ≤ q := by omega
                                        have hblkd : (wd.alloc (.cells #[.int .i64 kd, .int .i64 sty, .string (mk txt)] 44)).drew.heap[wd.heap.size]? = some (.cells #[.int .i64 kd, .int .i64 sty, .string (mk txt)] 44 (0, 0)) := hblk
                                        have hblka : ∀ Y, ((wd.alloc (.cells #[.int .i64 kd, .int .i64 sty, .string (mk txt)] 44)).alloc Y).drew.heap[wd.heap.size]? = some (.cells #[.int .i64 kd, .int .i64 sty, .string (mk txt)] 44 (0, 0)) := fun Y => blk_below (((Below.refl _ _).alloc (Nat.le_refl _) Y).drew) hblk
                                        have hala : ∀ Y, Own ((wd.alloc (.cells #[.int .i64 kd, .int .i64 sty, .string (mk txt)] 44)).alloc Y).drew wx.heap.size tByte (.slice (some ⟨w2.heap.size, 0, none⟩) (tlen mem) (tlen mem)) (wtx mem) := fun Y => Own.drew ((hal6.alloc _).alloc Y)
                                        go_wp2
                                        go_region_held3 (fun w' => w'.cell? ⟨wd.heap.size, 0, none⟩ = some (.int .i64 kd) ∧ w'.cell? ⟨wd.heap.size, 1, none⟩ = some (.int .i64 sty) ∧ (convert 66 9 (.slice (some ⟨w2.heap.size, p, none⟩) (q - p) (tlen mem - p))).run Yaac.prog w' = .ok (.string (mk (((wtx mem).drop p).take (q - p)))) w')
                                          (first | with_reducible exact s59 (hal6.alloc _) hblk hpq3 hqt | with_reducible exact s59 (Own.drew (hal6.alloc _)) hblkd hpq3 hqt | with_reducible exact s59 (hala _) (hblka _) hpq3 hqt | with_reducible exact s59 ((hal6.alloc _).apart (hor6.alloc _) hgr3 (by simp [tByte, tFrg])) (blk_kept (hor6.alloc _) hgr3 hblk (by simp [tFrg])) hpq3 hqt)
                                          ((refine step_app1 tFrg (w := wd.alloc (.cells #[.int .i64 kd, .int .i64 sty, .string (mk txt)] 44)) (.tmp 187) (.tmp 199) w1.heap.size _ o (hor6.alloc _) ⟨br, kd, sty, ((wtx mem).drop p).take (q - p)⟩ (wd.heap.size + 1) (by simp) (by simp [tFrg]) (by rfl) (by rfl) (by rfl) (by rfl) (by omega) (by simp; omega) ?_; intro g3 cap3 w3 ho3 hgr3 hat3 hb3'))
                                        go_wp2
                                        go_roundw
                                        case rel => exact ⟨q, o ++ [⟨br, kd, sty, ((wtx mem).drop p).take (q - p)⟩], by omega, by omega, by go_num, by first | exact ho3 | simpa using ho3, (how6.alloc _).apart (hor6.alloc _) hgr3 (by simp [tInt, tFrg]), (hal6.alloc _).apart (hor6.alloc _) hgr3 (by simp [tByte, tFrg]), (hom6.alloc _).apart (hor6.alloc _) hgr3 (by simp [tInl, tFrg]), (hb6.alloc z7 _).trans hb3', HR6⟩
                                        case measure => simp [intOf]; omega
                          · have ipl : ¬ (p : Int) < (E : Int) := by omega
                            have hr6 := hr5.out
                            have epE : p = E := by omega
                            rw [epE] at hr6
                            have HR6 : Hid (o ++ ch W st (dropB mem E) E = out ++ ch W st mem 0) := hr6
                            have HSN : Hid ((E < tlen mem → E % W = 0) ∧ (E ≠ 0 → chunk + 1 ≠ 0) ∧ (E ≠ 0 → E - start = if E % W = 0 then W else E % W)) := by
                              have h0 := HS0.out
                              have hE := HE.out
                              by_cases hEs : E = start + W
                              · have e1 : E % W = 0 := by rw [hEs, Nat.add_mod_right]; exact h0
                                exact ⟨fun _ => e1, fun _ => by omega, fun _ => by rw [if_pos e1]; omega⟩
                              · have e1 := mod_start W E start h0 (by omega) (by omega)
                                exact ⟨fun _ => by omega, fun _ => by omega, fun _ => by rw [if_neg (by omega), e1]⟩
                            clear hr5 hr6 epE
                            go_wp2
                            go_roundw
                            case rel => exact ⟨E, chunk + 1, E - start, o, by omega, by omega, by go_num, by go_num, by go_num, HSN, hor5, how, hal, hom5, hb5, HR6⟩
                            case measure => simp [intOf]; omega
                    · have isl : ¬ (start : Int) < (tlen mem : Int) := by omega
                      have hfin := HS.out.2.2 (by omega)
                      have es : start = tlen mem := by omega
                      have hr6 := hr5.out
                      rw [es, dropB_end mem _ (Nat.le_refl _), ch, List.append_nil] at hr6
                      rw [es] at hfin
                      have HRF := HR3.out
                      rw [← hfin, ← hr6] at HRF
                      have HRG : Hid (lGo W (ws.drop (i + 1)) true c o = layout W ps) := HRF
                      have hcl : c ≤ tlen mem := by
                        have := Nat.mod_lt (tlen mem) hW0
                        rw [hfin]; split <;> omega
                      clear HRF hr6 hfin es hr5 HS
                      go_wp2
                      go_roundw
                      case rel => exact ⟨i + 1, c, true, o, by omega, by go_num, by go_num, rfl, by omega, hor5, hb5, HRG⟩
                      case measure => simp [intOf]; omega
    · have i1 : ¬ (i : Int) < (rs.length : Int) := by omega
      go_wp2
      go_ret
      exact ⟨_, rfl, by rw [HW.out, ← hr.out, List.drop_of_length_le (by rw [← HRL.out]; omega)]; exact hor.base z1, hb1.trans (hbel.mono z1)⟩
end Go.Proofs.Ybuaaw
