import Derived.Test.YbuaawW1
import Derived.Test.YbuaawPlain6
namespace Go.Proofs.Ybuaaw
open Go.RowKit
attribute [local go_sem] mk_size mk_toList mk_getElem mk_extract take_len_drop mk_append_lit

set_option maxHeartbeats 1600000 in
theorem trim_any (l : List UInt8) (w : World) (hs : l.length ≤ maxLen) :
    Calls Yaac.prog 59 #[.string (mk l)] w fun e w' => e = .returned (.string (mk (trimB l))) ∧ w' = w := by
  unfold maxLen at hs
  go_enter Yaac.func59, Yaac.ntmps59
  go_wp2
  go_loop [3] (fun av => ∃ a : Nat, a ≤ l.length ∧ av = .int .i64 a ∧ Hid (∀ x (hx : x < l.length), x < a → isSp l[x] = true)) (fun av => l.length - (intOf av).toNat)
  case atStart => exact ⟨0, Nat.zero_le _, rfl, fun x _ h => by omega⟩
  case round =>
    obtain ⟨a, ha, rfl, hra⟩ := hrel
    by_cases hlt : a < l.length
    · have i1 : (a : Int) < (l.length : Int) := by omega
      by_cases hsp : isSp l[a] = true
      · have HN : Hid (∀ x (hx : x < l.length), x < a + 1 → isSp l[x] = true) := fun x hx h2 => by
          by_cases e : x = a
          · subst e; exact hsp
          · exact hra.out x hx (by omega)
        go_wp2_with (go_at_call 60; refine (isSpace_any l[a] _).mono ?_; rintro e w' ⟨rfl, rfl⟩)
        go_round
        case rel => exact ⟨a + 1, by omega, by go_num, HN⟩
        case measure => simp [intOf]; omega
      · have hsp' : isSp l[a] = false := by simpa using hsp
        have HSA : Hid (∀ h : a < l.length, isSp l[a] = false) := fun _ => hsp'
        clear hsp
        go_wp2_with (go_at_call 60; refine (isSpace_any l[a] _).mono ?_; rintro e w' ⟨rfl, rfl⟩)
        go_loop [4] (fun bv => ∃ b : Nat, a ≤ b ∧ b ≤ l.length ∧ bv = .int .i64 b ∧ Hid (∀ x (hx : x < l.length), b ≤ x → isSp l[x] = true)) (fun bv => (intOf bv).toNat)
        case atStart => exact ⟨l.length, by omega, by omega, rfl, fun x hx h => by omega⟩
        case round =>
          obtain ⟨b, hab, hbl, rfl, hrb⟩ := hrel
          by_cases hgt : a < b
          · have i2 : (a : Int) < (b : Int) := by omega
            have hb1 : b - 1 < l.length := by omega
            have i3 : ((b : Int) - 1).toNat = b - 1 := by omega
            by_cases hspb : isSp l[b - 1] = true
            · have HN : Hid (∀ x (hx : x < l.length), b - 1 ≤ x → isSp l[x] = true) := fun x hx h2 => by
                by_cases e : x = b - 1
                · subst e; exact hspb
                · exact hrb.out x hx (by omega)
              go_wp2_with (go_at_call 60; refine (isSpace_any l[b - 1] _).mono ?_; rintro e w' ⟨rfl, rfl⟩)
              go_round
              case rel => exact ⟨b - 1, by omega, by omega, by go_num, HN⟩
              case measure => simp [intOf]; omega
            · have hspb' : isSp l[b - 1] = false := by simpa using hspb
              have HT : Hid (trimB l = (l.drop a).take (b - a)) := trimB_at l a b hab hbl hra.out HSA.out hrb.out (fun _ => hspb')
              clear hspb
              go_wp2_with (go_at_call 60; refine (isSpace_any l[b - 1] _).mono ?_; rintro e w' ⟨rfl, rfl⟩)
              go_ret
              exact ⟨ret_str HT.out.symm, rfl⟩
          · have i2 : ¬ (a : Int) < (b : Int) := by omega
            have HT : Hid (trimB l = (l.drop a).take (b - a)) := trimB_at l a b hab hbl hra.out HSA.out hrb.out (fun h => absurd h hgt)
            go_wp2
            go_ret
            exact ⟨ret_str HT.out.symm, rfl⟩
    · have i1 : ¬ (a : Int) < (l.length : Int) := by omega
      have HSA : Hid (∀ h : a < l.length, isSp l[a] = false) := fun h => absurd h hlt
      go_wp2
      go_loop [4] (fun bv => ∃ b : Nat, a ≤ b ∧ b ≤ l.length ∧ bv = .int .i64 b ∧ Hid (∀ x (hx : x < l.length), b ≤ x → isSp l[x] = true)) (fun bv => (intOf bv).toNat)
      case atStart => exact ⟨l.length, by omega, by omega, rfl, fun x hx h => by omega⟩
      case round =>
        obtain ⟨b, hab, hbl, rfl, hrb⟩ := hrel
        by_cases hgt : a < b
        · exact absurd hgt (by omega)
        · have i2 : ¬ (a : Int) < (b : Int) := by omega
          have HT : Hid (trimB l = (l.drop a).take (b - a)) := trimB_at l a b hab hbl hra.out HSA.out hrb.out (fun h => absurd h hgt)
          go_wp2
          go_ret
          exact ⟨ret_str HT.out.symm, rfl⟩

set_option maxHeartbeats 1600000 in
theorem trimS_any (l : List UInt8) (w : World) (hs : l.length ≤ maxLen) :
    Calls Yaac.prog 61 #[.string (mk l)] w fun e w' => e = .returned (.string (mk (trimB l))) ∧ w' = w := by
  unfold maxLen at hs
  go_enter Yaac.func61, Yaac.ntmps61
  go_wp2
  go_loop [3] (fun av => ∃ a : Nat, a ≤ l.length ∧ av = .int .i64 a ∧ Hid (∀ x (hx : x < l.length), x < a → isSp l[x] = true)) (fun av => l.length - (intOf av).toNat)
  case atStart => exact ⟨0, Nat.zero_le _, rfl, fun x _ h => by omega⟩
  case round =>
    obtain ⟨a, ha, rfl, hra⟩ := hrel
    by_cases hlt : a < l.length
    · have i1 : (a : Int) < (l.length : Int) := by omega
      by_cases hsp : isSp l[a] = true
      · have HN : Hid (∀ x (hx : x < l.length), x < a + 1 → isSp l[x] = true) := fun x hx h2 => by
          by_cases e : x = a
          · subst e; exact hsp
          · exact hra.out x hx (by omega)
        go_wp2_with (go_at_call 63; refine (isSpaceByte_any l[a] _).mono ?_; rintro e w' ⟨rfl, rfl⟩)
        go_round
        case rel => exact ⟨a + 1, by omega, by go_num, HN⟩
        case measure => simp [intOf]; omega
      · have hsp' : isSp l[a] = false := by simpa using hsp
        have HSA : Hid (∀ h : a < l.length, isSp l[a] = false) := fun _ => hsp'
        clear hsp
        go_wp2_with (go_at_call 63; refine (isSpaceByte_any l[a] _).mono ?_; rintro e w' ⟨rfl, rfl⟩)
        go_loop [4] (fun bv => ∃ b : Nat, a ≤ b ∧ b ≤ l.length ∧ bv = .int .i64 b ∧ Hid (∀ x (hx : x < l.length), b ≤ x → isSp l[x] = true)) (fun bv => (intOf bv).toNat)
        case atStart => exact ⟨l.length, by omega, by omega, rfl, fun x hx h => by omega⟩
        case round =>
          obtain ⟨b, hab, hbl, rfl, hrb⟩ := hrel
          by_cases hgt : a < b
          · have i2 : (a : Int) < (b : Int) := by omega
            have hb1 : b - 1 < l.length := by omega
            have i3 : ((b : Int) - 1).toNat = b - 1 := by omega
            by_cases hspb : isSp l[b - 1] = true
            · have HN : Hid (∀ x (hx : x < l.length), b - 1 ≤ x → isSp l[x] = true) := fun x hx h2 => by
                by_cases e : x = b - 1
                · subst e; exact hspb
                · exact hrb.out x hx (by omega)
              go_wp2_with (go_at_call 63; refine (isSpaceByte_any l[b - 1] _).mono ?_; rintro e w' ⟨rfl, rfl⟩)
              go_round
              case rel => exact ⟨b - 1, by omega, by omega, by go_num, HN⟩
              case measure => simp [intOf]; omega
            · have hspb' : isSp l[b - 1] = false := by simpa using hspb
              have HT : Hid (trimB l = (l.drop a).take (b - a)) := trimB_at l a b hab hbl hra.out HSA.out hrb.out (fun _ => hspb')
              clear hspb
              go_wp2_with (go_at_call 63; refine (isSpaceByte_any l[b - 1] _).mono ?_; rintro e w' ⟨rfl, rfl⟩)
              go_ret
              exact ⟨ret_str HT.out.symm, rfl⟩
          · have i2 : ¬ (a : Int) < (b : Int) := by omega
            have HT : Hid (trimB l = (l.drop a).take (b - a)) := trimB_at l a b hab hbl hra.out HSA.out hrb.out (fun h => absurd h hgt)
            go_wp2
            go_ret
            exact ⟨ret_str HT.out.symm, rfl⟩
    · have i1 : ¬ (a : Int) < (l.length : Int) := by omega
      have HSA : Hid (∀ h : a < l.length, isSp l[a] = false) := fun h => absurd h hlt
      go_wp2
      go_loop [4] (fun bv => ∃ b : Nat, a ≤ b ∧ b ≤ l.length ∧ bv = .int .i64 b ∧ Hid (∀ x (hx : x < l.length), b ≤ x → isSp l[x] = true)) (fun bv => (intOf bv).toNat)
      case atStart => exact ⟨l.length, by omega, by omega, rfl, fun x hx h => by omega⟩
      case round =>
        obtain ⟨b, hab, hbl, rfl, hrb⟩ := hrel
        by_cases hgt : a < b
        · exact absurd hgt (by omega)
        · have i2 : ¬ (a : Int) < (b : Int) := by omega
          have HT : Hid (trimB l = (l.drop a).take (b - a)) := trimB_at l a b hab hbl hra.out HSA.out hrb.out (fun h => absurd h hgt)
          go_wp2
          go_ret
          exact ⟨ret_str HT.out.symm, rfl⟩

set_option maxHeartbeats 1600000 in
theorem hasTicks_any (l : List UInt8) (w : World) (hs : l.length ≤ maxLen) :
    Calls Yaac.prog 62 #[.string (mk l)] w fun e w' => e = .returned (.bool (ticks l)) ∧ w' = w := by
  unfold maxLen at hs
  by_cases h3 : 3 ≤ l.length
  · have i3 : (3 : Int) ≤ (l.length : Int) := by omega
    have i0 : 0 < l.length := by omega
    have i1 : 1 < l.length := by omega
    have i2 : 2 < l.length := by omega
    have HT : Hid (ticks l = decide (l[0].toNat = 96 ∧ l[1].toNat = 96 ∧ l[2].toNat = 96)) := ticks_at l h3
    go_enter Yaac.func62, Yaac.ntmps62
    go_wp2
    all_goals
      go_ret
      refine ⟨ret_bool ?_, rfl⟩
      rw [HT.out, Bool.eq_iff_iff]
      simp
      omega
  · have i3 : ¬ (3 : Int) ≤ (l.length : Int) := by omega
    go_enter Yaac.func62, Yaac.ntmps62
    go_wp2
    go_ret
    exact ⟨ret_bool (ticks_short l h3).symm, rfl⟩

set_option maxHeartbeats 1600000 in
theorem allDashes_any (l : List UInt8) (w : World) (hs : l.length ≤ maxLen) :
    Calls Yaac.prog 64 #[.string (mk l)] w fun e w' => e = .returned (.bool (dashes l)) ∧ w' = w := by
  unfold maxLen at hs
  go_enter Yaac.func64, Yaac.ntmps64
  go_wp2
  go_loop [3] (fun i => ∃ k : Nat, k ≤ l.length ∧ i = .int .i64 k ∧ Hid (dashes (l.drop k) = dashes l)) (fun i => l.length - (intOf i).toNat)
  case atStart => exact ⟨0, Nat.zero_le _, rfl, rfl⟩
  case round =>
    obtain ⟨k, hk, rfl, hr⟩ := hrel
    by_cases hlt : k < l.length
    · by_cases hc : l[k].toNat = 45
      · have h1 : ((l[k].toNat : Int) != 45) = false := by simp; omega
        have HE : Hid (dashes (l.drop (k + 1)) = dashes l) := by rw [← hr.out, dashes_at l k hlt, if_pos hc]; exact rfl
        clear hc
        go_wp2
        go_round
        case rel => exact ⟨k + 1, by omega, by go_num, HE⟩
        case measure => simp [intOf]; omega
      · have h1 : ((l[k].toNat : Int) != 45) = true := by simp; omega
        have HE : Hid (dashes l = false) := by rw [← hr.out, dashes_at l k hlt, if_neg hc]; exact rfl
        go_wp2
        go_ret
        exact ⟨ret_bool HE.out.symm, rfl⟩
    · go_wp2
      go_ret
      exact ⟨ret_bool (by rw [← hr.out, dashes_end l k (by omega)]), rfl⟩
end Go.Proofs.Ybuaaw
