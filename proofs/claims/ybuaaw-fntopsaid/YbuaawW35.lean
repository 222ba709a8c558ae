import Derived.Test.YbuaawW29
import Derived.Test.YbuaawW30
import Derived.Test.YbuaawW31
import Derived.Test.YbuaawW32
import Derived.Test.YbuaawW33
import Derived.Test.YbuaawW34
namespace Go.Proofs.Ybuaaw
open Go.RowKit

theorem renderBlock_any (b : Blk) (n : Int) (w : World) (hs : b.text.length ≤ 67108864) (hn : n ≤ 9223372036854775807) :
    Calls Yaac.prog 51 #[.agg #[.int .i64 b.kind, .int .i64 b.level, .string (mk b.text)], .int .i64 n] w fun e w' => ∃ v', e = .returned v' ∧ Own w' w.heap.size tStr v' (rblock (wid n) b) ∧ Below w.heap.size w w' := by
  obtain ⟨kd, lv, txt⟩ := b
  simp only at hs ⊢
  by_cases h5 : kd = 5
  · subst h5; exact rb51_code lv txt n w hs hn
  by_cases h6 : kd = 6
  · subst h6; exact rb51_rule lv txt n w hs hn
  by_cases h2 : kd = 2
  · subst h2; exact rb51_head lv txt n w hs hn
  by_cases h3 : kd = 3
  · subst h3; exact rb51_item lv txt n w hs hn
  by_cases h4 : kd = 4
  · subst h4; exact rb51_quote lv txt n w hs hn
  exact rb51_para kd lv ⟨h5, h6, h2, h3, h4⟩ txt n w hs hn

theorem renderBlockS_any (b : Blk) (n : Int) (w : World) (hs : b.text.length ≤ 67108864) (hn : n ≤ 9223372036854775807) :
    Calls Yaac.prog 52 #[.agg #[.int .i64 b.kind, .int .i64 b.level, .string (mk b.text)], .int .i64 n] w fun e w' => ∃ v', e = .returned v' ∧ Own w' w.heap.size tStr v' (rblock (wid n) b) ∧ Below w.heap.size w w' := by
  obtain ⟨kd, lv, txt⟩ := b
  simp only at hs ⊢
  by_cases h5 : kd = 5
  · subst h5; exact rb52_code lv txt n w hs hn
  by_cases h6 : kd = 6
  · subst h6; exact rb52_rule lv txt n w hs hn
  by_cases h2 : kd = 2
  · subst h2; exact rb52_head lv txt n w hs hn
  by_cases h3 : kd = 3
  · subst h3; exact rb52_item lv txt n w hs hn
  by_cases h4 : kd = 4
  · subst h4; exact rb52_quote lv txt n w hs hn
  exact rb52_para kd lv ⟨h5, h6, h2, h3, h4⟩ txt n w hs hn
end Go.Proofs.Ybuaaw
