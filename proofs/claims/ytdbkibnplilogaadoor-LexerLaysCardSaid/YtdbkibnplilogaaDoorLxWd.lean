/-
  Walks: all: all whole.
-/
import Derived.Test.YtdbkibnplilogaaDoorLxWa
import Derived.Test.YtdbkibnplilogaaDoorLxWb
import Derived.Test.YtdbkibnplilogaaDoorLxWc
set_option linter.unusedVariables false
namespace Go.Proofs
open Go.RowKit Go.Lx Go.Lt

set_option maxHeartbeats 16000000 in
set_option maxRecDepth 100000 in
theorem Tryd.all_any (B b : Nat) (s : ByteArray) (w : World) (h : Tryd.LexAt B b s ⟨0, [], 0, [0]⟩ w) (hT : Tryd.TabsIn B w) (hs : s.size ≤ 65536) :
    Calls Tryd.prog 18 #[.pointer (some ⟨b, 0, none⟩)] w (Tryd.AllOut B b s w (goes s.data.toList ⟨0, [], 0, [0]⟩ true 0)) := by
  obtain ⟨RES, hRES⟩ : ∃ r, goes s.data.toList ⟨0, [], 0, [0]⟩ true 0 = r := ⟨_, rfl⟩
  rw [hRES]
  have H0 := Lib.hid h
  have HRES := Lib.hid hRES
  have HT := Lib.hid hT
  clear h hRES hT
  go_enter Tryd.func18, Tryd.ntmps18
  go_wp2
  refine wp_scope_four (Tryd.AllF b) (Tryd.AllJ B b s w RES) (Tryd.allM b s) rfl rfl rfl rfl ?_ (Tryd.all_end B b s w RES hs _ rfl) (fun h3 => Tryd.all_over B b s w RES hs _ rfl h3 _ rfl) (fun h1 => Tryd.all_next B b s w RES hs HT.out _ rfl h1 _ rfl) (fun h2 => Tryd.all_line B b s w RES hs _ rfl h2 _ rfl) ?_
  · rintro l wl ⟨st, -, -, -, -, -, hC⟩
    match l, hC with
    | 0, _ => omega
    | 1, _ => omega
    | 2, _ => omega
    | 3, _ => omega
  · intro hline
    refine ⟨Tryd.allM b s 0 w, ?_⟩
    go_wp2_with fail
    go_step3
    rename_i K hK
    refine hK _ _ (hline.out _ _ _ ⟨_, ?_, rfl⟩ ⟨⟨0, [], 0, [0]⟩, H0.out, Below.refl _ _, Nat.zero_le _, Nat.zero_le _, rfl, rfl, by simp, HRES.out⟩ (Nat.le_refl _))
    rfl
end Go.Proofs
