/- The call of the law DiskArgs is proved: it answers true, whatever the place and the text. -/
import Derived.Test.YtoafebndlldclaaDiskH
import Derived.OpenShut
namespace Go.Proofs.Ytoafebndlldclaa.Dk
open Go Go.RowKit Go.ChangeMaps Go.MapKept

def four (f : Nat) (o : Bool) : DS := ⟨[zeros 64, zeros 64, zeros 64, zeros 64], [none, none, none, none], f, o⟩
theorem owns_len {w : World} {base : Nat} {e : TypeId} {v : Value} {n : Nat} {xs : List Value} (h : w.ownsRow base e 1 v n xs) : ∃ A c, v = .slice A n c := by
  rcases h.2 with ⟨rfl, hz⟩ | ⟨q, cap, cur, rfl, _⟩
  · exact ⟨none, 0, by rw [hz]⟩
  · exact ⟨_, cap, rfl⟩

set_option maxRecDepth 100000 in
set_option maxHeartbeats 1000000 in
theorem args_long (i : Int) (s : ByteArray) (W : World) (h1 : 300 < s.size) : Calls Try.prog 6 #[.int .i64 i, .string s] W fun e w' => e = .returned (.bool true) ∧ Below W.heap.size W w' := by
  have h2 : decide (300 < s.size) = true := decide_eq_true h1
  go_enter Try.func6, Try.ntmps6
  go_wp2_with (go_at_call 8; refine (shown_any _).mono ?_; rintro e' w' ⟨rfl, hb⟩)
  go_ret
  exact ⟨rfl, hb⟩

set_option maxRecDepth 100000 in
set_option maxHeartbeats 2000000 in
theorem args_good (i : Int) (s : ByteArray) (W : World) (h0 : 0 ≤ i) (h4 : i < 4) (hs : s.size ≤ 64) : Calls Try.prog 6 #[.int .i64 i, .string s] W fun e w' => e = .returned (.bool true) ∧ Below W.heap.size W w' := by
  have h2 : decide (300 < s.size) = false := decide_eq_false (by omega)
  have hsl : s.data.toList.length = s.size := by rw [Array.length_toList]; rfl
  have hw0 : within (four 1 false) i = 0 := within_some rfl h0 (by show i < 4; omega)
  have hrd : (read (four 1 false) i).2 = 0 := by unfold read; rw [hw0]; rfl
  have hwr : write (four 1 false) i s.data.toList = (four 0 true, 180) := by
    unfold write
    rw [hw0, if_neg (by decide), if_neg (by omega)]
    rfl
  have HRD := Lib.hid hrd
  have HWR := Lib.hid hwr
  clear hsl hw0 hrd hwr
  go_enter Try.func6, Try.ntmps6
  go_wp2_with fail
  refine (shown_any _).mono ?_
  rintro e w0 ⟨rfl, hb0⟩
  go_wp2_with fail
  refine (made 4 (by decide) (by decide) W w0 hb0).mono ?_
  rintro e w1 ⟨b, g, bm, rfl, h, _⟩
  have H1 := Lib.hid h
  clear h
  go_wp2_with fail
  refine (H1.out.setFuse 1 (by decide)).mono ?_
  rintro e w2 ⟨rfl, h, _⟩
  have H2 : Hid (At W w2 b g bm (four 1 false)) := h
  clear h H1
  go_wp2_with fail
  have c3 := H2.out.read i
  rw [HRD.out] at c3
  refine c3.mono ?_
  rintro e w3 ⟨rfl, h, _⟩
  have H3 := Lib.hid h
  clear c3 h H2
  go_wp2_with fail
  have c4 := H3.out.write i s (by omega)
  rw [HWR.out] at c4
  refine c4.mono ?_
  rintro e w4 ⟨rfl, h, _⟩
  have H4 := Lib.hid h
  clear c4 h H3
  have hnot : ∀ (x : Bool) (w : World), (Op.unary .not (.bool x)).run Try.prog w = .ok (.bool (!x)) w := fun _ _ => rfl
  go_wp2_with fail
  refine H4.out.up.mono ?_
  rintro e w5 ⟨rfl, rfl⟩
  go_wp2_with fail
  go_ret
  exact ⟨rfl, H4.out.bel⟩

set_option maxRecDepth 100000 in
set_option maxHeartbeats 4000000 in
theorem args_bad (i : Int) (s : ByteArray) (W : World) (hl : s.size ≤ 300) (x : Int) (inn : Bool) (hb1 : decide (0 ≤ i) = true → decide (i < 4) = inn) (hb2 : decide (0 ≤ i) = false → inn = false) (hgood : inn = true → 64 < s.size ∧ x = 0) (hout : inn = false → x = 181)
    (hrd : (read (four 1 false) i).2 = x) (hwr : write (four 1 false) i s.data.toList = (four 1 false, cond inn 1 181)) : Calls Try.prog 6 #[.int .i64 i, .string s] W fun e w' => e = .returned (.bool true) ∧ Below W.heap.size W w' := by
  have h2 : decide (300 < s.size) = false := decide_eq_false (by omega)
  have HRD := Lib.hid hrd
  have HWR := Lib.hid hwr
  have hsy : sync (four 1 false) = (four 0 true, 180) := rfl
  have hnot : ∀ (x : Bool) (w : World), (Op.unary .not (.bool x)).run Try.prog w = .ok (.bool (!x)) w := fun _ _ => rfl
  have HSY := Lib.hid hsy
  clear hrd hwr hsy
  cases inn with
  | true =>
    obtain ⟨hs, rfl⟩ := hgood rfl
    have h0 : 0 ≤ i := by
      by_cases h : 0 ≤ i
      · exact h
      · have := hb2 (decide_eq_false h); cases this
    have h4 : i < 4 := by simpa using hb1 (decide_eq_true h0)
    clear hb1 hb2 hgood hout
    go_enter Try.func6, Try.ntmps6
    go_wp2_with fail
    refine (shown_any _).mono ?_
    rintro e w0 ⟨rfl, hb0⟩
    go_wp2_with fail
    refine (made 4 (by decide) (by decide) W w0 hb0).mono ?_
    rintro e w1 ⟨b, g, bm, rfl, h, _⟩
    have H1 := Lib.hid h
    clear h
    go_wp2_with fail
    refine (H1.out.setFuse 1 (by decide)).mono ?_
    rintro e w2 ⟨rfl, h, _⟩
    have H2 : Hid (At W w2 b g bm (four 1 false)) := h
    clear h H1
    go_wp2_with fail
    have c3 := H2.out.read i
    rw [HRD.out] at c3
    refine c3.mono ?_
    rintro e w3 ⟨rfl, h, _⟩
    have H3 := Lib.hid h
    clear c3 h H2
    go_wp2_with fail
    have c4 := H3.out.write i s (by omega)
    rw [HWR.out] at c4
    rw [show cond true (1 : Int) 181 = 1 from rfl] at c4
    refine c4.mono ?_
    rintro e w4 ⟨rfl, h, _⟩
    have H4 := Lib.hid h
    clear c4 h H3
    go_wp2_with fail
    refine H4.out.up.mono ?_
    rintro e w5 ⟨rfl, rfl⟩
    go_wp2_with fail
    refine H4.out.dirty.mono ?_
    rintro e w6 ⟨v, rfl, hv, h, _⟩
    obtain ⟨A, c, rfl⟩ := owns_len hv
    have H6 := Lib.hid h
    clear h hv H4
    go_wp2_with fail
    have c7 := H6.out.sync
    rw [HSY.out] at c7
    refine c7.mono ?_
    rintro e w7 ⟨rfl, h, _⟩
    have H7 := Lib.hid h
    clear c7 h H6
    go_wp2_with fail
    go_ret
    exact ⟨rfl, H7.out.bel⟩
  | false =>
    obtain rfl := hout rfl
    by_cases h0 : 0 ≤ i
    · have h4 : ¬ i < 4 := by
        have := hb1 (decide_eq_true h0)
        simpa using this
      clear hb1 hb2 hgood hout
      go_enter Try.func6, Try.ntmps6
      go_wp2_with fail
      refine (shown_any _).mono ?_
      rintro e w0 ⟨rfl, hb0⟩
      go_wp2_with fail
      refine (made 4 (by decide) (by decide) W w0 hb0).mono ?_
      rintro e w1 ⟨b, g, bm, rfl, h, _⟩
      have H1 := Lib.hid h
      clear h
      go_wp2_with fail
      refine (H1.out.setFuse 1 (by decide)).mono ?_
      rintro e w2 ⟨rfl, h, _⟩
      have H2 : Hid (At W w2 b g bm (four 1 false)) := h
      clear h H1
      go_wp2_with fail
      have c3 := H2.out.read i
      rw [HRD.out] at c3
      refine c3.mono ?_
      rintro e w3 ⟨rfl, h, _⟩
      have H3 := Lib.hid h
      clear c3 h H2
      go_wp2_with fail
      have c4 := H3.out.write i s (by omega)
      rw [HWR.out] at c4
      rw [show cond false (1 : Int) 181 = 181 from rfl] at c4
      refine c4.mono ?_
      rintro e w4 ⟨rfl, h, _⟩
      have H4 := Lib.hid h
      clear c4 h H3
      go_wp2_with fail
      refine H4.out.up.mono ?_
      rintro e w5 ⟨rfl, rfl⟩
      go_wp2_with fail
      refine H4.out.dirty.mono ?_
      rintro e w6 ⟨v, rfl, hv, h, _⟩
      obtain ⟨A, c, rfl⟩ := owns_len hv
      have H6 := Lib.hid h
      clear h hv H4
      go_wp2_with fail
      have c7 := H6.out.sync
      rw [HSY.out] at c7
      refine c7.mono ?_
      rintro e w7 ⟨rfl, h, _⟩
      have H7 := Lib.hid h
      clear c7 h H6
      go_wp2_with fail
      go_ret
      exact ⟨rfl, H7.out.bel⟩
    · clear hb1 hb2 hgood hout
      go_enter Try.func6, Try.ntmps6
      go_wp2_with fail
      refine (shown_any _).mono ?_
      rintro e w0 ⟨rfl, hb0⟩
      go_wp2_with fail
      refine (made 4 (by decide) (by decide) W w0 hb0).mono ?_
      rintro e w1 ⟨b, g, bm, rfl, h, _⟩
      have H1 := Lib.hid h
      clear h
      go_wp2_with fail
      refine (H1.out.setFuse 1 (by decide)).mono ?_
      rintro e w2 ⟨rfl, h, _⟩
      have H2 : Hid (At W w2 b g bm (four 1 false)) := h
      clear h H1
      go_wp2_with fail
      have c3 := H2.out.read i
      rw [HRD.out] at c3
      refine c3.mono ?_
      rintro e w3 ⟨rfl, h, _⟩
      have H3 := Lib.hid h
      clear c3 h H2
      go_wp2_with fail
      have c4 := H3.out.write i s (by omega)
      rw [HWR.out] at c4
      rw [show cond false (1 : Int) 181 = 181 from rfl] at c4
      refine c4.mono ?_
      rintro e w4 ⟨rfl, h, _⟩
      have H4 := Lib.hid h
      clear c4 h H3
      go_wp2_with fail
      refine H4.out.up.mono ?_
      rintro e w5 ⟨rfl, rfl⟩
      go_wp2_with fail
      refine H4.out.dirty.mono ?_
      rintro e w6 ⟨v, rfl, hv, h, _⟩
      obtain ⟨A, c, rfl⟩ := owns_len hv
      have H6 := Lib.hid h
      clear h hv H4
      go_wp2_with fail
      have c7 := H6.out.sync
      rw [HSY.out] at c7
      refine c7.mono ?_
      rintro e w7 ⟨rfl, h, _⟩
      have H7 := Lib.hid h
      clear c7 h H6
      go_wp2_with fail
      go_ret
      exact ⟨rfl, H7.out.bel⟩

theorem args_walk (a0 : Int) (a1 : ByteArray) (W : World) (_h0 : (Lit.int .i64 a0).wf = true) (_h1 : a1.size ≤ 140737488351232) :
    Calls Try.prog 6 #[.int .i64 a0, .string a1] W fun e w' => e = .returned (.bool true) ∧ Below W.heap.size W w' := by
  have hsl : a1.data.toList.length = a1.size := by rw [Array.length_toList]; rfl
  by_cases hl : a1.size ≤ 300
  · by_cases hin : 0 ≤ a0 ∧ a0 < 4
    · by_cases hs : a1.size ≤ 64
      · exact args_good a0 a1 W hin.1 hin.2 hs
      · have hw0 : within (four 1 false) a0 = 0 := within_some rfl hin.1 (by show a0 < 4; omega)
        refine args_bad a0 a1 W hl 0 true (fun _ => by simpa using hin.2) (fun h => by simp at h; omega) (fun _ => ⟨by omega, rfl⟩) (fun h => by cases h) ?_ ?_
        · unfold read; rw [hw0]; rfl
        · unfold write; rw [hw0, if_neg (by decide), if_pos (by omega)]; rfl
    · have hw0 : within (four 1 false) a0 = 181 := within_out rfl (by show a0 < 0 ∨ 4 ≤ a0; omega)
      refine args_bad a0 a1 W hl 181 false (fun h => by simp at h; simp; omega) (fun _ => rfl) (fun h => by cases h) (fun _ => rfl) ?_ ?_
      · unfold read; rw [hw0]; rfl
      · unfold write; rw [hw0, if_pos (by decide)]; rfl
  · exact args_long a0 a1 W (by omega)
end Go.Proofs.Ytoafebndlldclaa.Dk
