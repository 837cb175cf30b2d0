/- The statements' short and shorts and the document's Slot, Fits, Room and Same (layer 20), as calls. -/
import Derived.Test.YtoafebndlldclaaDoorTxtA
import Derived.Test.YtoafebndlldclaaDoorStoreP
import Derived.Test.YtoafebndlldclaaDoorPr3
namespace Go.Proofs.YtoafebndlldclaaDoor.St
open Go Go.RowKit Go.Shelf Dk Fr Wl Go.Proofs.YtoafebndlldclaaDoor.PAll Go.Proofs.YtoafebndlldclaaDoorW.PrintWords Go.Proofs.YtoafebndlldclaaDoorW.PrintLast

def shortL (l : List Bs) : List Bs := (l.take 6).map fun t => t.take 120
theorem short_len (l : List Bs) : (shortL l).length ≤ 6 := by unfold shortL; rw [List.length_map, List.length_take]; omega
theorem short_small (l : List Bs) : ∀ t ∈ shortL l, t.length ≤ 120 := by
  intro t ht
  obtain ⟨s, _, rfl⟩ := List.mem_map.1 ht
  rw [List.length_take]; omega
theorem szs_le (n : Nat) : ∀ (l : List Bs), (∀ t ∈ l, t.length ≤ n) → szs l ≤ (24 + n) * l.length := by
  intro l
  induction l with
  | nil => intro _; simp [szs]
  | cons x l ih =>
    intro h
    have h1 := ih (fun t ht => h t (by simp [ht]))
    have h2 := h x (by simp)
    simp only [szs, List.length_cons, Nat.mul_add, Nat.mul_one]
    omega
theorem szs_short (l : List Bs) : szs (shortL l) ≤ 864 := by
  have h1 := szs_le 120 _ (short_small l)
  have h2 := short_len l
  omega

theorem short_some (s : ByteArray) (hs : s.size ≤ 9223372036854775807) : syzygylaw20_short.f s = some ⟨(s.data.toList.take 120).toArray⟩ := by
  have hm : mn (s.size : Int) 120 = ((min s.size 120 : Nat) : Int) := by unfold mn; split <;> omega
  unfold syzygylaw20_short.f
  rw [hm, if_pos (by omega), if_pos (by omega), Int.toNat_natCast]
  congr 1
  apply ext_list
  rw [extract_list, List.drop_zero]
  show s.data.toList.take _ = s.data.toList.take 120
  have := list_size s
  rw [List.take_eq_take_iff]
  omega
theorem short_call (s : ByteArray) (hs : s.size ≤ 9223372036854775807) (w : World) : Calls Tryd.prog 29 #[.string s] w fun e w' => e = .returned (.string ⟨(s.data.toList.take 120).toArray⟩) ∧ Below w.heap.size w w' :=
  syzygylaw20_short.calls s _ w (short_some s hs)

theorem shorts_loop (l : List Bs) (hl : l.length ≤ 9223372036854775807) (hs : ∀ t ∈ l, t.length ≤ 9223372036854775807) (d : Nat) : ∀ (k i : Nat), i + d = min l.length 6 → d < k → syzygylaw20_shorts.l0 k (bas l) (bas ((l.take i).map fun t => t.take 120)) i = some (bas (shortL l)) := by
  have hbl := bas_length l
  induction d with
  | zero =>
    intro k i hi hk
    obtain ⟨k, rfl⟩ : ∃ m, k = m + 1 := ⟨k - 1, by omega⟩
    simp only [syzygylaw20_shorts.l0]
    have he : (l.take i).map (fun t => t.take 120) = shortL l := by
      unfold shortL
      by_cases h8 : l.length ≤ 6
      · rw [List.take_of_length_le (by omega), List.take_of_length_le (by omega)]
      · rw [show i = 6 from by omega]
    rw [he]
    by_cases h : i < l.length
    · rw [if_pos (by omega), if_neg (by omega)]
    · rw [if_neg (by omega)]
  | succ d ih =>
    intro k i hi hk
    obtain ⟨k, rfl⟩ : ∃ m, k = m + 1 := ⟨k - 1, by omega⟩
    have hil : i < l.length := by omega
    obtain ⟨t, ht⟩ : ∃ t, l[i]? = some t := ⟨_, List.getElem?_eq_getElem hil⟩
    have htl := hs t (List.mem_of_getElem? ht)
    have hsh := short_some ⟨t.toArray⟩ (by rw [ba_size']; exact htl)
    rw [show (⟨t.toArray⟩ : ByteArray).data.toList = t from by simp] at hsh
    simp only [syzygylaw20_shorts.l0]
    rw [if_pos (by omega), if_pos (by omega), if_pos (by omega), bas_at ht, hsh, Option.bind_some, if_pos (by simp [bas]; omega), wrap_ok (by omega) (by omega)]
    have hn : bas ((l.take i).map fun t => t.take 120) ++ [(⟨(t.take 120).toArray⟩ : ByteArray)] = bas ((l.take (i + 1)).map fun t => t.take 120) := by
      rw [List.take_add_one (l := l), ht]
      unfold bas
      simp
    rw [hn]
    have := ih k (i + 1) (by omega) (by omega)
    rw [show ((i + 1 : Nat) : Int) = (i : Int) + 1 from by omega] at this
    exact this
theorem shorts_any {w : World} {v : Value} {l : List Bs} (h : RowT w v l) (hs : ∀ t ∈ l, t.length ≤ 9223372036854775807) :
    Calls Tryd.prog 30 #[v] w fun e w' => ∃ v', e = .returned v' ∧ Texts w' w.heap.size v' (shortL l) ∧ Below w.heap.size w w' := by
  have hh := h
  obtain ⟨a, c, rfl, hc, _, _⟩ := h
  have hk := shorts_loop l (len_row hh) hs (min l.length 6) (min l.length 6 + 1) 0 (by omega) (by omega)
  have hr := syzygylaw20_shorts.calls (min l.length 6 + 1) a c (bas l) (bas (shortL l)) w (rowT_C hh) (by rw [bas_length]; exact hc) (by unfold syzygylaw20_shorts.f; simpa [bas] using hk)
  rw [bas_length] at hr
  refine hr.mono ?_
  rintro e w' ⟨v', rfl, hR, hb⟩
  refine ⟨v', rfl, ?_, hb⟩
  have := texts_of_R hR
  rwa [show (bas (shortL l)).map (fun s => s.data.toList) = shortL l from by unfold bas; rw [List.map_map]; simp [Function.comp_def]] at this

theorem refslot_some (n : Nat) (hn : n ≤ 1000000) : syzygyref20_Slot.f (n : Int) = some ((slotN n : Nat) : Int) := by
  unfold syzygyref20_Slot.f slotN
  by_cases h1 : n < 8
  · rw [if_pos (by omega), if_pos (by omega)]; rfl
  · by_cases h2 : 4096 < n
    · rw [if_neg (by omega), if_pos (by omega), if_pos (by omega)]; rfl
    · rw [if_neg (by omega), if_neg (by omega), if_neg (by omega), Int.tdiv_eq_ediv_of_nonneg (by omega), wrap_ok (by omega) (by omega)]
      congr 1
theorem slot_le (n : Nat) : 2 * slotN n ≤ n ∧ slotN n ≤ 1024 := by unfold slotN; split <;> omega
theorem refslot_call (n : Nat) (hn : n ≤ 1000000) (w : World) : Calls Tryd.prog 28 #[.int .i64 n] w fun e w' => e = .returned (.int .i64 (slotN n : Nat)) ∧ Below w.heap.size w w' :=
  (syzygyref20_Slot.calls _ _ w (refslot_some n hn)).mono fun _ _ ⟨he, hd⟩ => ⟨he, hd.below⟩
theorem fits_call (n : Nat) (hn : n ≤ 1000000) (s : ByteArray) (hs : s.size ≤ 1000000000) (w : World) : Calls Tryd.prog 23 #[.int .i64 n, .string s] w fun e w' => e = .returned (.bool (decide (s.size + 24 ≤ 64 * slotN n))) ∧ Below w.heap.size w w' := by
  refine (syzygyref20_Fits.calls _ _ _ w ?_).mono fun _ _ ⟨he, hd⟩ => ⟨he, hd.below⟩
  unfold syzygyref20_Fits.f
  have := slot_le n
  rw [refslot_some n hn, Option.bind_some, wrap_ok (by omega) (by omega), wrap_ok (by omega) (by omega)]
  congr 1
  rw [decide_eq_decide]
  omega
theorem room20_call (n : Nat) (hn : n ≤ 1000000) (w : World) : Calls Tryd.prog 31 #[.int .i64 n] w fun e w' => e = .returned (.int .i64 ((64 * (n - 2 * slotN n) : Nat) : Int)) ∧ Below w.heap.size w w' := by
  refine (syzygyref20_Room.calls _ _ w ?_).mono fun _ _ ⟨he, hd⟩ => ⟨he, hd.below⟩
  unfold syzygyref20_Room.f
  have := slot_le n
  rw [refslot_some n hn, Option.bind_some, wrap_ok (x := 2 * ((slotN n : Nat) : Int)) (by omega) (by omega), wrap_ok (x := (n : Int) - 2 * ((slotN n : Nat) : Int)) (by omega) (by omega), wrap_ok (by omega) (by omega)]
  congr 1
  omega

def sameB (l p : List Bs) : Bool := decide (l = p)
theorem same_call {w : World} {v u : Value} {l p : List Bs} (h : RowT w v l) (h2 : RowT w u p) (hl : l.length ≤ 4611686018427387904) :
    Calls Tryd.prog 32 #[v, u] w fun e w' => e = .returned (.bool (decide (l = p))) ∧ Below w.heap.size w w' := by
  have hh := h
  have hh2 := h2
  obtain ⟨a, c, rfl, hc, _, _⟩ := h
  obtain ⟨a2, c2, rfl, hc2, _, _⟩ := h2
  have hf : syzygyref20_Same.f (p.length + 1) (bas l) (bas p) = some (decide (l = p)) := by
    unfold syzygyref20_Same.f syzygyref19_Prefix.f
    rw [bas_length, bas_length]
    by_cases hlen : (l.length : Int) = (p.length : Int)
    · have hlp : l.length = p.length := by omega
      rw [if_pos hlen, if_neg (by omega)]
      have := pref_loop l p (by omega) hl p.length (p.length + 1) 0 (by omega) (by omega)
      rw [Int.natCast_zero] at this
      rw [this, Option.bind_some, List.drop_zero, List.drop_zero, List.take_of_length_le (by omega)]
      congr 1
      rw [decide_eq_decide]
      exact ⟨fun h => h.symm, fun h => h.symm⟩
    · rw [if_neg hlen]
      congr 1
      symm
      rw [decide_eq_false_iff_not]
      rintro rfl
      exact hlen rfl
  have hr := syzygyref20_Same.calls (p.length + 1) a c (bas l) a2 c2 (bas p) _ w (rowT_C hh) (by rw [bas_length]; exact hc) (rowT_C hh2) (by rw [bas_length]; exact hc2) hf
  rw [bas_length, bas_length] at hr
  exact hr.mono fun e w' ⟨he, hd⟩ => ⟨he, hd.below⟩

end Go.Proofs.YtoafebndlldclaaDoor.St
