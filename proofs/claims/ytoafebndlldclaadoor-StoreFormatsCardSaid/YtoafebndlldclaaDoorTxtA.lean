/- Rows of texts; the document's Size and Prefix (layer 19), as calls. -/
import Derived.Test.YtoafebndlldclaaDoorAppW
import Derived.Test.YtoafebndlldclaaDoorPr5
import Derived.Test.YtoafebndlldclaaDoorLogD
namespace Go.Proofs.YtoafebndlldclaaDoor.Wl
open Go Go.RowKit Go.Shelf Dk Fr Go.Proofs.YtoafebndlldclaaDoor.PAll Go.Proofs.YtoafebndlldclaaDoorW.PrintWords Go.Proofs.YtoafebndlldclaaDoorW.PrintLast

def bas (l : List Bs) : List ByteArray := l.map fun t => ⟨t.toArray⟩
theorem bas_length (l : List Bs) : (bas l).length = l.length := by simp [bas]
theorem bas_at {l : List Bs} {i : Nat} {t : Bs} (h : l[i]? = some t) : rdOf ByteArray.empty (bas l) (i : Int) = ⟨t.toArray⟩ := by
  unfold rdOf bas
  rw [Int.toNat_natCast, List.getD_eq_getElem?_getD, List.getElem?_map, h]; rfl
theorem ba_size' (t : Bs) : (⟨t.toArray⟩ : ByteArray).size = t.length := by show t.toArray.size = _; simp

section
variable {w w' : World} {v : Value} {l : List Bs} {base : Nat}
theorem rowT_C {A : Option Addr} {n c : Nat} (h : RowT w (.slice A n c) l) : Kd.string.C w A (bas l).length (bas l) := by
  obtain ⟨a, cap, h1, h2, h3, h4⟩ := h
  injection h1 with e1 e2 e3
  subst e1
  rw [bas_length]
  refine ⟨bas_length l, by unfold maxLen at h3; omega, fun hp => ?_⟩
  obtain ⟨b, off, k0, k1, k2⟩ := h4 (by rintro rfl; simp at hp)
  refine ⟨⟨b, off, none⟩, k0, fun j p hj => ⟨[.string p], rfl, rfl, fun i u hu => ?_⟩⟩
  have hi : i = 0 := by have := (List.getElem?_eq_some_iff.1 hu).1; simpa using this
  subst hi
  simp only [List.getElem?_cons_zero, Option.some.injEq] at hu
  subst hu
  unfold bas at hj
  rw [List.getElem?_map] at hj
  obtain ⟨t, ht, rfl⟩ := Option.map_eq_some_iff.1 hj
  have := k2 j t ht
  rw [show (⟨b, off, none⟩ : Addr).add (j * (Kd.string).sz + 0) = ⟨b, off + j, none⟩ from by
    show (⟨b, off, none⟩ : Addr).add (j * 1 + 0) = _
    rw [Nat.mul_one, Nat.add_zero]; unfold Addr.add; split <;> simp_all]
  exact this

theorem texts_of_R {r : List ByteArray} (h : Kd.string.R 9 w base (fun _ => True) v r) : Texts w base v (r.map fun s => s.data.toList) := by
  have h1 := Kd.own_of_R h
  unfold Texts
  rw [List.length_map, List.map_map]
  exact h1
theorem Texts.len (h : Texts w base v l) : ∃ a c, v = .slice a l.length c := by
  rcases h.2 with ⟨rfl, h0⟩ | ⟨g, cap, cur, rfl, _⟩
  · exact ⟨none, 0, by rw [h0]⟩
  · exact ⟨_, _, rfl⟩
theorem Texts.row (h : Texts w base v l) : RowT w v l := by
  have hh := h
  rcases h.2 with ⟨rfl, h0⟩ | ⟨g, cap, cur, rfl, hb, hg, hc, hm, hcs, ht⟩
  · exact ⟨none, 0, by rw [h0], by omega, by decide, fun hne => absurd (List.eq_nil_of_length_eq_zero h0) hne⟩
  · exact ⟨some ⟨g, 0, none⟩, cap, rfl, hc, hm, fun hne => ⟨g, 0, rfl, (Array.getElem?_eq_some_iff.1 hg).1, fun i x hx => by
      rw [Nat.zero_add]
      exact row_cell hh (by rw [List.getElem?_map, hx]; rfl)⟩⟩
theorem Texts.below {B : Nat} (h : Texts w base v l) (hb : Below B w w') (hB : w.heap.size ≤ B) : Texts w' base v l := by
  refine ⟨h.1, ?_⟩
  rcases h.2 with hn | ⟨g', cap, cur, hv, hbg, hgg, rest⟩
  · exact .inl hn
  · exact .inr ⟨g', cap, cur, hv, hbg, (hb.block _ (by have := (Array.getElem?_eq_some_iff.1 hgg).1; omega)).trans hgg, rest⟩
theorem Texts.kp {S : Nat → Prop} (h : Texts w base v l) (hb : Kp S w w') (hS : ∀ k, base ≤ k → k < w.heap.size → (∃ cs f, w.heap[k]? = some (.cells cs 9 f)) → ¬ S k) : Texts w' base v l := by
  refine ⟨h.1, ?_⟩
  rcases h.2 with hn | ⟨g', cap, cur, hv, hbg, hgg, rest⟩
  · exact .inl hn
  · exact .inr ⟨g', cap, cur, hv, hbg, (hb.block _ (Array.getElem?_eq_some_iff.1 hgg).1 (hS _ hbg (Array.getElem?_eq_some_iff.1 hgg).1 ⟨_, _, hgg⟩)).trans hgg, rest⟩
end

/-! ### what the document's functions answer -/

theorem wrap_ok {x : Int} (h0 : -9223372036854775808 ≤ x) (h1 : x < 9223372036854775808) : wrap64 x = x := by unfold wrap64; omega

theorem len_row {w : World} {v : Value} {l : List Bs} (h : RowT w v l) : l.length ≤ 9223372036854775807 := by
  obtain ⟨a, c, _, h2, h3, _⟩ := h
  unfold maxLen at h3; omega

theorem szs_take_le (l : List Bs) (i : Nat) : szs (l.take i) ≤ szs l := by
  have := szs_append (l.take i) (l.drop i)
  rw [List.take_append_drop] at this
  omega
theorem size_loop (l : List Bs) (hl : szs l ≤ 4611686018427387904) (d : Nat) : ∀ (k i : Nat), i + d = l.length → d < k → syzygyref19_Size.l0 k (bas l) (szs (l.take i) : Nat) i = some ((szs l : Nat) : Int) := by
  have hbl := bas_length l
  have h24 := szs_len l
  induction d with
  | zero =>
    intro k i hi hk
    obtain ⟨k, rfl⟩ : ∃ m, k = m + 1 := ⟨k - 1, by omega⟩
    simp only [syzygyref19_Size.l0]
    rw [if_neg (by omega), List.take_of_length_le (by omega)]
  | succ d ih =>
    intro k i hi hk
    obtain ⟨k, rfl⟩ : ∃ m, k = m + 1 := ⟨k - 1, by omega⟩
    have hil : i < l.length := by omega
    obtain ⟨t, ht⟩ : ∃ t, l[i]? = some t := ⟨_, List.getElem?_eq_getElem hil⟩
    have hn : szs (l.take (i + 1)) = szs (l.take i) + (24 + t.length) := by
      rw [List.take_add_one, ht, szs_append]; simp [szs]
    have hle := szs_take_le l (i + 1)
    simp only [syzygyref19_Size.l0]
    rw [if_pos (by omega), if_pos (by omega), bas_at ht, ba_size', wrap_ok (x := ((szs (l.take i) : Nat) : Int) + 24) (by omega) (by omega), wrap_ok (x := ((szs (l.take i) : Nat) : Int) + 24 + (t.length : Int)) (by omega) (by omega), wrap_ok (by omega) (by omega)]
    have := ih k (i + 1) (by omega) (by omega)
    rw [show ((i + 1 : Nat) : Int) = (i : Int) + 1 from by omega, show ((szs (l.take (i + 1)) : Nat) : Int) = ((szs (l.take i) : Nat) : Int) + 24 + (t.length : Int) from by omega] at this
    exact this
theorem size19 {w : World} {v : Value} {l : List Bs} (h : RowT w v l) (hl : szs l ≤ 4611686018427387904) :
    Calls Tryd.prog 19 #[v] w fun e w' => e = .returned (.int .i64 (szs l : Nat)) ∧ Below w.heap.size w w' := by
  have hh := h
  obtain ⟨a, c, rfl, hc, _, _⟩ := h
  have hk := size_loop l hl l.length (l.length + 1) 0 (by omega) (by omega)
  have hr := syzygyref19_Size.calls (l.length + 1) a c (bas l) _ w (rowT_C hh) (by rw [bas_length]; exact hc) (by unfold syzygyref19_Size.f; simpa [szs] using hk)
  rw [bas_length] at hr
  exact hr.mono fun e w' ⟨he, hd⟩ => ⟨he, hd.below⟩

theorem pref_loop (l p : List Bs) (hp : p.length ≤ l.length) (hl : l.length ≤ 4611686018427387904) (d : Nat) : ∀ (k i : Nat), i + d = p.length → d < k → syzygyref19_Prefix.l0 k (bas l) (bas p) i = some (decide (p.drop i = (l.take p.length).drop i)) := by
  have hbl := bas_length l
  have hbp := bas_length p
  induction d with
  | zero =>
    intro k i hi hk
    obtain ⟨k, rfl⟩ : ∃ m, k = m + 1 := ⟨k - 1, by omega⟩
    simp only [syzygyref19_Prefix.l0]
    rw [if_neg (by omega), List.drop_eq_nil_of_le (by omega), List.drop_eq_nil_of_le (by rw [List.length_take]; omega)]
    simp
  | succ d ih =>
    intro k i hi hk
    obtain ⟨k, rfl⟩ : ∃ m, k = m + 1 := ⟨k - 1, by omega⟩
    have hip : i < p.length := by omega
    have hil : i < l.length := by omega
    have hp1 : p.drop i = p[i] :: p.drop (i + 1) := List.drop_eq_getElem_cons hip
    have hl1 : (l.take p.length).drop i = l[i] :: (l.take p.length).drop (i + 1) := by
      rw [List.drop_eq_getElem_cons (by rw [List.length_take]; omega), List.getElem_take]
    have hiff : (p.drop i = (l.take p.length).drop i) ↔ (p[i] = l[i] ∧ p.drop (i + 1) = (l.take p.length).drop (i + 1)) := by rw [hp1, hl1, List.cons.injEq]
    simp only [syzygyref19_Prefix.l0]
    rw [if_pos (by omega), if_pos (by omega), if_pos (by omega), bas_at (List.getElem?_eq_getElem hil), bas_at (List.getElem?_eq_getElem hip), ByteArray.toList_eq, ByteArray.toList_eq, wrap_ok (by omega) (by omega)]
    by_cases he : l[i] = p[i]
    · rw [if_pos (by rw [he])]
      have := ih k (i + 1) (by omega) (by omega)
      rw [show ((i + 1 : Nat) : Int) = (i : Int) + 1 from by omega] at this
      rw [this]
      congr 1
      rw [decide_eq_decide, hiff]
      exact ⟨fun h => ⟨he.symm, h⟩, fun h => h.2⟩
    · rw [if_neg (by simpa using he)]
      congr 1
      symm
      rw [decide_eq_false_iff_not, hiff]
      rintro ⟨h, _⟩
      exact he h.symm
theorem prefix19 {w : World} {v u : Value} {l p : List Bs} (h : RowT w v l) (h2 : RowT w u p) (hl : l.length ≤ 4611686018427387904) :
    Calls Tryd.prog 18 #[v, u] w fun e w' => e = .returned (.bool (prefB l p)) ∧ Below w.heap.size w w' := by
  have hh := h
  have hh2 := h2
  obtain ⟨a, c, rfl, hc, _, _⟩ := h
  obtain ⟨a2, c2, rfl, hc2, _, _⟩ := h2
  have hf : syzygyref19_Prefix.f (p.length + 1) (bas l) (bas p) = some (prefB l p) := by
    unfold syzygyref19_Prefix.f prefB
    rw [bas_length, bas_length]
    by_cases hlen : (p.length : Int) > (l.length : Int)
    · rw [if_pos hlen]
      congr 1
      symm
      rw [decide_eq_false_iff_not]
      intro he
      have := congrArg List.length he
      rw [List.length_take] at this
      omega
    · rw [if_neg hlen]
      have hk := pref_loop l p (by omega) hl p.length (p.length + 1) 0 (by omega) (by omega)
      simpa using hk
  have hr := syzygyref19_Prefix.calls (p.length + 1) a c (bas l) a2 c2 (bas p) _ w (rowT_C hh) (by rw [bas_length]; exact hc) (rowT_C hh2) (by rw [bas_length]; exact hc2) hf
  rw [bas_length, bas_length] at hr
  exact hr.mono fun e w' ⟨he, hd⟩ => ⟨he, hd.below⟩

end Go.Proofs.YtoafebndlldclaaDoor.Wl
