/- For the law WalBytes: a sector of the told bytes, one append more or none, and what every sector then holds. -/
import Derived.Test.YtoafebndlldclaaDoorAppTx
import Derived.Test.YtoafebndlldclaaDoorTxtB
import Derived.Test.YtoafebndlldclaaDoorShown19
namespace Go.Proofs.YtoafebndlldclaaDoor.Wl
open Go Go.RowKit Go.Shelf Dk Fr Go.Proofs.YtoafebndlldclaaDoorW.PrintWords Go.Proofs.YtoafebndlldclaaDoorW.PrintLast

/-! ### Sector -/
def sectL (s : Bs) (k : Nat) : Bs := pad ((s.drop (64 * k)).take 64)
theorem mn_nat (a b : Nat) : mn (a : Int) (b : Int) = ((min a b : Nat) : Int) := by unfold mn; split <;> omega
theorem sector19 (s : Bs) (k : Nat) (hs : s.length ≤ 1000000) (hk : k ≤ 10000) (w : World) :
    Calls Tryd.prog 36 #[.string ⟨s.toArray⟩, .int .i64 k] w fun e w' => e = .returned (.string ⟨(sectL s k).toArray⟩) ∧ Below w.heap.size w w' := by
  refine PAll.syzygyref19_Sector.calls _ _ _ w ?_
  obtain ⟨n, hn⟩ : ∃ n : Nat, n = s.length := ⟨_, rfl⟩
  obtain ⟨f, hf⟩ : ∃ f : Nat, f = min (k * 64) n := ⟨_, rfl⟩
  obtain ⟨t, ht⟩ : ∃ t : Nat, t = min (f + 64) n := ⟨_, rfl⟩
  have e1 : wrap64 ((k : Int) * 64) = ((k * 64 : Nat) : Int) := by rw [wrap_ok (by omega) (by omega)]; omega
  have e2 : wrap64 ((f : Int) + 64) = ((f + 64 : Nat) : Int) := by rw [wrap_ok (by omega) (by omega)]; omega
  have e3 : wrap64 ((t : Int) - (f : Int)) = ((t - f : Nat) : Int) := by rw [wrap_ok (by omega) (by omega)]; omega
  have e4 : wrap64 (64 - ((t - f : Nat) : Int)) = ((64 - (t - f) : Nat) : Int) := by rw [wrap_ok (by omega) (by omega)]; omega
  unfold PAll.syzygyref19_Sector.f
  simp only [ba_size', e1, mn_nat, ← hn, ← hf, e2, ← ht, e3, e4]
  rw [if_pos (by omega), if_pos (by omega), if_pos (by omega), if_pos (by omega), if_pos (by omega), Option.bind_some]
  have hz : strOfNums (List.replicate ((64 - (t - f) : Nat) : Int).toNat 0) = ⟨(zeros (64 - (t - f))).toArray⟩ := by
    rw [Int.toNat_natCast]
    simp [strOfNums, zeros]
  have hx : (⟨s.toArray⟩ : ByteArray).extract ((f : Nat) : Int).toNat ((t : Nat) : Int).toNat = ⟨((s.take t).drop f).toArray⟩ := by
    apply ext_list
    rw [extract_list, Int.toNat_natCast, Int.toNat_natCast]
  rw [hz, hx]
  have hl : ((s.take t).drop f).length = t - f := by rw [List.length_drop, List.length_take]; omega
  rw [if_pos (by rw [ba_size', ba_size', hl, zeros_length]; omega)]
  congr 1
  apply ext_list
  rw [ByteArray.data_append, Array.toList_append]
  show (s.take t).drop f ++ zeros (64 - (t - f)) = sectL s k
  unfold sectL pad
  have : (s.take t).drop f = (s.drop (64 * k)).take 64 := by
    by_cases h : k * 64 ≤ n
    · rw [List.drop_take, show f = 64 * k from by omega, List.take_eq_take_iff, List.length_drop]
      omega
    · rw [List.drop_eq_nil_of_le (by rw [List.length_take]; omega), List.drop_eq_nil_of_le (by omega)]
      rfl
  rw [← this, hl]

/-! ### plain -/
structure BStep (a b ep : Nat) (have_ texts : List Bs) (D : DS) (L : LS) (have' : List Bs) (D' : DS) (L' : LS) (x : Int) : Prop where
  r : appendL D L texts = (D', L', x)
  op : Opened a b ep have' (new 40) D' L'
  yes : szs have_ + szs texts ≤ 64 * (b - a) → x = 0 ∧ have' = have_ ++ texts
  no : ¬ szs have_ + szs texts ≤ 64 * (b - a) → x = 2 ∧ have' = have_
theorem bytes_step {a b ep : Nat} {hv texts : List Bs} {D : DS} {L : LS} (h : Opened a b ep hv (new 40) D L) (hs : ∀ t ∈ texts, t.length ≤ 8192) : ∃ hv' D' L' x, BStep a b ep hv texts D L hv' D' L' x := by
  by_cases hf : szs hv + szs texts ≤ 64 * (b - a)
  · obtain ⟨D', L', r, o⟩ := append_ok (texts := texts) h.good (h.beside.fuse rfl) hs (by rw [h.efr, h.eto]; exact hf)
    refine ⟨hv ++ texts, D', L', 0, r, ⟨o.good, o.efr.trans h.efr, o.eto.trans h.eto, o.eep.trans h.eep, ?_⟩, fun _ => ⟨rfl, rfl⟩, fun h => absurd hf h⟩
    have := o.beside
    rw [h.efr, h.eto] at this
    exact h.beside.trans this
  · exact ⟨hv, D, L, 2, append_full h.good hs (by rw [h.efr, h.eto]; omega), h, fun h => absurd h hf, fun _ => ⟨rfl, rfl⟩⟩
theorem bytes_sect {a b ep : Nat} {hv : List Bs} {D : DS} {L : LS} (h : Opened a b ep hv (new 40) D L) (hb : b ≤ 40) (i : Nat) (hi : i < 40) : sect D i = if a ≤ i ∧ i < b then sectL (enc ep 0 hv) (i - a) else zeros 64 := by
  have hg := h.good
  have hn : D.olds.length = 40 := by rw [h.beside.len, new_len]
  by_cases hab : a ≤ i ∧ i < b
  · rw [if_pos hab]
    have hby := hg.bytes
    have hfit := hg.fit
    rw [h.efr, h.eto, h.eep] at hby
    rw [h.efr, h.eto] at hfit
    have := sect_of_bytes hg.calm.ok (b - a) a (i - a) (by omega) (by omega)
    rw [show a + (i - a) = i from by omega, hby] at this
    rw [this]
    unfold sectL pad
    have hel := enc_length ep hv 0
    by_cases hc : 64 * (i - a) ≤ (enc ep 0 hv).length
    · rw [List.drop_append_of_le_length hc, List.take_append, List.length_take, List.length_drop]
      congr 1
      simp only [zeros, List.take_replicate]
      congr 1
      omega
    · have hnil : (enc ep 0 hv).drop (64 * (i - a)) = [] := List.drop_eq_nil_of_le (by omega)
      rw [List.drop_append, hnil, List.nil_append]
      simp only [zeros, List.drop_replicate, List.take_replicate, List.take_nil, List.length_nil, List.nil_append]
      congr 1
      omega
  · rw [if_neg hab, h.beside.far i (by rw [new_len]; exact hi) (by omega), (synced_new 40).sect]
    unfold new
    simp only [List.getD_eq_getElem?_getD]
    rw [List.getElem?_replicate_of_lt (by omega)]; rfl

structure BAt (W wB : World) (b g bm lb fr to_ ep : Nat) (hv : List Bs) (D : DS) (L : LS) (v : Value) (wr : World) : Prop where
  log : LogOn W wr b g bm lb D L
  op : Opened fr to_ ep hv (new 40) D L
  kp : Kp (FootL b g bm lb) wB wr
  txt : Texts wr wB.heap.size v hv
  few : hv.length ≤ 16
def Loop1 (W wB : World) (b g bm lb fr to_ ep : Nat) (i v : Value) (wr : World) : Prop := ∃ (j : Nat) (hv : List Bs) (D : DS) (L : LS), i = .int .i64 j ∧ j ≤ 2 ∧ hv.length ≤ 8 * j ∧ BAt W wB b g bm lb fr to_ ep hv D L v wr
def Loop2 (W : World) (b g bm lb : Nat) (D : DS) (L : LS) (i : Value) (wr : World) : Prop := ∃ (j : Nat), i = .int .i64 j ∧ j ≤ 40 ∧ LogOn W wr b g bm lb D L

theorem texts_at {W w wr : World} {b g bm lb base : Nat} {D : DS} {L : LS} {v : Value} {l : List Bs} (h : LogOn W w b g bm lb D L) (ht : Texts w base v l) (hk : Kp (FootL b g bm lb) w wr) : Texts wr base v l :=
  ht.kp hk (fun _ _ _ hs => h.notText hs)

theorem Texts.own_text {w : World} {base : Nat} {v : Value} {l : List Bs} (h : Texts w base v l) {k : Nat} (hk : v.ownBlock = some k) : base ≤ k ∧ ∃ cs f, w.heap[k]? = some (.cells cs 9 f) := by
  rcases h.2 with ⟨rfl, _⟩ | ⟨g, cap, cur, rfl, hb, hg, _⟩
  · exact absurd hk (by simp [Value.ownBlock])
  · obtain rfl : g = k := by simpa [Value.ownBlock] using hk
    exact ⟨hb, _, _, hg⟩
theorem LogOn.grown {W w w' : World} {b g bm lb : Nat} {D : DS} {L : LS} {row : Option Nat} (h : LogOn W w b g bm lb D L) (hg : w.grownBy w' row) (hr : ∀ k, row = some k → W.heap.size ≤ k ∧ ¬ FootL b g bm lb k) : LogOn W w' b g bm lb D L :=
  ⟨⟨h.at_.disk.same hg.size (fun k hk => hg.block k (h.at_.disk.lt hk) (fun e => (hr k e.symm).2 (.inl hk))), h.at_.bel.grown hg h.at_.bel.size (fun k e => (hr k e).1), h.at_.hb, h.at_.hg, h.at_.hm⟩,
    (hg.block lb h.lt (fun e => (hr lb e.symm).2 (.inr rfl))).trans h.log, h.hlb, h.nf⟩

end Go.Proofs.YtoafebndlldclaaDoor.Wl
