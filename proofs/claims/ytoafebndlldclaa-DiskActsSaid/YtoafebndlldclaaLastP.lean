/- Plain and in memory: what the law DiskLasts keeps beside the disk: two maps, and what becomes of the sectors. -/
import Derived.Test.YtoafebndlldclaaDiskH
import Derived.WalkSpells
namespace Go.Proofs.Ytoafebndlldclaa.Dk
open Go Go.RowKit Go.ChangeMaps Go.MapKept

/-- an entry of the map of what was touched -/
def tv : DataW Unit := .lit (.int .i64 1)
def entsT : Nat → List (Option Bs) → List (Lit × DataW Unit)
  | _, [] => []
  | k, none :: r => entsT (k + 1) r
  | k, some _ :: r => (.int .i64 k, tv) :: entsT (k + 1) r
def datumT (l : List (Option Bs)) : DataW Unit := .map (entsT 0 l)

theorem entsT_key {l : List (Option Bs)} : ∀ {k : Nat} {p}, p ∈ entsT k l → ∃ i : Nat, k ≤ i ∧ p.1 = .int .i64 i := by
  induction l with
  | nil => intro k p h; simp [entsT] at h
  | cons x l ih =>
    intro k p h
    cases x with
    | none => obtain ⟨i, h1, h2⟩ := ih h; exact ⟨i, by omega, h2⟩
    | some s =>
      rcases List.mem_cons.1 h with rfl | h
      · exact ⟨k, Nat.le_refl _, rfl⟩
      · obtain ⟨i, h1, h2⟩ := ih h; exact ⟨i, by omega, h2⟩

theorem entsT_find {l : List (Option Bs)} : ∀ {k : Nat} {x : Int}, (entsT k l).find? (fun p => p.1.sameKey (.int .i64 x)) = if (k : Int) ≤ x then (match l[(x - k).toNat]? with | some (some _) => some (.int .i64 x, tv) | _ => none) else none := by
  induction l with
  | nil => intro k x; simp [entsT]
  | cons y l ih =>
    intro k x
    cases y with
    | none =>
      simp only [entsT]
      rw [ih]
      by_cases h : (k : Int) ≤ x
      · by_cases e : x = k
        · subst e; rw [if_neg (by omega), if_pos h]; simp
        · rw [if_pos (by omega), if_pos h, show (x - (k : Int)).toNat = (x - ((k + 1 : Nat) : Int)).toNat + 1 from by omega, List.getElem?_cons_succ]
      · rw [if_neg (by omega), if_neg h]
    | some s =>
      simp only [entsT, List.find?_cons, sameKey_int]
      by_cases e : (k : Int) = x
      · subst e
        simp
      · rw [decide_eq_false e, ih]
        by_cases h : (k : Int) ≤ x
        · rw [if_pos (by omega), if_pos h, show (x - (k : Int)).toNat = (x - ((k + 1 : Nat) : Int)).toNat + 1 from by omega, List.getElem?_cons_succ]
        · rw [if_neg (by omega), if_neg h]

theorem datumT_at (l : List (Option Bs)) (i : Nat) (zd : DataW Unit) : (datumT l).atKey (.int .i64 i) zd = match l[i]? with | some (some _) => tv | _ => zd := by
  simp only [datumT, DataW.atKey, entsT_find]
  rw [if_pos (by omega)]
  rw [show ((i : Int) - ((0 : Nat) : Int)).toNat = i from by omega]
  cases l[i]? with
  | none => rfl
  | some y => cases y <;> rfl

theorem datumT_has (l : List (Option Bs)) (i : Nat) : Maps.has (datumT l) (.int .i64 i) = (l.getD i none).isSome := by
  cases hl : l.getD i none with
  | none =>
    refine Maps.has_false_of_atKey fun z => ?_
    rw [datumT_at]
    rw [List.getD_eq_getElem?_getD] at hl
    cases h : l[i]? with
    | none => rfl
    | some y => rw [h] at hl; simp at hl; subst hl; rfl
  | some s =>
    refine Maps.has_true_of_atKey (y := tv) fun z => ?_
    rw [datumT_at]
    rw [List.getD_eq_getElem?_getD] at hl
    cases h : l[i]? with
    | none => rw [h] at hl; simp at hl
    | some y => rw [h] at hl; simp at hl; subst hl; rfl

theorem entsT_filter {l : List (Option Bs)} {k i : Nat} (h : i < k) : (entsT k l).filter (fun p => !p.1.sameKey (.int .i64 i)) = entsT k l := by
  rw [List.filter_eq_self]
  intro p hp
  obtain ⟨j, h1, h2⟩ := entsT_key hp
  rw [h2, sameKey_int, decide_eq_false (by omega)]; rfl

theorem entsT_insert {l : List (Option Bs)} {k i : Nat} (h : i < k) (d : DataW Unit) : DataW.insert (.int .i64 i, d) (entsT k l) = (.int .i64 i, d) :: entsT k l := by
  cases hl : entsT k l with
  | nil => rfl
  | cons p r =>
    obtain ⟨j, h1, h2⟩ := entsT_key (p := p) (by rw [hl]; simp)
    unfold DataW.insert
    rw [if_pos]
    rw [h2]; simp [Lit.before]; omega

theorem entsT_put {s : Bs} : ∀ {l : List (Option Bs)} {k i : Nat}, k ≤ i → i < k + l.length →
    DataW.insert (.int .i64 i, tv) ((entsT k l).filter (fun p => !p.1.sameKey (.int .i64 i))) = entsT k (l.set (i - k) (some s)) := by
  intro l
  induction l with
  | nil => intro k i h1 h2; simp at h2; omega
  | cons x l ih =>
    intro k i h1 h2
    by_cases e : i = k
    · subst e
      rw [Nat.sub_self, List.set_cons_zero]
      cases x with
      | none =>
        simp only [entsT]
        rw [entsT_filter (by omega), entsT_insert (by omega)]
      | some y =>
        simp only [entsT, List.filter_cons, sameKey_int, decide_true, Bool.not_true, Bool.false_eq_true, if_false]
        rw [entsT_filter (by omega), entsT_insert (by omega)]
    · have h3 : i < k + 1 + l.length := by simp at h2; omega
      rw [show i - k = (i - (k + 1)) + 1 from by omega, List.set_cons_succ]
      cases x with
      | none => exact ih (by omega) h3
      | some y =>
        have hne : ((k : Int) = (i : Int)) = False := by simp; omega
        simp only [entsT, List.filter_cons, sameKey_int, hne, decide_false, Bool.not_false, if_true]
        unfold DataW.insert
        rw [if_neg (by simp [Lit.before]; omega)]
        rw [ih (by omega) h3]

theorem datumT_put (l : List (Option Bs)) (i : Nat) (h : i < l.length) (s : Bs) : (datumT l).put (.int .i64 i) (tv) = datumT (l.set i (some s)) := by
  simp only [datumT, DataW.put]
  rw [entsT_put (by omega) (by omega)]
  rfl


def D1 (syn : List (Option Bs)) : DS := ⟨List.replicate 16 (zeros 64), syn.map (Option.map pad), 0, false⟩
def lastOld (syn : List (Option Bs)) : List Bs := syn.map fun o => pad (o.getD [])
theorem D1_write {syn : List (Option Bs)} {i : Nat} {s : Bs} (hi : i < 16) (hs : s.length ≤ 64) : write (D1 syn) i s = (D1 (syn.set i (some s)), 0) := by
  unfold D1
  rw [write_free (by simpa using hi) hs, List.map_set]
  rfl
theorem pad_nil : pad [] = zeros 64 := rfl
theorem D1_sync {syn : List (Option Bs)} (h : syn.length = 16) : sync (D1 syn) = (⟨lastOld syn, syn.map fun _ => none, 0, false⟩, 0) := by
  unfold D1
  rw [sync_free]
  have : List.zipWith laid (List.replicate 16 (zeros 64)) (syn.map (Option.map pad)) = lastOld syn := by
    apply List.ext_getElem?
    intro i
    by_cases hi : i < 16
    · rw [List.getElem?_zipWith, List.getElem?_replicate_of_lt hi, List.getElem?_map]
      unfold lastOld
      rw [List.getElem?_map, List.getElem?_eq_getElem (by omega)]
      cases syn[i] <;> rfl
    · rw [List.getElem?_eq_none (by simp; omega), List.getElem?_eq_none (by simp [lastOld]; omega)]
  simp only [settle, this, List.map_map]
  rfl
theorem dirty_none (l : List (Option Bs)) (olds : List Bs) (f : Nat) (o : Bool) : dirty ⟨olds, l.map fun _ => none, f, o⟩ = [] := by
  unfold dirty
  have : ∀ (l : List (Option Bs)) (k : Nat), dirtyFrom k (l.map fun _ => none) = [] := by
    intro l
    induction l with
    | nil => intro k; rfl
    | cons x l ih => intro k; exact ih (k + 1)
  exact this l 0

structure LastSt (olds : List Bs) (tch : List (Option Bs)) (D : DS) : Prop where
  olds : D.olds = olds
  len : D.news.length = D.olds.length
  none : ∀ i : Nat, tch.getD i none = none → D.news.getD i none = none

theorem LastSt.write {olds : List Bs} {tch : List (Option Bs)} {D : DS} (h : LastSt olds tch D) (ht : tch.length = olds.length) {i : Nat} (hi : i < olds.length) {s : Bs} (hs : s.length ≤ 64) :
    ((Dk.write D i s).2 = 0 ∧ LastSt olds (tch.set i (some [])) (Dk.write D i s).1) ∨ ((Dk.write D i s).2 = 180 ∧ LastSt olds tch (Dk.write D i s).1) := by
  unfold Dk.write
  have hl := h.olds
  cases ho : D.off with
  | true =>
    rw [within_off ho, if_pos (by decide)]
    exact .inr ⟨rfl, h⟩
  | false =>
    rw [within_some ho (by omega) (by rw [hl]; omega), if_neg (by decide), if_neg (by omega)]
    unfold burn
    by_cases hf : D.fuse = 1
    · rw [if_pos hf]
      exact .inr ⟨rfl, h.olds, h.len, h.none⟩
    · rw [if_neg hf]
      refine .inl ⟨rfl, h.olds, by simp [put, h.len], fun j hj => ?_⟩
      simp only [put, Int.toNat_natCast, List.getD_eq_getElem?_getD] at hj ⊢
      rw [List.getElem?_set] at hj ⊢
      by_cases e : i = j
      · subst e
        rw [if_pos rfl, if_pos (by omega)] at hj
        simp at hj
      · rw [if_neg e] at hj ⊢
        have := h.none j
        rw [List.getD_eq_getElem?_getD, List.getD_eq_getElem?_getD] at this
        exact this hj

theorem onL_other {news : List (Option Bs)} {i : Nat} : ∀ (l : List Nat) (fs : List Int) (o : List Bs), i ∉ l → (onL news l fs o)[i]? = o[i]? := by
  intro l
  induction l with
  | nil => intro fs o _; rfl
  | cons j l ih =>
    intro fs o h
    simp only [List.mem_cons, not_or] at h
    simp only [onL]
    rw [ih _ _ h.2, List.getElem?_set, if_neg (fun e => h.1 e.symm)]

/-- what the sectors are when the power is on again -/
theorem LastSt.on {olds : List Bs} {tch : List (Option Bs)} {D : DS} (h : LastSt olds tch D) (ho : D.off = true) (fates : List Int) : ∃ olds3, Dk.on D fates = (⟨olds3, D.news.map fun _ => Option.none, 0, false⟩, 0) ∧ olds3.length = olds.length ∧ ∀ i : Nat, tch.getD i Option.none = Option.none → olds3[i]? = olds[i]? := by
  refine ⟨onL D.news (dirty D) fates D.olds, by unfold Dk.on; rw [if_pos ho], by rw [onL_length, h.olds], fun i hi => ?_⟩
  rw [onL_other, h.olds]
  intro hm
  obtain ⟨s, hs⟩ := dirty_mem.1 hm
  have := h.none i hi
  rw [List.getD_eq_getElem?_getD, hs] at this
  cases this

theorem read_free {olds : List Bs} {news : List (Option Bs)} {i : Nat} (hi : i < olds.length) : read ⟨olds, news.map fun _ => none, 0, false⟩ i = (olds.getD i [], 0) := by
  unfold read
  rw [within_some rfl (by omega) (by show (i : Int) < olds.length; omega), if_neg (by decide)]
  have : sect ⟨olds, news.map fun _ => none, 0, false⟩ (i : Int).toNat = olds.getD i [] := by
    unfold sect
    rw [Int.toNat_natCast]
    dsimp only
    rw [List.getD_eq_getElem?_getD (l := news.map fun _ => none), List.getElem?_map]
    cases news[i]? <;> rfl
  rw [this]

section
variable {P : Program} {w : World} {ops : Array Oper} {rest : List Oper} {o : Oper} {a : Act} {Q : Exit → Act → World → Prop}
/-- an operation whose guard holds -/
theorem wpList_unguard (hw : Region.wanted o (yielded ops a.tmps) = true) (h : wpList P ops Q ({ o with guard := none } :: rest) a w) : wpList P ops Q (o :: rest) a w := by
  unfold wpList at h ⊢
  rw [if_pos hw]
  rw [if_pos (by simp [Region.wanted])] at h
  exact h

/-- 'touched[i]' -/
theorem wpList_lookup_touch (hg : o.guard = none) (m x : Operand) (t k e : TypeId) (hop : o.op = Op.lookup t m x false) (K : Maps.Keyed P k) (ht : P.underlying t = some (.map k e)) (hki : P.underlying k = some (.int .i64)) (he : P.underlying e = some (.int .i64)) (hz : (zeroValue e).run P w = .ok (.int .i64 0) w) (bm n : Nat) (tch : List (Option Bs))
    (hm : a.eval m = .map (some bm)) (hown : w.ownsMap P k (plainElem P e) bm n (datumT tch)) (i : Nat) (hi : i ≤ 9223372036854775807) (hx : a.eval x = .int .i64 i) (c : Int) (hc : (if (tch.getD i none).isSome = true then 1 else 0) = c)
    (hK : wpList P ops Q rest (a.put o.dst (.int .i64 c)) w) : wpList P ops Q (o :: rest) a w := by
  refine wpList_lookup_own_int w hg m x t hop k e .i64 K ht he hz bm n (datumT tch) hm hown _ (.int .i64 i) hx (Maps.keyOf_int_mk hki (WalkArith.wf_i64 (by omega))) ?_
  intro c' hat _
  rw [datumT_at] at hat
  have : c' = c := by
    rw [← hc, List.getD_eq_getElem?_getD]
    cases hn : tch[i]? with
    | none => rw [hn] at hat; simp at hat; simp [hat]
    | some y => cases y with
      | none => rw [hn] at hat; simp at hat; simp [hat]
      | some u => rw [hn] at hat; simp [tv] at hat; simp [hat]
  rw [this]
  exact hK

/-- 'want := synced[i]' -/
theorem wpList_lookup_text (hg : o.guard = none) (m x : Operand) (t k e : TypeId) (hop : o.op = Op.lookup t m x false) (K : Maps.Keyed P k) (ht : P.underlying t = some (.map k e)) (hki : P.underlying k = some (.int .i64)) (he : P.underlying e = some .string) (hz : (zeroValue e).run P w = .ok (.string ⟨#[]⟩) w) (bm n : Nat) (syn : List (Option Bs))
    (hm : a.eval m = .map (some bm)) (hown : w.ownsMap P k (plainElem P e) bm n (datum syn)) (i : Nat) (hi : i ≤ 9223372036854775807) (hx : a.eval x = .int .i64 i) (z : ByteArray) (hz2 : z.data.toList = (syn.getD i none).getD [])
    (hK : wpList P ops Q rest (a.put o.dst (.string z)) w) : wpList P ops Q (o :: rest) a w := by
  refine wpList_plain hg fun K' hK' => ?_
  obtain ⟨v, ps, hrun, hv⟩ := hown.lookup K ht hz (plainElem_string he (s := ⟨#[]⟩) (by decide)) (Maps.keyOf_int_mk hki (WalkArith.wf_i64 (by omega : -9223372036854775808 ≤ (i : Int) ∧ (i : Int) ≤ 9223372036854775807)))
  obtain ⟨s, rfl, h2, hsz⟩ := plainElem_string_inv he hv
  rw [datum_at] at h2
  have : s = z := by
    apply ByteArray.ext
    apply Array.toList_inj.1
    rw [hz2, List.getD_eq_getElem?_getD]
    cases hn : syn[i]? with
    | none => rw [hn] at h2; simp at h2; simp [h2.1]
    | some y => cases y with
      | none => rw [hn] at h2; simp at h2; simp [h2.1]
      | some u => rw [hn] at h2; simp at h2; simp [h2.1]
  subst this
  unfold Oper.wp
  simp [execOp, hop, hm, hx, hrun, Result.andThen]
  exact hK' _ _ hK
end
end Go.Proofs.Ytoafebndlldclaa.Dk
