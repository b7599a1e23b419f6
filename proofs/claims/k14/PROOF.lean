import PyProof.Rows.All
import Wide.All
import OpenK.AllK
import Wide.FinOn
import HandS.ForMost
import HandS.Exc
import HandS.TryOnly
import HandS.TryMany
import HandS.ExcOwn
import HandS.WordsExc
import HandS.ExcIs
import HandS.IsInst
import HandS.Wide
import HandS.More
import HandS.Conv
import HandS.SortInts
import HandS.Style
import HandS.Walk
import PySem.Challenge.RW_skipladder_k14_whole_parts
set_option Elab.async false
set_option linter.all false
set_option maxRecDepth 100000
set_option maxHeartbeats 4000000
namespace Sk
abbrev Srt (S : List Int) : Prop := S.Pairwise (fun a b => a < b)

theorem find_srt {p : Int → Bool} : ∀ {S : List Int}, Srt S → ∀ y, (S.find? p = some y ↔ y ∈ S ∧ p y = true ∧ ∀ z ∈ S, p z = true → y ≤ z)
  | [], _, y => by simp
  | a :: r, h, y => by
    have h1 := (List.pairwise_cons.mp h).1
    have ih := find_srt (p := p) (List.pairwise_cons.mp h).2 y
    rw [List.find?_cons]
    cases e : p a with
    | true =>
      simp only [Option.some.injEq]
      constructor
      · rintro rfl
        exact ⟨List.mem_cons_self, e, fun z hz _ => by
          rcases List.mem_cons.mp hz with rfl | hz
          · exact Int.le_refl _
          · exact Int.le_of_lt (h1 z hz)⟩
      · rintro ⟨hy, hp, hl⟩
        rcases List.mem_cons.mp hy with rfl | hy
        · rfl
        · have := h1 y hy
          have := hl a List.mem_cons_self e
          omega
    | false =>
      simp only [ih]
      constructor
      · rintro ⟨hy, hp, hl⟩
        exact ⟨List.mem_cons_of_mem _ hy, hp, fun z hz hpz => by
          rcases List.mem_cons.mp hz with rfl | hz
          · rw [e] at hpz; cases hpz
          · exact hl z hz hpz⟩
      · rintro ⟨hy, hp, hl⟩
        rcases List.mem_cons.mp hy with rfl | hy
        · rw [e] at hp; cases hp
        · exact ⟨hy, hp, fun z hz => hl z (List.mem_cons_of_mem _ hz)⟩
theorem find_non {p : Int → Bool} {S : List Int} : S.find? p = none ↔ ∀ z ∈ S, p z = false := by
  rw [List.find?_eq_none]
  constructor
  · intro h z hz
    exact Bool.eq_false_iff.mpr (h z hz)
  · intro h z hz
    exact Bool.eq_false_iff.mp (h z hz)
theorem last_srt : ∀ {S : List Int}, Srt S → ∀ y, (S.getLast? = some y ↔ y ∈ S ∧ ∀ z ∈ S, z ≤ y)
  | [], _, y => by simp
  | [a], _, y => by simp; grind
  | a :: b :: r, h, y => by
    have h1 := (List.pairwise_cons.mp h).1
    have ih := last_srt (List.pairwise_cons.mp h).2 y
    rw [List.getLast?_cons_cons, ih]
    constructor
    · rintro ⟨hy, hl⟩
      refine ⟨List.mem_cons_of_mem _ hy, fun z hz => ?_⟩
      rcases List.mem_cons.mp hz with rfl | hz
      · exact Int.le_of_lt (h1 y hy)
      · exact hl z hz
    · rintro ⟨hy, hl⟩
      rcases List.mem_cons.mp hy with rfl | hy
      · have := h1 b List.mem_cons_self
        have := hl b (List.mem_cons_of_mem _ List.mem_cons_self)
        omega
      · exact ⟨hy, fun z hz => hl z (List.mem_cons_of_mem _ hz)⟩
theorem srt_filter {S : List Int} (h : Srt S) (p : Int → Bool) : Srt (S.filter p) := List.Pairwise.filter p h
theorem srt_nodup {S : List Int} (h : Srt S) : S.Nodup := List.Pairwise.imp (fun h => Int.ne_of_lt h) h
/-- two rising lists of the same members are one -/
theorem srt_ext : ∀ {A B : List Int}, Srt A → Srt B → (∀ x, x ∈ A ↔ x ∈ B) → A = B
  | [], [], _, _, _ => rfl
  | [], b :: s, _, _, h => by have := (h b).mpr List.mem_cons_self; simp at this
  | a :: r, [], _, _, h => by have := (h a).mp List.mem_cons_self; simp at this
  | a :: r, b :: s, ha, hb, h => by
    have a1 := (List.pairwise_cons.mp ha).1
    have b1 := (List.pairwise_cons.mp hb).1
    have e : a = b := by
      have x1 := (h a).mp List.mem_cons_self
      have x2 := (h b).mpr List.mem_cons_self
      rcases List.mem_cons.mp x1 with q | q
      · exact q
      · rcases List.mem_cons.mp x2 with q2 | q2
        · exact q2.symm
        · have := b1 a q; have := a1 b q2; omega
    subst e
    refine congrArg (a :: ·) (srt_ext (List.pairwise_cons.mp ha).2 (List.pairwise_cons.mp hb).2 fun x => ?_)
    have hx := h x
    constructor
    · intro hm
      rcases List.mem_cons.mp (hx.mp (List.mem_cons_of_mem _ hm)) with q | q
      · have := a1 x hm; omega
      · exact q
    · intro hm
      rcases List.mem_cons.mp (hx.mpr (List.mem_cons_of_mem _ hm)) with q | q
      · have := b1 x hm; omega
      · exact q

/-! ### what is told of a row S, by blocks of c numbers each -/
def St (c : Int) (S : List Int) (k : Int) : Prop := k ∈ S ∧ ∀ z ∈ S, z < k → z / c ≠ k / c
instance {c : Int} {S : List Int} {k : Int} : Decidable (St c S k) := by unfold St; exact inferInstance
def lv (c : Int) (S : List Int) : List Int := S.filter fun k => decide (St c S k)
def nx (c : Int) (S : List Int) (k : Int) : Option Int := S.find? fun z => decide (k / c < z / c)
def gp (c : Int) (S : List Int) (k : Int) : Nat := S.countP fun z => decide (z / c = k / c)
def rk (S : List Int) (n : Int) : Nat := S.countP fun z => decide (z < n)
def bel (S : List Int) (n : Int) : Option Int := (S.filter fun z => decide (z < n)).getLast?
def abv (S : List Int) (n : Int) : Option Int := S.find? fun z => decide (n < z)
def hd (c : Int) (S : List Int) (k : Int) : Option Int := S.find? fun z => decide (z / c = k / c)
def ins (S : List Int) (n : Int) : List Int := (S.filter fun z => decide (z < n)) ++ n :: (S.filter fun z => decide (n < z))
def del (S : List Int) (n : Int) : List Int := S.filter fun z => decide (z ≠ n)

theorem nx_some {c : Int} {S : List Int} (h : Srt S) {k y : Int} : nx c S k = some y ↔ y ∈ S ∧ k / c < y / c ∧ ∀ z ∈ S, k / c < z / c → y ≤ z := by
  unfold nx; rw [find_srt h]; simp
theorem nx_none {c : Int} {S : List Int} {k : Int} : nx c S k = none ↔ ∀ z ∈ S, z / c ≤ k / c := by
  unfold nx; rw [find_non]; simp
theorem abv_some {S : List Int} (h : Srt S) {k y : Int} : abv S k = some y ↔ y ∈ S ∧ k < y ∧ ∀ z ∈ S, k < z → y ≤ z := by
  unfold abv; rw [find_srt h]; simp
theorem abv_none {S : List Int} {k : Int} : abv S k = none ↔ ∀ z ∈ S, z ≤ k := by
  unfold abv; rw [find_non]; simp
theorem hd_some {c : Int} {S : List Int} (h : Srt S) {k y : Int} : hd c S k = some y ↔ y ∈ S ∧ y / c = k / c ∧ ∀ z ∈ S, z / c = k / c → y ≤ z := by
  unfold hd; rw [find_srt h]; simp
theorem hd_none {c : Int} {S : List Int} {k : Int} : hd c S k = none ↔ ∀ z ∈ S, ¬ z / c = k / c := by
  unfold hd; rw [find_non]; simp
theorem bel_some {S : List Int} (h : Srt S) {k y : Int} : bel S k = some y ↔ y ∈ S ∧ y < k ∧ ∀ z ∈ S, z < k → z ≤ y := by
  unfold bel; rw [last_srt (srt_filter h _)]; simp; grind
theorem bel_none {S : List Int} {k : Int} : bel S k = none ↔ ∀ z ∈ S, k ≤ z := by
  unfold bel; rw [List.getLast?_eq_none_iff, List.filter_eq_nil_iff]; simp
theorem mem_ins {S : List Int} {n z : Int} : z ∈ ins S n ↔ z = n ∨ z ∈ S := by
  unfold ins; simp only [List.mem_append, List.mem_filter, List.mem_cons, decide_eq_true_eq]
  constructor
  · rintro (h | h | h)
    · exact .inr h.1
    · exact .inl h
    · exact .inr h.1
  · rintro (h | h)
    · exact .inr (.inl h)
    · rcases Int.lt_trichotomy z n with q | q | q
      · exact .inl ⟨h, q⟩
      · exact .inr (.inl q)
      · exact .inr (.inr ⟨h, q⟩)
theorem mem_del {S : List Int} {n z : Int} : z ∈ del S n ↔ z ∈ S ∧ z ≠ n := by unfold del; simp
theorem srt_ins {S : List Int} (h : Srt S) (n : Int) : Srt (ins S n) := by
  unfold ins
  refine List.pairwise_append.mpr ⟨srt_filter h _, List.pairwise_cons.mpr ⟨fun z hz => ?_, srt_filter h _⟩, fun a ha b hb => ?_⟩
  · exact of_decide_eq_true (List.mem_filter.mp hz).2
  · have h1 : a < n := of_decide_eq_true (List.mem_filter.mp ha).2
    rcases List.mem_cons.mp hb with rfl | hb
    · exact h1
    · have h2 : n < b := of_decide_eq_true (List.mem_filter.mp hb).2
      omega
theorem srt_del {S : List Int} (h : Srt S) (n : Int) : Srt (del S n) := srt_filter h _
/-- counting in a row with one more -/
theorem count_ins {S : List Int} (h : Srt S) {n : Int} (hn : n ∉ S) (p : Int → Bool) : (ins S n).countP p = S.countP p + (if p n = true then 1 else 0) := by
  have key : ∀ {S : List Int}, n ∉ S → (S.filter fun z => decide (z < n)).countP p + (S.filter fun z => decide (n < z)).countP p = S.countP p := by
    intro S
    induction S with
    | nil => intro _; rfl
    | cons a r ih =>
      intro hn
      have hr := ih fun m => hn (List.mem_cons_of_mem _ m)
      have ha : a ≠ n := fun e => hn (e ▸ List.mem_cons_self)
      rw [List.filter_cons, List.filter_cons, List.countP_cons]
      by_cases q : a < n
      · have q2 : ¬ n < a := by omega
        simp only [q, q2, decide_true, decide_false, if_true, Bool.false_eq_true, if_false, List.countP_cons]
        omega
      · have q2 : n < a := by omega
        simp only [q, q2, decide_true, decide_false, if_true, Bool.false_eq_true, if_false, List.countP_cons]
        omega
  unfold ins
  rw [List.countP_append, List.countP_cons, ← key hn]
  omega
theorem ins_del {S : List Int} (h : Srt S) {n : Int} (hn : n ∈ S) : ins (del S n) n = S := srt_ext (srt_ins (srt_del h n) n) h fun x => by
  rw [mem_ins, mem_del]
  constructor
  · rintro (rfl | h)
    · exact hn
    · exact h.1
  · intro hx
    by_cases e : x = n
    · exact .inl e
    · exact .inr ⟨hx, e⟩
theorem del_ins {S : List Int} (h : Srt S) {n : Int} (hn : n ∉ S) : del (ins S n) n = S := srt_ext (srt_del (srt_ins h n) n) h fun x => by
  rw [mem_del, mem_ins]
  constructor
  · rintro ⟨h | h, e⟩
    · exact absurd h e
    · exact h
  · intro hx
    exact ⟨.inr hx, fun e => hn (e ▸ hx)⟩
theorem len_ins {S : List Int} (h : Srt S) {n : Int} (hn : n ∉ S) : (ins S n).length = S.length + 1 := by
  have q := count_ins h hn fun _ => true
  simp only [if_true, List.countP_true] at q
  exact q
theorem len_del {S : List Int} (h : Srt S) {n : Int} (hn : n ∈ S) : (del S n).length + 1 = S.length := by
  have q := len_ins (srt_del h n) (n := n) (fun m => (mem_del.mp m).2 rfl)
  rw [ins_del h hn] at q
  omega
/-- a count in two parts -/
theorem count_two {S : List Int} {p q r : Int → Bool} (h : ∀ z ∈ S, p z = (q z || r z)) (d : ∀ z ∈ S, q z = true → r z = false) : S.countP p = S.countP q + S.countP r := by
  induction S with
  | nil => rfl
  | cons a s ih =>
    have ih := ih (fun z hz => h z (List.mem_cons_of_mem _ hz)) fun z hz => d z (List.mem_cons_of_mem _ hz)
    rw [List.countP_cons, List.countP_cons, List.countP_cons, ih]
    have h1 := h a List.mem_cons_self
    have d1 := d a List.mem_cons_self
    cases e1 : q a <;> cases e2 : r a <;> rw [e1, e2] at h1 <;> simp_all <;> omega
theorem count_le {S : List Int} {p q : Int → Bool} (h : ∀ z ∈ S, p z = true → q z = true) : S.countP p ≤ S.countP q := by
  exact List.countP_mono_left h
theorem count_same {S : List Int} {p q : Int → Bool} (h : ∀ z ∈ S, p z = q z) : S.countP p = S.countP q := by
  exact List.countP_congr fun z hz => by rw [h z hz]
theorem div_le {a b c : Int} (hc : 0 < c) (h : a ≤ b) : a / c ≤ b / c := Int.ediv_le_ediv hc h
theorem lt_of_div {a b c : Int} (hc : 0 < c) (h : a / c < b / c) : a < b := by
  rcases Int.lt_or_le a b with q | q
  · exact q
  · have := div_le hc q; omega
end Sk

namespace Sk
def nA (c : Int) (S : List Int) (k : Int) : Option (Option Int) := if St c S k then some (nx c S k) else none
def gA (c : Int) (S : List Int) (k : Int) : Option Int := if St c S k then some (gp c S k : Int) else none
def bf (c : Int) (S : List Int) (n : Int) : Option Int := (bel S n).bind (hd c S)
theorem lt_or {a b : Int} (h : a ≠ b) : a < b ∨ b < a := Int.lt_or_gt_of_ne h

theorem bf_some {c : Int} {S : List Int} (hc : 0 < c) (h : Srt S) {n b : Int} : bf c S n = some b ↔ St c S b ∧ b < n ∧ ∀ y, St c S y → y < n → y ≤ b := by
  unfold bf
  rw [Option.bind_eq_some_iff]
  constructor
  · rintro ⟨z, hz, hb⟩
    obtain ⟨z1, z2, z3⟩ := (bel_some h).mp hz
    obtain ⟨b1, b2, b3⟩ := (hd_some h).mp hb
    have bz := b3 z z1 rfl
    refine ⟨⟨b1, fun y hy hlt e => ?_⟩, by omega, fun y hy hlt => ?_⟩
    · have := b3 y hy (by omega); omega
    · have q1 := z3 y hy.1 hlt
      rcases Int.lt_or_le b y with q | q
      · have d1 := div_le hc (Int.le_of_lt q)
        have d2 := div_le hc q1
        exact absurd (by omega) (hy.2 b b1 q)
      · exact q
  · rintro ⟨hb, hlt, hm⟩
    cases e : bel S n with
    | none => have := bel_none.mp e b hb.1; omega
    | some z =>
      obtain ⟨z1, z2, z3⟩ := (bel_some h).mp e
      refine ⟨z, rfl, ?_⟩
      cases e2 : hd c S z with
      | none => exact absurd rfl (hd_none.mp e2 z z1)
      | some x =>
        obtain ⟨x1, x2, x3⟩ := (hd_some h).mp e2
        have xz := x3 z z1 rfl
        have hx : St c S x := ⟨x1, fun y hy hl e => by have := x3 y hy (by omega); omega⟩
        have q1 := hm x hx (by omega)
        have q2 := z3 b hb.1 hlt
        have d1 := div_le hc q1
        have d2 := div_le hc q2
        have q3 := x3 b hb.1 (by omega)
        rcases Int.lt_or_le x b with q | q
        · exact absurd (by omega) (hb.2 x x1 q)
        · exact congrArg some (by omega)
theorem bf_none {c : Int} {S : List Int} {n : Int} : bf c S n = none ↔ bel S n = none := by
  unfold bf
  rw [Option.bind_eq_none_iff]
  constructor
  · intro hh
    cases e : bel S n with
    | none => rfl
    | some z =>
      have hz : z ∈ S := (List.mem_filter.mp (List.mem_of_getLast? e)).1
      exact absurd rfl (hd_none.mp (hh z e) z hz)
  · intro e z hz
    rw [e] at hz; cases hz

theorem st_nx {c : Int} {S : List Int} (hc : 0 < c) (h : Srt S) {k y : Int} (e : nx c S k = some y) : St c S y := by
  obtain ⟨y1, y2, y3⟩ := (nx_some h).mp e
  exact ⟨y1, fun z hz hl q => by have := y3 z hz (by omega); omega⟩
theorem nx_lt {c : Int} {S : List Int} (hc : 0 < c) (h : Srt S) {k y : Int} (e : nx c S k = some y) : k < y := lt_of_div hc ((nx_some h).mp e).2.1
theorem rk_nx {c : Int} {S : List Int} (hc : 0 < c) (h : Srt S) {k y : Int} (hk : St c S k) (e : nx c S k = some y) : rk S y = rk S k + gp c S k := by
  obtain ⟨y1, y2, y3⟩ := (nx_some h).mp e
  have ky := lt_of_div hc y2
  refine count_two (fun z hz => ?_) fun z hz q => ?_
  · rw [← Bool.decide_or, decide_eq_decide]
    constructor
    · intro q
      rcases Int.lt_or_le z k with q2 | q2
      · exact .inl q2
      · have d1 := div_le hc q2
        rcases Int.lt_or_le (k / c) (z / c) with q3 | q3
        · have := y3 z hz q3; omega
        · exact .inr (by omega)
    · rintro (q | q)
      · omega
      · rcases Int.lt_or_le z y with q2 | q2
        · exact q2
        · have := div_le hc q2; omega
  · have q' : z < k := of_decide_eq_true q
    exact decide_eq_false (hk.2 z hz q')
/-- the gap of the last one: all from it on -/
theorem rk_end {c : Int} {S : List Int} (hc : 0 < c) (h : Srt S) {k : Int} (hk : St c S k) (e : nx c S k = none) : S.length = rk S k + gp c S k := by
  have e' := nx_none.mp e
  have e0 : S.countP (fun _ => true) = S.length := congrFun List.countP_true S
  rw [← e0]
  refine count_two (fun z hz => ?_) fun z hz q => ?_
  · rw [← Bool.decide_or]
    refine (decide_eq_true ?_).symm
    rcases Int.lt_or_le z k with q2 | q2
    · exact .inl q2
    · have d1 := div_le hc q2
      have := e' z hz
      exact .inr (by omega)
  · have q' : z < k := of_decide_eq_true q
    exact decide_eq_false (hk.2 z hz q')
theorem bf_of {c : Int} {S : List Int} (hc : 0 < c) (h : Srt S) {k n : Int} (hk : St c S k) (hl : k < n) (hn : ∀ y, nx c S k = some y → n ≤ y) : bf c S n = some k := by
  refine (bf_some hc h).mpr ⟨hk, hl, fun y hy hyl => ?_⟩
  rcases Int.lt_or_le k y with q | q
  · have d1 := div_le hc (Int.le_of_lt q)
    have q2 : k / c < y / c := by have := hy.2 k hk.1 q; omega
    cases e : nx c S k with
    | none => have := nx_none.mp e y hy.1; omega
    | some z =>
      have := hn z e
      have := ((nx_some h).mp e).2.2 y hy.1 q2
      omega
  · exact q
theorem div_mul {a c d : Int} (hc : 0 < c) : a / (c * d) = a / c / d := (Int.ediv_ediv_of_nonneg (Int.le_of_lt hc)).symm
theorem st_down {c d : Int} {S : List Int} (hc : 0 < c) {k : Int} (h : St (c * d) S k) : St c S k := ⟨h.1, fun z hz hl e => h.2 z hz hl (by rw [div_mul hc, div_mul hc, e])⟩
theorem st_least {c : Int} {S : List Int} (h : Srt S) {a : Int} (e : S.head? = some a) : St c S a := by
  cases S with
  | nil => cases e
  | cons b r =>
    have e' : b = a := Option.some.inj e
    subst e'
    refine ⟨List.mem_cons_self, fun z hz hl => ?_⟩
    rcases List.mem_cons.mp hz with rfl | hz
    · omega
    · have := (List.pairwise_cons.mp h).1 z hz; omega
theorem head_le {S : List Int} (h : Srt S) {a : Int} (e : S.head? = some a) : ∀ z ∈ S, a ≤ z := by
  cases S with
  | nil => cases e
  | cons b r =>
    have e' : b = a := Option.some.inj e
    subst e'
    intro z hz
    rcases List.mem_cons.mp hz with rfl | hz
    · exact Int.le_refl _
    · exact Int.le_of_lt ((List.pairwise_cons.mp h).1 z hz)
theorem head_mem {S : List Int} {a : Int} (e : S.head? = some a) : a ∈ S := List.mem_of_head? e
theorem rk_least {S : List Int} (h : Srt S) {a : Int} (e : S.head? = some a) : rk S a = 0 := by
  unfold rk
  rw [List.countP_eq_zero]
  intro z hz
  have := head_le h e z hz
  simp; omega

/-! ### one more number -/
section
variable {c : Int} {S : List Int} {n : Int} (hc : 0 < c) (h : Srt S) (hn : n ∉ S)
include hc h hn
theorem st_ins_n : St c (ins S n) n ↔ ∀ z, bel S n = some z → z / c ≠ n / c := by
  constructor
  · intro q z hz
    obtain ⟨z1, z2, z3⟩ := (bel_some h).mp hz
    exact q.2 z (mem_ins.mpr (.inr z1)) z2
  · intro q
    refine ⟨mem_ins.mpr (.inl rfl), fun z hz hl e => ?_⟩
    rcases mem_ins.mp hz with rfl | hz
    · omega
    · cases eb : bel S n with
      | none => have := bel_none.mp eb z hz; omega
      | some y =>
        obtain ⟨y1, y2, y3⟩ := (bel_some h).mp eb
        have := y3 z hz hl
        have d1 := div_le hc this
        have d2 := div_le hc (Int.le_of_lt y2)
        exact q y eb (by omega)
theorem st_ins_k {k : Int} (hk : k ≠ n) : St c (ins S n) k ↔ St c S k ∧ ¬ (n < k ∧ n / c = k / c) := by
  unfold St
  simp only [mem_ins]
  constructor
  · rintro ⟨h1, h2⟩
    exact ⟨⟨h1.resolve_left hk, fun z hz => h2 z (.inr hz)⟩, fun q => h2 n (.inl rfl) q.1 q.2⟩
  · rintro ⟨⟨h1, h2⟩, h3⟩
    refine ⟨.inr h1, fun z hz hl e => ?_⟩
    rcases hz with rfl | hz
    · exact h3 ⟨hl, e⟩
    · exact h2 z hz hl e
theorem gp_ins {k : Int} : gp c (ins S n) k = gp c S k + (if n / c = k / c then 1 else 0) := by
  unfold gp
  rw [count_ins h hn]
  simp
/-- the next one behind k, once n is there -/
theorem nx_ins_lt {k : Int} (q : k / c < n / c) : nx c (ins S n) k = match nx c S k with | some y => if n < y then some n else some y | none => some n := by
  have h' := srt_ins h n
  cases e : nx c S k with
  | none =>
    have e' := nx_none.mp e
    refine (nx_some h').mpr ⟨mem_ins.mpr (.inl rfl), q, fun z hz hl => ?_⟩
    rcases mem_ins.mp hz with rfl | hz
    · exact Int.le_refl _
    · have := e' z hz; omega
  | some y =>
    obtain ⟨y1, y2, y3⟩ := (nx_some h).mp e
    by_cases q2 : n < y
    · simp only [q2, if_true]
      refine (nx_some h').mpr ⟨mem_ins.mpr (.inl rfl), q, fun z hz hl => ?_⟩
      rcases mem_ins.mp hz with rfl | hz
      · exact Int.le_refl _
      · have := y3 z hz hl; omega
    · simp only [q2, if_false]
      refine (nx_some h').mpr ⟨mem_ins.mpr (.inr y1), y2, fun z hz hl => ?_⟩
      rcases mem_ins.mp hz with rfl | hz
      · omega
      · exact y3 z hz hl
theorem nx_ins_ge {k : Int} (q : ¬ k / c < n / c) : nx c (ins S n) k = nx c S k := by
  have h' := srt_ins h n
  cases e : nx c S k with
  | none =>
    have e' := nx_none.mp e
    refine nx_none.mpr fun z hz => ?_
    rcases mem_ins.mp hz with rfl | hz
    · omega
    · exact e' z hz
  | some y =>
    obtain ⟨y1, y2, y3⟩ := (nx_some h).mp e
    refine (nx_some h').mpr ⟨mem_ins.mpr (.inr y1), y2, fun z hz hl => ?_⟩
    rcases mem_ins.mp hz with rfl | hz
    · omega
    · exact y3 z hz hl
theorem nx_n {k : Int} : nx c (ins S n) n = nx c S n := nx_ins_ge hc h hn (Int.lt_irrefl _)
omit hc h hn in
theorem nx_blk {k j : Int} (e : k / c = j / c) : nx c S k = nx c S j := by unfold nx; rw [e]
omit hc h hn in
theorem gp_blk {k j : Int} (e : k / c = j / c) : gp c S k = gp c S j := by unfold gp; rw [e]
/-- n does not stand: it joins the block of b -/
theorem put_stay {b : Int} (hb : bf c S n = some b) (hs : ¬ St c (ins S n) n) : (∀ k, nA c (ins S n) k = nA c S k) ∧ (∀ k, gA c (ins S n) k = if k = b then some ((gp c S b : Int) + 1) else gA c S k) ∧ St c S b := by
  obtain ⟨b1, b2, b3⟩ := (bf_some hc h).mp hb
  have hbn : b / c = n / c := by
    have hex : ∃ z, bel S n = some z ∧ z / c = n / c := by
      cases e : bel S n with
      | none => exact absurd ((st_ins_n hc h hn).mpr fun z hz => by rw [e] at hz; cases hz) hs
      | some z =>
        refine ⟨z, rfl, ?_⟩
        rcases Decidable.em (z / c = n / c) with q | q
        · exact q
        · exact absurd ((st_ins_n hc h hn).mpr fun y hy => by rw [e] at hy; cases hy; exact q) hs
    obtain ⟨z, hz, hzn⟩ := hex
    unfold bf at hb
    rw [hz] at hb
    have := ((hd_some h).mp (show hd c S z = some b from hb)).2.1
    omega
  have stn : ¬ St c S n := fun q => hn q.1
  refine ⟨fun k => ?_, fun k => ?_, b1⟩
  · unfold nA
    by_cases e : k = n
    · subst e; rw [if_neg hs, if_neg stn]
    · have hk := st_ins_k hc h hn e
      by_cases s : St c S k
      · have nn : ¬ (n < k ∧ n / c = k / c) := fun q => s.2 b b1.1 (by omega) (by omega)
        rw [if_pos s, if_pos (hk.mpr ⟨s, nn⟩)]
        by_cases q : k / c < n / c
        · rw [nx_ins_lt hc h hn q]
          cases e2 : nx c S k with
          | none => have := nx_none.mp e2 b b1.1; omega
          | some y =>
            have := ((nx_some h).mp e2).2.2 b b1.1 (by omega)
            have q2 : ¬ n < y := by omega
            simp only [q2, if_false]
        · rw [nx_ins_ge hc h hn q]
      · rw [if_neg s, if_neg fun q => s (hk.mp q).1]
  · unfold gA
    by_cases e : k = n
    · subst e; rw [if_neg hs, if_neg stn, if_neg (by omega)]
    · have hk := st_ins_k hc h hn e
      by_cases e2 : k = b
      · subst e2
        rw [if_pos (hk.mpr ⟨b1, by omega⟩), if_pos rfl, gp_ins hc h hn, if_pos hbn.symm]
        rfl
      · rw [if_neg e2]
        by_cases s : St c S k
        · have nn : ¬ (n < k ∧ n / c = k / c) := fun q => s.2 b b1.1 (by omega) (by omega)
          have ne : ¬ n / c = k / c := fun q => by
            rcases lt_or e2 with q2 | q2
            · exact b1.2 k s.1 q2 (by omega)
            · exact s.2 b b1.1 q2 (by omega)
          rw [if_pos s, if_pos (hk.mpr ⟨s, nn⟩), gp_ins hc h hn, if_neg ne]
          rfl
        · rw [if_neg s, if_neg fun q => s (hk.mp q).1]
/-- n comes and stands for a, the next one in its block -/
theorem put_old {a : Int} (hs : St c (ins S n) n) (ha : abv S n = some a) (e : a / c = n / c) :
    St c S a ∧ (∀ k, nA c (ins S n) k = if bf c S n = some k then some (some n) else if k = n then some (nx c S a) else if k = a then none else nA c S k) ∧
    (∀ k, gA c (ins S n) k = if k = n then some ((gp c S a : Int) + 1) else if k = a then none else gA c S k) ∧ (∀ b, bf c S n = some b → nA c S b = some (some a)) := by
  obtain ⟨a1, a2, a3⟩ := (abv_some h).mp ha
  have sa : St c S a := by
    refine ⟨a1, fun z hz hl q => ?_⟩
    have zn : z ≠ n := fun q => hn (q ▸ hz)
    rcases lt_or zn with q2 | q2
    · exact hs.2 z (mem_ins.mpr (.inr hz)) q2 (by omega)
    · have := a3 z hz q2; omega
  have bfb : ∀ b, bf c S n = some b → b / c < n / c ∧ nx c S b = some a := fun b hb => by
    obtain ⟨b1, b2, b3⟩ := (bf_some hc h).mp hb
    have d := div_le hc (Int.le_of_lt b2)
    have ne := hs.2 b (mem_ins.mpr (.inr b1.1)) b2
    refine ⟨by omega, (nx_some h).mpr ⟨a1, by omega, fun z hz hl => ?_⟩⟩
    have zn : z ≠ n := fun q => hn (q ▸ hz)
    rcases lt_or zn with q2 | q2
    · have := lt_of_div hc hl
      -- z in (b, n): its head stands and is below n
      cases eh : hd c S z with
      | none => exact absurd rfl (hd_none.mp eh z hz)
      | some x =>
        obtain ⟨x1, x2, x3⟩ := (hd_some h).mp eh
        have xz := x3 z hz rfl
        have sx : St c S x := ⟨x1, fun y hy hl e => by have := x3 y hy (by omega); omega⟩
        have := b3 x sx (by omega)
        have := div_le hc this
        omega
    · exact a3 z hz q2
  refine ⟨sa, fun k => ?_, fun k => ?_, fun b hb => ?_⟩
  · unfold nA
    by_cases hb : bf c S n = some k
    · rw [if_pos hb]
      obtain ⟨q1, q2⟩ := bfb k hb
      obtain ⟨b1, b2, b3⟩ := (bf_some hc h).mp hb
      rw [if_pos ((st_ins_k hc h hn (by omega)).mpr ⟨b1, by omega⟩), nx_ins_lt hc h hn q1, q2]
      simp only [a2, if_true]
    · rw [if_neg hb]
      by_cases e1 : k = n
      · subst e1
        rw [if_pos hs, if_pos rfl, nx_n hc h hn (k := k), nx_blk e.symm]
      · rw [if_neg e1]
        have hk := st_ins_k hc h hn e1
        by_cases e2 : k = a
        · subst e2
          rw [if_pos rfl, if_neg fun q => (hk.mp q).2 ⟨a2, e.symm⟩]
        · rw [if_neg e2]
          by_cases s : St c S k
          · have nn : ¬ (n / c = k / c) := fun q => by
              rcases lt_or e2 with q2 | q2
              · exact sa.2 k s.1 q2 (by omega)
              · exact s.2 a a1 q2 (by omega)
            rw [if_pos s, if_pos (hk.mpr ⟨s, fun q => nn q.2⟩)]
            by_cases q : k / c < n / c
            · rw [nx_ins_lt hc h hn q]
              cases e3 : nx c S k with
              | none => have := nx_none.mp e3 a a1; omega
              | some y =>
                by_cases q2 : n < y
                · exfalso
                  refine hb (bf_of hc h s (lt_of_div hc q) fun z hz => ?_)
                  rw [e3] at hz; cases hz; omega
                · simp only [q2, if_false]
            · rw [nx_ins_ge hc h hn q]
          · rw [if_neg s, if_neg fun q => s (hk.mp q).1]
  · unfold gA
    by_cases e1 : k = n
    · subst e1
      rw [if_pos hs, if_pos rfl, gp_ins hc h hn, if_pos rfl, gp_blk e.symm]
      rfl
    · rw [if_neg e1]
      have hk := st_ins_k hc h hn e1
      by_cases e2 : k = a
      · subst e2
        rw [if_pos rfl, if_neg fun q => (hk.mp q).2 ⟨a2, e.symm⟩]
      · rw [if_neg e2]
        by_cases s : St c S k
        · have nn : ¬ (n / c = k / c) := fun q => by
            rcases lt_or e2 with q2 | q2
            · exact sa.2 k s.1 q2 (by omega)
            · exact s.2 a a1 q2 (by omega)
          rw [if_pos s, if_pos (hk.mpr ⟨s, fun q => nn q.2⟩), gp_ins hc h hn, if_neg nn]
          rfl
        · rw [if_neg s, if_neg fun q => s (hk.mp q).1]
  · unfold nA
    rw [if_pos ((bf_some hc h).mp hb).1, (bfb b hb).2]
/-- n comes as a block of its own -/
theorem put_new (hs : St c (ins S n) n) (ha : ∀ a, abv S n = some a → a / c ≠ n / c) :
    (∀ k, nA c (ins S n) k = if bf c S n = some k then some (some n) else if k = n then some (match bf c S n with | some b => nx c S b | none => S.head?) else nA c S k) ∧
    (∀ k, gA c (ins S n) k = if k = n then some 1 else gA c S k) ∧ (∀ b, bf c S n = some b → St c S b ∧ (gp c S b : Int) = (rk S n : Int) - rk S b) := by
  have alone : ∀ z ∈ S, z / c ≠ n / c := fun z hz q => by
    have zn : z ≠ n := fun q => hn (q ▸ hz)
    rcases lt_or zn with q2 | q2
    · exact hs.2 z (mem_ins.mpr (.inr hz)) q2 q
    · cases e : abv S n with
      | none => have := abv_none.mp e z hz; omega
      | some a =>
        obtain ⟨a1, a2, a3⟩ := (abv_some h).mp e
        have := a3 z hz q2
        have d1 := div_le hc this
        have d2 := div_le hc (Int.le_of_lt a2)
        exact ha a e (by omega)
  have bfb : ∀ b, bf c S n = some b → b / c < n / c ∧ ∀ z ∈ S, b / c < z / c → n < z := fun b hb => by
    obtain ⟨b1, b2, b3⟩ := (bf_some hc h).mp hb
    have d := div_le hc (Int.le_of_lt b2)
    have ne := hs.2 b (mem_ins.mpr (.inr b1.1)) b2
    refine ⟨by omega, fun z hz hl => ?_⟩
    have zn : z ≠ n := fun q => hn (q ▸ hz)
    rcases lt_or zn with q2 | q2
    · cases eh : hd c S z with
      | none => exact absurd rfl (hd_none.mp eh z hz)
      | some x =>
        obtain ⟨x1, x2, x3⟩ := (hd_some h).mp eh
        have xz := x3 z hz rfl
        have sx : St c S x := ⟨x1, fun y hy hl e => by have := x3 y hy (by omega); omega⟩
        have := b3 x sx (by omega)
        have := div_le hc this
        omega
    · exact q2
  have g0 : gp c S n = 0 := by
    unfold gp
    rw [List.countP_eq_zero]
    intro z hz
    simp only [decide_eq_true_eq]
    exact alone z hz
  refine ⟨fun k => ?_, fun k => ?_, fun b hb => ?_⟩
  · unfold nA
    by_cases hb : bf c S n = some k
    · rw [if_pos hb]
      obtain ⟨q1, q2⟩ := bfb k hb
      obtain ⟨b1, b2, b3⟩ := (bf_some hc h).mp hb
      rw [if_pos ((st_ins_k hc h hn (by omega)).mpr ⟨b1, by omega⟩), nx_ins_lt hc h hn q1]
      cases e3 : nx c S k with
      | none => rfl
      | some y =>
        obtain ⟨y1, y2, y3⟩ := (nx_some h).mp e3
        have := q2 y y1 y2
        simp only [this, if_true]
    · rw [if_neg hb]
      by_cases e1 : k = n
      · subst e1
        rw [if_pos hs, if_pos rfl, nx_n hc h hn (k := k)]
        refine congrArg some ?_
        cases eb : bf c S k with
        | none =>
          have e0 := bel_none.mp (bf_none.mp eb)
          show nx c S k = S.head?
          cases e5 : S.head? with
          | none =>
            have : S = [] := List.head?_eq_none_iff.mp e5
            subst this
            rfl
          | some a =>
            refine (nx_some h).mpr ⟨head_mem e5, ?_, fun z hz _ => head_le h e5 z hz⟩
            have d := div_le hc (e0 a (head_mem e5))
            have := alone a (head_mem e5)
            omega
        | some b =>
          obtain ⟨q1, q2⟩ := bfb b eb
          show nx c S k = nx c S b
          cases e5 : nx c S b with
          | none =>
            have e6 := nx_none.mp e5
            refine nx_none.mpr fun z hz => ?_
            have := e6 z hz
            omega
          | some y =>
            obtain ⟨y1, y2, y3⟩ := (nx_some h).mp e5
            have l := q2 y y1 y2
            have d := div_le hc (Int.le_of_lt l)
            have := alone y y1
            exact (nx_some h).mpr ⟨y1, by omega, fun z hz hl => y3 z hz (by omega)⟩
      · rw [if_neg e1]
        have hk := st_ins_k hc h hn e1
        by_cases s : St c S k
        · have nn := alone k s.1
          rw [if_pos s, if_pos (hk.mpr ⟨s, fun q => nn q.2.symm⟩)]
          by_cases q : k / c < n / c
          · rw [nx_ins_lt hc h hn q]
            cases e3 : nx c S k with
            | none =>
              exfalso
              refine hb (bf_of hc h s (lt_of_div hc q) fun z hz => ?_)
              rw [e3] at hz; cases hz
            | some y =>
              by_cases q2 : n < y
              · exfalso
                refine hb (bf_of hc h s (lt_of_div hc q) fun z hz => ?_)
                rw [e3] at hz; cases hz; omega
              · simp only [q2, if_false]
          · rw [nx_ins_ge hc h hn q]
        · rw [if_neg s, if_neg fun q => s (hk.mp q).1]
  · unfold gA
    by_cases e1 : k = n
    · subst e1
      rw [if_pos hs, if_pos rfl, gp_ins hc h hn, if_pos rfl, g0]
      rfl
    · rw [if_neg e1]
      have hk := st_ins_k hc h hn e1
      by_cases s : St c S k
      · have nn := alone k s.1
        rw [if_pos s, if_pos (hk.mpr ⟨s, fun q => nn q.2.symm⟩), gp_ins hc h hn, if_neg fun q => nn q.symm]
        rfl
      · rw [if_neg s, if_neg fun q => s (hk.mp q).1]
  · obtain ⟨q1, q2⟩ := bfb b hb
    obtain ⟨b1, b2, b3⟩ := (bf_some hc h).mp hb
    refine ⟨b1, ?_⟩
    have e : rk S n = rk S b + gp c S b := by
      refine count_two (fun z hz => ?_) fun z hz q => ?_
      · rw [← Bool.decide_or, decide_eq_decide]
        constructor
        · intro q
          rcases Int.lt_or_le z b with q3 | q3
          · exact .inl q3
          · have d1 := div_le hc q3
            rcases Int.lt_or_le (b / c) (z / c) with q4 | q4
            · have := q2 z hz q4; omega
            · exact .inr (by omega)
        · rintro (q | q)
          · omega
          · rcases Int.lt_or_le z n with q4 | q4
            · exact q4
            · have := div_le hc q4; omega
      · have q' : z < b := of_decide_eq_true q
        exact decide_eq_false (b1.2 z hz q')
    omega
theorem nA_bf (hs : St c (ins S n) n) {b : Int} (hb : bf c S n = some b) : nA c (ins S n) b = some (some n) := by
  cases e : abv S n with
  | none => rw [(put_new hc h hn hs fun a ha => by rw [e] at ha; cases ha).1 b, if_pos hb]
  | some a =>
    by_cases q : a / c = n / c
    · rw [(put_old hc h hn hs e q).2.1 b, if_pos hb]
    · rw [(put_new hc h hn hs fun x hx => by rw [e] at hx; cases hx; exact q).1 b, if_pos hb]
/-- what lies below n is the same -/
theorem bel_ins : bel (ins S n) n = bel S n := by
  have h' := srt_ins h n
  cases e : bel S n with
  | none =>
    refine bel_none.mpr fun z hz => ?_
    rcases mem_ins.mp hz with rfl | hz
    · exact Int.le_refl _
    · exact bel_none.mp e z hz
  | some y =>
    obtain ⟨y1, y2, y3⟩ := (bel_some h).mp e
    refine (bel_some h').mpr ⟨mem_ins.mpr (.inr y1), y2, fun z hz hl => ?_⟩
    rcases mem_ins.mp hz with rfl | hz
    · omega
    · exact y3 z hz hl
theorem abv_ins : abv (ins S n) n = abv S n := by
  have h' := srt_ins h n
  cases e : abv S n with
  | none =>
    refine abv_none.mpr fun z hz => ?_
    rcases mem_ins.mp hz with rfl | hz
    · exact Int.le_refl _
    · exact abv_none.mp e z hz
  | some y =>
    obtain ⟨y1, y2, y3⟩ := (abv_some h).mp e
    refine (abv_some h').mpr ⟨mem_ins.mpr (.inr y1), y2, fun z hz hl => ?_⟩
    rcases mem_ins.mp hz with rfl | hz
    · omega
    · exact y3 z hz hl
theorem bf_ins : bf c (ins S n) n = bf c S n := by
  have h' := srt_ins h n
  cases e : bf c S n with
  | none => exact bf_none.mpr ((bel_ins hc h hn).trans (bf_none.mp e))
  | some b =>
    obtain ⟨b1, b2, b3⟩ := (bf_some hc h).mp e
    refine (bf_some hc h').mpr ⟨(st_ins_k hc h hn (by omega)).mpr ⟨b1, by omega⟩, b2, fun y hy hl => ?_⟩
    exact b3 y ((st_ins_k hc h hn (by omega)).mp hy).1 hl
end
end Sk

namespace Sk
/-- a row that grows at its end -/
theorem lv_snoc {c : Int} {A : List Int} {x : Int} (hc : 0 < c) (h : Srt (A ++ [x])) : lv c (A ++ [x]) = lv c A ++ (if (∀ y, A.getLast? = some y → y / c ≠ x / c) then [x] else []) := by
  have hA := (List.pairwise_append.mp h).1
  have hx : ∀ a ∈ A, a < x := fun a ha => (List.pairwise_append.mp h).2.2 a ha x (List.mem_singleton.mpr rfl)
  unfold lv
  rw [List.filter_append]
  have e1 : A.filter (fun k => decide (St c (A ++ [x]) k)) = A.filter fun k => decide (St c A k) := by
    refine List.filter_congr fun k hk => ?_
    rw [decide_eq_decide]
    have := hx k hk
    constructor
    · rintro ⟨_, q⟩
      exact ⟨hk, fun z hz hl => q z (List.mem_append_left _ hz) hl⟩
    · rintro ⟨_, q⟩
      refine ⟨List.mem_append_left _ hk, fun z hz hl => ?_⟩
      rcases List.mem_append.mp hz with hz | hz
      · exact q z hz hl
      · have := List.mem_singleton.mp hz; omega
  rw [e1]
  refine congrArg (fun z => List.filter (fun k => decide (St c A k)) A ++ z) ?_
  have e2 : St c (A ++ [x]) x ↔ ∀ y, A.getLast? = some y → y / c ≠ x / c := by
    constructor
    · rintro ⟨_, q⟩ y hy
      have hy' := List.mem_of_getLast? hy
      exact q y (List.mem_append_left _ hy') (hx y hy')
    · intro q
      refine ⟨List.mem_append_right _ (List.mem_singleton.mpr rfl), fun z hz hl e => ?_⟩
      rcases List.mem_append.mp hz with hz | hz
      · cases e3 : A.getLast? with
        | none => rw [List.getLast?_eq_none_iff] at e3; subst e3; cases hz
        | some y =>
          obtain ⟨y1, y2⟩ := (last_srt hA y).mp e3
          have d1 := div_le hc (y2 z hz)
          have d2 := div_le hc (Int.le_of_lt (hx y y1))
          exact q y e3 (by omega)
      · have := List.mem_singleton.mp hz; omega
  rw [List.filter_cons, List.filter_nil]
  by_cases q : St c (A ++ [x]) x
  · rw [if_pos (decide_eq_true q), if_pos (e2.mp q)]
  · rw [if_neg (by simpa using q), if_neg fun z => q (e2.mpr z)]
theorem lv_nil (c : Int) : lv c [] = [] := rfl
theorem lv_len {c : Int} {S : List Int} : (lv c S).length ≤ S.length := List.length_filter_le _ _
theorem lv_mem {c : Int} {S : List Int} {k : Int} : k ∈ lv c S ↔ St c S k := by
  unfold lv
  rw [List.mem_filter, decide_eq_true_eq]
  exact ⟨fun h => h.2, fun h => ⟨h.1, h⟩⟩
theorem srt_lv {c : Int} {S : List Int} (h : Srt S) : Srt (lv c S) := srt_filter h _
theorem srt_take {S : List Int} (h : Srt S) (i : Nat) : Srt (S.take i) := List.Pairwise.sublist (List.take_sublist i S) h
theorem take_snoc {S : List Int} {i : Nat} {x : Int} (e : S[i]? = some x) : S.take (i + 1) = S.take i ++ [x] := by
  rw [List.take_add_one, e]
  rfl
theorem take_last {S : List Int} {i : Nat} (h : i < S.length) : (S.take (i + 1)).getLast? = S[i]? := by
  rw [List.getElem?_eq_getElem h, take_snoc (List.getElem?_eq_getElem h), List.getLast?_concat]
/-- one more of the row is looked at -/
theorem lv_take {c : Int} {S : List Int} (hc : 0 < c) (h : Srt S) {i : Nat} {x : Int} (e : S[i]? = some x) : lv c (S.take (i + 1)) = lv c (S.take i) ++ (if i = 0 ∨ (S.getD (i - 1) 0) / c ≠ x / c then [x] else []) := by
  have h' := srt_take h (i + 1)
  rw [take_snoc e] at h' ⊢
  rw [lv_snoc hc h']
  have e2 : (∀ y, (S.take i).getLast? = some y → y / c ≠ x / c) ↔ (i = 0 ∨ (S.getD (i - 1) 0) / c ≠ x / c) := by
    cases i with
    | zero => simp
    | succ j =>
      have hj : j < S.length := by have := (List.getElem?_eq_some_iff.mp e).1; omega
      rw [take_last hj, List.getElem?_eq_getElem hj, List.getD_eq_getElem?_getD, Nat.add_sub_cancel, List.getElem?_eq_getElem hj]
      simp
  by_cases q : ∀ y, (S.take i).getLast? = some y → y / c ≠ x / c
  · rw [if_pos q, if_pos (e2.mp q)]
  · rw [if_neg q, if_neg fun z => q (e2.mpr z)]
theorem get_lt {S : List Int} (h : Srt S) {i j : Nat} {x y : Int} (hi : S[i]? = some x) (hj : S[j]? = some y) (l : i < j) : x < y := by
  obtain ⟨h1, rfl⟩ := List.getElem?_eq_some_iff.mp hi
  obtain ⟨h2, rfl⟩ := List.getElem?_eq_some_iff.mp hj
  exact (List.pairwise_iff_getElem.mp h) i j h1 h2 l
theorem srt_snoc {A : List Int} {x : Int} (h : Srt A) (hx : ∀ a ∈ A, a < x) : Srt (A ++ [x]) := List.pairwise_append.mpr ⟨h, List.pairwise_singleton _ _, fun a ha b hb => by rw [List.mem_singleton.mp hb]; exact hx a ha⟩
end Sk

namespace Sk
/-- a rising row, cut behind x -/
theorem cut_next {L : List Int} (h : Srt L) {x y : Int} (hx : x ∈ L) (hy : ∀ z ∈ L, z < y ↔ z ≤ x) : L.filter (fun z => decide (z < y)) = L.filter (fun z => decide (z < x)) ++ [x] := by
  refine srt_ext (srt_filter h _) (srt_snoc (srt_filter h _) fun a ha => of_decide_eq_true (List.mem_filter.mp ha).2) fun z => ?_
  rw [List.mem_append, List.mem_filter, List.mem_filter, List.mem_singleton, decide_eq_true_eq, decide_eq_true_eq]
  constructor
  · rintro ⟨h1, h2⟩
    have := (hy z h1).mp h2
    by_cases e : z = x
    · exact .inr e
    · exact .inl ⟨h1, by omega⟩
  · rintro (⟨h1, h2⟩ | rfl)
    · exact ⟨h1, (hy z h1).mpr (by omega)⟩
    · exact ⟨hx, (hy z hx).mpr (Int.le_refl _)⟩
theorem cut_end {L : List Int} (h : Srt L) {x : Int} (hx : x ∈ L) (hy : ∀ z ∈ L, z ≤ x) : L = L.filter (fun z => decide (z < x)) ++ [x] := by
  refine srt_ext h (srt_snoc (srt_filter h _) fun a ha => of_decide_eq_true (List.mem_filter.mp ha).2) fun z => ?_
  rw [List.mem_append, List.mem_filter, List.mem_singleton, decide_eq_true_eq]
  constructor
  · intro h1
    by_cases e : z = x
    · exact .inr e
    · exact .inl ⟨h1, by have := hy z h1; omega⟩
  · rintro (⟨h1, _⟩ | rfl)
    · exact h1
    · exact hx
theorem st_le {c : Int} {S : List Int} (hc : 0 < c) {x z : Int} (hx : St c S x) (hz : St c S z) (l : x < z) : x / c < z / c := by
  have d := div_le hc (Int.le_of_lt l)
  have := hz.2 x hx.1 l
  omega
theorem lv_step {c : Int} {S : List Int} (hc : 0 < c) (h : Srt S) {x y : Int} (hx : St c S x) (e : nx c S x = some y) : (lv c S).filter (fun z => decide (z < y)) = (lv c S).filter (fun z => decide (z < x)) ++ [x] := by
  obtain ⟨y1, y2, y3⟩ := (nx_some h).mp e
  have xy := lt_of_div hc y2
  refine cut_next (srt_lv h) (lv_mem.mpr hx) fun z hz => ⟨fun q => ?_, fun q => by omega⟩
  rcases Int.lt_or_le x z with q2 | q2
  · have := y3 z (lv_mem.mp hz).1 (st_le hc hx (lv_mem.mp hz) q2)
    omega
  · exact q2
theorem lv_stop {c : Int} {S : List Int} (hc : 0 < c) (h : Srt S) {x : Int} (hx : St c S x) (e : nx c S x = none) : lv c S = (lv c S).filter (fun z => decide (z < x)) ++ [x] := by
  refine cut_end (srt_lv h) (lv_mem.mpr hx) fun z hz => ?_
  rcases Int.lt_or_le x z with q2 | q2
  · have := st_le hc hx (lv_mem.mp hz) q2
    have := nx_none.mp e z (lv_mem.mp hz).1
    omega
  · exact q2
theorem lv_first {c : Int} {S : List Int} (h : Srt S) {a : Int} (e : S.head? = some a) : (lv c S).filter (fun z => decide (z < a)) = [] := by
  rw [List.filter_eq_nil_iff]
  intro z hz
  have := head_le h e z (lv_mem.mp hz).1
  simp
  omega
/-- how many are greater -/
def up (S : List Int) (x : Int) : Nat := S.countP fun z => decide (x < z)
theorem up_lt {S : List Int} {x y : Int} (hy : y ∈ S) (l : x < y) : up S y < up S x := by
  unfold up
  have h1 : S.countP (fun z => decide (x < z)) = S.countP (fun z => decide (y < z)) + S.countP (fun z => decide (x < z ∧ z ≤ y)) := count_two (fun z _ => by
    rw [← Bool.decide_or, decide_eq_decide]
    omega) fun z _ q => by
    have := of_decide_eq_true q
    exact decide_eq_false (by omega)
  have h2 : 0 < S.countP (fun z => decide (x < z ∧ z ≤ y)) := List.countP_pos_iff.mpr ⟨y, hy, decide_eq_true ⟨l, Int.le_refl _⟩⟩
  omega
theorem up_le {S : List Int} {x : Int} : up S x ≤ S.length := List.countP_le_length
def pl (c : Int) (S : List Int) (n : Int) : Nat := match bf c S n with
  | some b => rk S b
  | none => 0
theorem bf_empty {c : Int} {S : List Int} {n : Int} (h : ∀ z ∈ S, n ≤ z) : bf c S n = none := bf_none.mpr (bel_none.mpr h)
theorem head_nil {S : List Int} (h : S.head? = none) : S = [] := List.head?_eq_none_iff.mp h
theorem rk_le {S : List Int} {n : Int} : rk S n ≤ S.length := List.countP_le_length

/-! ### trails -/
/-- one step of the search: right, where the next one is not beyond, else down -/
def stp (w : Int) (S : List Int) (n : Int) (s : Nat × Int) : Option (Nat × Int) :=
  match (nx (w ^ s.1) S s.2).filter (fun y => decide (y ≤ n)) with
  | some y => some (s.1, y)
  | none => match s.1 with
    | 0 => none
    | l + 1 => some (l, s.2)
def mu (S : List Int) (s : Nat × Int) : Nat := s.1 + up S s.2
theorem stp_lt {w : Int} {S : List Int} (hw : 0 < w) (h : Srt S) {n : Int} {s s' : Nat × Int} (e : stp w S n s = some s') : mu S s' < mu S s := by
  obtain ⟨l, k⟩ := s
  unfold stp at e
  cases e1 : (nx (w ^ l) S k).filter (fun y => decide (y ≤ n)) with
  | some y =>
    simp only [e1, Option.some.injEq] at e
    subst e
    obtain ⟨e2, _⟩ := Option.filter_eq_some_iff.mp e1
    have := up_lt ((nx_some h).mp e2).1 (nx_lt (Int.pow_pos hw) h e2)
    show l + up S y < l + up S k
    omega
  | none =>
    simp only [e1] at e
    cases l with
    | zero => cases e
    | succ l =>
      simp only [Option.some.injEq] at e
      subst e
      show l + up S k < l + 1 + up S k
      omega
def run (w : Int) (S : List Int) (n : Int) : Nat → Nat × Int → List (Nat × Int)
  | 0, s => [s]
  | f + 1, s => s :: match stp w S n s with
    | some s' => run w S n f s'
    | none => []
theorem run_fuel {w : Int} {S : List Int} (hw : 0 < w) (h : Srt S) {n : Int} : ∀ (f g : Nat) (s : Nat × Int), mu S s ≤ f → mu S s ≤ g → run w S n f s = run w S n g s
  | 0, 0, s, _, _ => rfl
  | 0, g + 1, s, h1, _ => by
    cases e : stp w S n s with
    | none => simp only [run, e]
    | some s' => have := stp_lt hw h e; omega
  | f + 1, 0, s, _, h2 => by
    cases e : stp w S n s with
    | none => simp only [run, e]
    | some s' => have := stp_lt hw h e; omega
  | f + 1, g + 1, s, h1, h2 => by
    cases e : stp w S n s with
    | none => simp only [run, e]
    | some s' =>
      have := stp_lt hw h e
      simp only [run, e]
      rw [run_fuel hw h f g s' (by omega) (by omega)]
/-- the places from s on -/
def tr (w : Int) (S : List Int) (n : Int) (s : Nat × Int) : List (Nat × Int) := run w S n (mu S s) s
theorem tr_eq {w : Int} {S : List Int} (hw : 0 < w) (h : Srt S) {n : Int} (s : Nat × Int) : tr w S n s = s :: match stp w S n s with
    | some s' => tr w S n s'
    | none => [] := by
  unfold tr
  cases e : stp w S n s with
  | none =>
    cases q : mu S s with
    | zero => simp only [run]
    | succ f => simp only [run, e]
  | some s' =>
    have l := stp_lt hw h e
    obtain ⟨f, hf⟩ : ∃ f, mu S s = f + 1 := ⟨mu S s - 1, by omega⟩
    rw [hf]
    simp only [run, e]
    rw [run_fuel hw h f (mu S s') s' (by omega) (Nat.le_refl _)]
def trail (w : Int) (h : Nat) (S : List Int) (n : Int) : List (Nat × Int) := match S.head? with
  | none => []
  | some a => if a ≤ n then tr w S n (h, a) else []
theorem tr_ne {w : Int} {S : List Int} {n : Int} {s : Nat × Int} : tr w S n s ≠ [] := by
  unfold tr
  cases mu S s <;> simp [run]
theorem tr_len {w : Int} {S : List Int} (hw : 0 < w) (h : Srt S) {n : Int} (s : Nat × Int) : (tr w S n s).length ≤ mu S s + 1 := by
  unfold tr
  generalize hf : mu S s = f
  clear hf
  induction f generalizing s with
  | zero => simp [run]
  | succ f ih =>
    simp only [run]
    cases e : stp w S n s with
    | none => simp
    | some s' => have := ih s'; simp; omega
end Sk

namespace Sk
theorem stp_right {w : Int} {S : List Int} {n : Int} {l : Nat} {k y : Int} (e : nx (w ^ l) S k = some y) (h : y ≤ n) : stp w S n (l, k) = some (l, y) := by
  unfold stp
  simp only [e, Option.filter, decide_eq_true h, if_true]
theorem stp_down {w : Int} {S : List Int} {n : Int} {l : Nat} {k : Int} (h : ∀ y, nx (w ^ (l + 1)) S k = some y → ¬ y ≤ n) : stp w S n (l + 1, k) = some (l, k) := by
  unfold stp
  cases e : nx (w ^ (l + 1)) S k with
  | none => simp only [e, Option.filter]
  | some y => simp only [e, Option.filter, decide_eq_false (h y e), Bool.false_eq_true, if_false]
theorem stp_end {w : Int} {S : List Int} {n : Int} {k : Int} (h : ∀ y, nx (w ^ 0) S k = some y → ¬ y ≤ n) : stp w S n (0, k) = none := by
  unfold stp
  cases e : nx (w ^ 0) S k with
  | none => simp only [e, Option.filter]
  | some y => simp only [e, Option.filter, decide_eq_false (h y e), Bool.false_eq_true, if_false]
theorem tr_go {w : Int} {S : List Int} (hw : 0 < w) (h : Srt S) {n : Int} {s s' : Nat × Int} (e : stp w S n s = some s') : tr w S n s = s :: tr w S n s' := by
  rw [tr_eq hw h s, e]
theorem tr_stop {w : Int} {S : List Int} (hw : 0 < w) (h : Srt S) {n : Int} {s : Nat × Int} (e : stp w S n s = none) : tr w S n s = [s] := by
  rw [tr_eq hw h s, e]
theorem st_pred {w : Int} {S : List Int} (hw : 0 < w) {l : Nat} {k : Int} (h : St (w ^ (l + 1)) S k) : St (w ^ l) S k := by
  rw [Int.pow_succ] at h
  exact st_down (Int.pow_pos hw) h
/-- what stands of a step: where the search stands -/
theorem stp_st {w : Int} {S : List Int} (hw : 0 < w) (h : Srt S) {n : Int} {l l' : Nat} {k k' : Int} (hs : St (w ^ l) S k) (hk : k ≤ n) (e : stp w S n (l, k) = some (l', k')) : St (w ^ l') S k' ∧ k' ≤ n ∧ l' ≤ l := by
  unfold stp at e
  cases e1 : (nx (w ^ l) S k).filter (fun y => decide (y ≤ n)) with
  | some y =>
    simp only [e1, Option.some.injEq, Prod.mk.injEq] at e
    obtain ⟨rfl, rfl⟩ := e
    obtain ⟨e2, e3⟩ := Option.filter_eq_some_iff.mp e1
    exact ⟨st_nx (Int.pow_pos hw) h e2, of_decide_eq_true e3, Nat.le_refl _⟩
  | none =>
    simp only [e1] at e
    cases l with
    | zero => cases e
    | succ l =>
      simp only [Option.some.injEq, Prod.mk.injEq] at e
      obtain ⟨rfl, rfl⟩ := e
      exact ⟨st_pred hw hs, hk, Nat.le_succ _⟩
theorem nx_one {S : List Int} {k : Int} : nx 1 S k = abv S k := by
  unfold nx abv
  simp only [Int.ediv_one]
theorem stp_none {w : Int} {S : List Int} (h : Srt S) {n : Int} {l : Nat} {k : Int} (hs : St (w ^ l) S k) (hk : k ≤ n) (e : stp w S n (l, k) = none) : l = 0 ∧ bel S (n + 1) = some k := by
  unfold stp at e
  cases e1 : (nx (w ^ l) S k).filter (fun y => decide (y ≤ n)) with
  | some y => simp only [e1] at e; cases e
  | none =>
    simp only [e1] at e
    cases l with
    | succ l => simp only at e; cases e
    | zero =>
      refine ⟨rfl, (bel_some h).mpr ⟨hs.1, by omega, fun z hz hl => ?_⟩⟩
      rw [Int.pow_zero, nx_one] at e1
      cases e2 : abv S k with
      | none => exact abv_none.mp e2 z hz
      | some y =>
        rw [e2] at e1
        have q : ¬ y ≤ n := fun q => by simp only [Option.filter, decide_eq_true q, if_true] at e1; cases e1
        rcases Int.lt_or_le k z with q2 | q2
        · have := ((abv_some h).mp e2).2.2 z hz q2
          omega
        · exact q2
theorem tr_last {w : Int} {S : List Int} (hw : 0 < w) (h : Srt S) {n : Int} : ∀ (f : Nat) (l : Nat) (k : Int), mu S (l, k) ≤ f → St (w ^ l) S k → k ≤ n → ∃ b, bel S (n + 1) = some b ∧ (tr w S n (l, k)).getLast? = some (0, b)
  | f, l, k, hf, hs, hk => by
    cases e : stp w S n (l, k) with
    | none =>
      obtain ⟨rfl, hb⟩ := stp_none h hs hk e
      exact ⟨k, hb, by rw [tr_stop hw h e]; rfl⟩
    | some s' =>
      obtain ⟨l', k'⟩ := s'
      have lt := stp_lt hw h e
      obtain ⟨h1, h2, _⟩ := stp_st hw h hs hk e
      cases f with
      | zero => omega
      | succ f =>
        obtain ⟨b, hb, hl⟩ := tr_last hw h f l' k' (by omega) h1 h2
        refine ⟨b, hb, ?_⟩
        rw [tr_go hw h e]
        cases et : tr w S n (l', k') with
        | nil => exact absurd et tr_ne
        | cons x r => rw [et] at hl; rw [List.getLast?_cons_cons]; exact hl
theorem bel_none_lt {S : List Int} (h : Srt S) {n : Int} : bel S (n + 1) = none ↔ ∀ a, S.head? = some a → ¬ a ≤ n := by
  rw [bel_none]
  constructor
  · intro q a ha l
    have := q a (head_mem ha)
    omega
  · intro q z hz
    cases e : S.head? with
    | none => rw [head_nil e] at hz; cases hz
    | some a =>
      have := q a e
      have := head_le h e z hz
      omega
/-- the trail's end -/
theorem trail_last {w : Int} {h : Nat} {S : List Int} (hw : 0 < w) (hs : Srt S) {n : Int} : (trail w h S n).getLast? = (bel S (n + 1)).map fun b => (0, b) := by
  unfold trail
  cases e : S.head? with
  | none =>
    rw [(bel_none_lt hs).mpr fun a ha => by rw [e] at ha; cases ha]
    rfl
  | some a =>
    by_cases q : a ≤ n
    · simp only [q, if_true]
      obtain ⟨b, h1, h2⟩ := tr_last hw hs (mu S (h, a)) h a (Nat.le_refl _) (st_least hs e) q
      rw [h2, h1]
      rfl
    · simp only [q, if_false]
      rw [(bel_none_lt hs).mpr fun b hb => by rw [e] at hb; cases hb; exact q]
      rfl
theorem trail_nil {w : Int} {h : Nat} {S : List Int} (hw : 0 < w) (hs : Srt S) {n : Int} : trail w h S n = [] ↔ bel S (n + 1) = none := by
  have := trail_last (h := h) hw hs (n := n)
  rw [← List.getLast?_eq_none_iff, this, Option.map_eq_none_iff]
theorem trail_len {w : Int} {h : Nat} {S : List Int} (hw : 0 < w) (hs : Srt S) {n : Int} : (trail w h S n).length ≤ h + S.length + 1 := by
  unfold trail
  cases e : S.head? with
  | none => simp
  | some a =>
    by_cases q : a ≤ n
    · simp only [q, if_true]
      have h1 := tr_len hw hs (n := n) (h, a)
      have h2 := up_le (S := S) (x := a)
      have h3 : mu S (h, a) = h + up S a := rfl
      omega
    · simp only [q, if_false]
      simp

/-! ### places -/
theorem rk_get {S : List Int} (h : Srt S) {i : Nat} {x : Int} (e : S[i]? = some x) : rk S x = i := by
  unfold rk
  have hi := (List.getElem?_eq_some_iff.mp e).1
  have e2 : S = S.take i ++ S.drop i := (List.take_append_drop i S).symm
  rw [e2, List.countP_append]
  have a : (S.take i).countP (fun z => decide (z < x)) = i := by
    have e3 : (S.take i).countP (fun z => decide (z < x)) = (S.take i).length := List.countP_eq_length.mpr fun z hz => by
      obtain ⟨j, hj, rfl⟩ := List.mem_iff_getElem.mp hz
      have hj2 : j < i := by rw [List.length_take] at hj; omega
      refine decide_eq_true (get_lt h (i := j) (j := i) ?_ e hj2)
      rw [List.getElem_take]
      exact List.getElem?_eq_getElem _
    rw [e3, List.length_take]
    omega
  have b : (S.drop i).countP (fun z => decide (z < x)) = 0 := by
    rw [List.countP_eq_zero]
    intro z hz q
    obtain ⟨j, hj, rfl⟩ := List.mem_iff_getElem.mp hz
    have q' := of_decide_eq_true q
    rw [List.getElem_drop] at q'
    rcases Nat.eq_zero_or_pos j with rfl | hj0
    · have := Option.some.inj ((List.getElem?_eq_getElem (show i + 0 < S.length by omega)).symm.trans e)
      omega
    · have hlen : i + j < S.length := by rw [List.length_drop] at hj; omega
      have := get_lt h e (List.getElem?_eq_getElem hlen) (by omega)
      omega
  omega
theorem rk_mono {S : List Int} {x y : Int} (h : x ≤ y) : rk S x ≤ rk S y := count_le fun z _ q => by
  have := of_decide_eq_true q
  exact decide_eq_true (by omega)
theorem rk_lt {S : List Int} {x y : Int} (hx : x ∈ S) (h : x < y) : rk S x < rk S y := by
  unfold rk
  have h1 : S.countP (fun z => decide (z < y)) = S.countP (fun z => decide (z < x)) + S.countP (fun z => decide (x ≤ z ∧ z < y)) := count_two (fun z _ => by
    rw [← Bool.decide_or, decide_eq_decide]
    omega) fun z _ q => by
    have := of_decide_eq_true q
    exact decide_eq_false (by omega)
  have h2 : 0 < S.countP (fun z => decide (x ≤ z ∧ z < y)) := List.countP_pos_iff.mpr ⟨x, hx, decide_eq_true ⟨Int.le_refl _, h⟩⟩
  omega
theorem rk_le_iff {S : List Int} {x y : Int} (hy : y ∈ S) : rk S x ≤ rk S y ↔ x ≤ y := by
  constructor
  · intro q
    rcases Int.lt_or_le y x with q2 | q2
    · have := rk_lt hy q2; omega
    · exact q2
  · exact rk_mono
theorem bel_rk {S : List Int} (h : Srt S) {n b : Int} (e : bel S n = some b) : rk S n = rk S b + 1 := by
  obtain ⟨b1, b2, b3⟩ := (bel_some h).mp e
  have h1 : rk S n = rk S b + S.countP (fun z => decide (z = b)) := count_two (fun z hz => by
    rw [← Bool.decide_or, decide_eq_decide]
    constructor
    · intro q
      have := b3 z hz q
      omega
    · omega) fun z _ q => by
    have := of_decide_eq_true q
    exact decide_eq_false (by omega)
  have h2 : S.countP (fun z => decide (z = b)) = 1 := by
    obtain ⟨i, hi, hb⟩ := List.mem_iff_getElem.mp b1
    have e1 : S[i]? = some b := by rw [List.getElem?_eq_getElem hi, hb]
    have h3 := rk_get h e1
    have h4 : S.countP (fun z => decide (z < b + 1)) = rk S b + S.countP (fun z => decide (z = b)) := count_two (fun z _ => by
      rw [← Bool.decide_or, decide_eq_decide]
      omega) fun z _ q => by
      have := of_decide_eq_true q
      exact decide_eq_false (by omega)
    have h5 := (srt_nodup h)
    have h6 : S.count b = 1 := by
      have := List.nodup_iff_count.mp h5 b
      have := List.count_pos_iff.mpr b1
      omega
    rw [← h6]
    unfold List.count
    exact List.countP_congr fun z _ => by simp
  omega
theorem bel_none_rk {S : List Int} {n : Int} (e : bel S n = none) : rk S n = 0 := by
  unfold rk
  rw [List.countP_eq_zero]
  intro z hz
  have := bel_none.mp e z hz
  simp
  omega
theorem bf_one {S : List Int} (h : Srt S) {n : Int} : bf 1 S n = bel S n := by
  unfold bf
  cases e : bel S n with
  | none => rfl
  | some b =>
    show hd 1 S b = some b
    refine (hd_some h).mpr ⟨((bel_some h).mp e).1, rfl, fun z _ q => ?_⟩
    rw [Int.ediv_one, Int.ediv_one] at q
    omega
theorem gp_one {S : List Int} (h : Srt S) {k : Int} (hk : k ∈ S) : gp 1 S k = 1 := by
  have h6 : S.count k = 1 := by
    have := List.nodup_iff_count.mp (srt_nodup h) k
    have := List.count_pos_iff.mpr hk
    omega
  rw [← h6]
  unfold gp List.count
  exact List.countP_congr fun z _ => by simp
theorem abv_head {S : List Int} (h : Srt S) {n : Int} (e : bel S (n + 1) = none) : abv S (n - 1) = S.head? := by
  have e' := bel_none.mp e
  cases eh : S.head? with
  | none => rw [head_nil eh]; rfl
  | some a => exact (abv_some h).mpr ⟨head_mem eh, by have := e' a (head_mem eh); omega, fun z hz _ => head_le h eh z hz⟩
theorem abv_self {S : List Int} (h : Srt S) {n : Int} (e : bel S (n + 1) = some n) : abv S (n - 1) = some n := by
  obtain ⟨h1, h2, h3⟩ := (bel_some h).mp e
  exact (abv_some h).mpr ⟨h1, by omega, fun z _ q => by omega⟩
theorem abv_bel {S : List Int} (h : Srt S) {n b : Int} (e : bel S (n + 1) = some b) (ne : b ≠ n) : abv S b = abv S (n - 1) := by
  obtain ⟨h1, h2, h3⟩ := (bel_some h).mp e
  have key : ∀ z ∈ S, (b < z ↔ n - 1 < z) := fun z hz => by
    constructor
    · intro q
      rcases Int.lt_or_le z (n + 1) with q2 | q2
      · have := h3 z hz q2; omega
      · omega
    · intro q
      omega
  cases e2 : abv S (n - 1) with
  | none =>
    refine abv_none.mpr fun z hz => ?_
    have := abv_none.mp e2 z hz
    have := key z hz
    omega
  | some y =>
    obtain ⟨y1, y2, y3⟩ := (abv_some h).mp e2
    exact (abv_some h).mpr ⟨y1, (key y y1).mpr y2, fun z hz q => y3 z hz ((key z hz).mp q)⟩
theorem abv_bel2 {S : List Int} (h : Srt S) {n b : Int} (hn : n ∉ S) (e : bel S n = some b) : abv S b = abv S n := by
  obtain ⟨h1, h2, h3⟩ := (bel_some h).mp e
  have key : ∀ z ∈ S, (b < z ↔ n < z) := fun z hz => by
    have zn : z ≠ n := fun q => hn (q ▸ hz)
    constructor
    · intro q
      rcases lt_or zn with q2 | q2
      · have := h3 z hz q2; omega
      · exact q2
    · intro q
      omega
  cases e2 : abv S n with
  | none =>
    refine abv_none.mpr fun z hz => ?_
    have := abv_none.mp e2 z hz
    have := key z hz
    omega
  | some y =>
    obtain ⟨y1, y2, y3⟩ := (abv_some h).mp e2
    exact (abv_some h).mpr ⟨y1, (key y y1).mpr y2, fun z hz q => y3 z hz ((key z hz).mp q)⟩
theorem abv_head2 {S : List Int} (h : Srt S) {n : Int} (hn : n ∉ S) (e : bel S n = none) : S.head? = abv S n := by
  have e' := bel_none.mp e
  cases eh : S.head? with
  | none => rw [head_nil eh]; rfl
  | some a =>
    have h1 := e' a (head_mem eh)
    have h2 : a ≠ n := fun q => hn (q ▸ head_mem eh)
    exact ((abv_some h).mpr ⟨head_mem eh, by omega, fun z hz _ => head_le h eh z hz⟩).symm
/-- the ones from low on, up to below high -/
def mid (S : List Int) (lo hi : Int) : List Int := S.filter fun z => decide (lo ≤ z ∧ z < hi)
theorem filter_ge {S : List Int} (h : Srt S) (n : Int) : S.filter (fun z => decide (n ≤ z)) = S.drop (rk S n) := by
  refine srt_ext (srt_filter h _) (List.Pairwise.sublist (List.drop_sublist _ S) h) fun x => ?_
  rw [List.mem_filter, decide_eq_true_eq]
  constructor
  · rintro ⟨hx, q⟩
    obtain ⟨i, hi, rfl⟩ := List.mem_iff_getElem.mp hx
    have e1 := rk_get h (List.getElem?_eq_getElem hi)
    have := rk_mono (S := S) q
    refine List.mem_iff_getElem.mpr ⟨i - rk S n, by rw [List.length_drop]; omega, ?_⟩
    rw [List.getElem_drop]
    congr 1
    omega
  · intro hx
    obtain ⟨j, hj, rfl⟩ := List.mem_iff_getElem.mp hx
    rw [List.length_drop] at hj
    have hlen : rk S n + j < S.length := by omega
    rw [List.getElem_drop]
    refine ⟨List.getElem_mem _, ?_⟩
    have e1 := rk_get h (List.getElem?_eq_getElem hlen)
    rcases Int.lt_or_le S[rk S n + j] n with q | q
    · have := rk_lt (List.getElem_mem hlen) q
      omega
    · exact q
theorem filter_lt {S : List Int} (h : Srt S) (n : Int) : S.filter (fun z => decide (z < n)) = S.take (rk S n) := by
  refine srt_ext (srt_filter h _) (srt_take h _) fun x => ?_
  rw [List.mem_filter, decide_eq_true_eq]
  constructor
  · rintro ⟨hx, q⟩
    obtain ⟨i, hi, rfl⟩ := List.mem_iff_getElem.mp hx
    have e1 := rk_get h (List.getElem?_eq_getElem hi)
    have := rk_lt hx q
    exact List.mem_iff_getElem.mpr ⟨i, by rw [List.length_take]; omega, by rw [List.getElem_take]⟩
  · intro hx
    obtain ⟨j, hj, rfl⟩ := List.mem_iff_getElem.mp hx
    rw [List.length_take] at hj
    have hlen : j < S.length := by omega
    rw [List.getElem_take]
    refine ⟨List.getElem_mem _, ?_⟩
    have e1 := rk_get h (List.getElem?_eq_getElem hlen)
    rcases Int.lt_or_le S[j] n with q | q
    · exact q
    · have := rk_mono (S := S) q
      omega
theorem mid_eq {S : List Int} (h : Srt S) (lo hi : Int) : mid S lo hi = (S.drop (rk S lo)).take (rk S hi - rk S lo) := by
  unfold mid
  have e : (fun z => decide (lo ≤ z ∧ z < hi)) = fun z => (decide (z < hi) && decide (lo ≤ z)) := by
    funext z
    rw [← Bool.decide_and, decide_eq_decide]
    omega
  rw [e]
  have e2 : (S.filter fun z => decide (z < hi) && decide (lo ≤ z)) = (S.filter fun z => decide (lo ≤ z)).filter fun z => decide (z < hi) := by
    rw [List.filter_filter]
  rw [e2, filter_ge h, filter_lt (List.Pairwise.sublist (List.drop_sublist _ S) h)]
  congr 1
  by_cases q : lo ≤ hi
  · have e3 : rk S hi = (S.take (rk S lo)).countP (fun z => decide (z < hi)) + (S.drop (rk S lo)).countP (fun z => decide (z < hi)) := by
      have := List.countP_append (p := fun z => decide (z < hi)) (l₁ := S.take (rk S lo)) (l₂ := S.drop (rk S lo))
      rw [List.take_append_drop] at this
      exact this
    have e4 : (S.take (rk S lo)).countP (fun z => decide (z < hi)) = (S.take (rk S lo)).length := List.countP_eq_length.mpr fun z hz => by
      rw [← filter_lt h] at hz
      have := of_decide_eq_true (List.mem_filter.mp hz).2
      exact decide_eq_true (by omega)
    rw [List.length_take] at e4
    have := rk_le (S := S) (n := lo)
    unfold rk at *
    omega
  · have e3 : (S.drop (rk S lo)).countP (fun z => decide (z < hi)) = 0 := by
      rw [List.countP_eq_zero, ← filter_ge h]
      intro z hz
      have := of_decide_eq_true (List.mem_filter.mp hz).2
      simp
      omega
    have := rk_mono (S := S) (show hi ≤ lo by omega)
    unfold rk at *
    omega
theorem mid_len {S : List Int} (h : Srt S) (lo hi : Int) : (mid S lo hi).length = rk S hi - rk S lo := by
  rw [mid_eq h, List.length_take, List.length_drop]
  have := rk_le (S := S) (n := hi)
  omega
end Sk

namespace Sk
theorem nx_at {c : Int} {S : List Int} (hc : 0 < c) (h : Srt S) {i j : Nat} {k : Int} (hi : S[i]? = some k) (hj : i < j) (same : ∀ m z, i ≤ m → m < j → S[m]? = some z → z / c = k / c) (out : ∀ y, S[j]? = some y → y / c ≠ k / c) : nx c S k = S[j]? := by
  have low : ∀ m z, m < j → S[m]? = some z → z / c ≤ k / c := fun m z hm hz => by
    rcases Nat.lt_or_ge m i with q | q
    · exact div_le hc (Int.le_of_lt (get_lt h hz hi q))
    · rw [same m z q hm hz]; exact Int.le_refl _
  cases e : S[j]? with
  | none =>
    refine nx_none.mpr fun z hz => ?_
    obtain ⟨m, hm, rfl⟩ := List.mem_iff_getElem.mp hz
    have : S.length ≤ j := by
      rcases Nat.lt_or_ge j S.length with q | q
      · rw [List.getElem?_eq_getElem q] at e; cases e
      · exact q
    exact low m _ (by omega) (List.getElem?_eq_getElem hm)
  | some y =>
    have ky := get_lt h hi e hj
    have := div_le hc (Int.le_of_lt ky)
    have := out y e
    refine (nx_some h).mpr ⟨List.mem_of_getElem? e, by omega, fun z hz q => ?_⟩
    obtain ⟨m, hm, rfl⟩ := List.mem_iff_getElem.mp hz
    have em : S[m]? = some S[m] := List.getElem?_eq_getElem hm
    rcases Nat.lt_or_ge m j with q2 | q2
    · have := low m _ q2 em
      omega
    · rcases Nat.eq_or_lt_of_le q2 with q3 | q3
      · subst q3
        rw [em] at e
        exact Int.le_of_eq (Option.some.inj e).symm
      · exact Int.le_of_lt (get_lt h e em q3)
theorem head_rev {S : List Int} {n : Int} : (S.reverse.filter fun z => decide (z ≤ n)).head? = bel S (n + 1) := by
  unfold bel
  rw [List.filter_reverse, List.head?_reverse]
  refine congrArg _ (List.filter_congr fun z _ => ?_)
  rw [decide_eq_decide]; omega
theorem head_ge {S : List Int} {n : Int} : (S.filter fun z => decide (n ≤ z)).head? = abv S (n - 1) := by
  unfold abv
  rw [List.head?_filter]
  refine congrArg (fun p => S.find? p) (funext fun z => ?_)
  rw [decide_eq_decide]; omega
end Sk

namespace Sk
/-- whether a number stands, told by its place -/
def cnd (c : Int) (S : List Int) (i : Nat) : Prop := i = 0 ∨ S.getD (i - 1) 0 / c < S.getD i 0 / c
instance {c : Int} {S : List Int} {i : Nat} : Decidable (cnd c S i) := by unfold cnd; exact inferInstance
def plc (c : Int) (S : List Int) : List Nat := (List.range S.length).filter fun i => decide (cnd c S i)
theorem getD_of {S : List Int} {i : Nat} {x : Int} (e : S[i]? = some x) : S.getD i 0 = x := by rw [List.getD_eq_getElem?_getD, e]; rfl
theorem lt_of_get {S : List Int} {i : Nat} {x : Int} (e : S[i]? = some x) : i < S.length := by
  rcases Nat.lt_or_ge i S.length with q | q
  · exact q
  · rw [List.getElem?_eq_none q] at e; cases e
theorem get_of {S : List Int} {i : Nat} (h : i < S.length) : S[i]? = some (S.getD i 0) := by
  rw [List.getD_eq_getElem?_getD, List.getElem?_eq_getElem h]; rfl
theorem cnd_st {c : Int} {S : List Int} (hc : 0 < c) (h : Srt S) {i : Nat} {x : Int} (e : S[i]? = some x) : cnd c S i ↔ St c S x := by
  have ei := getD_of e
  have hl := lt_of_get e
  unfold cnd
  constructor
  · intro q
    refine ⟨List.mem_of_getElem? e, fun z hz zx => ?_⟩
    obtain ⟨m, hm, rfl⟩ := List.mem_iff_getElem.mp hz
    have em : S[m]? = some S[m] := List.getElem?_eq_getElem hm
    have mi : m < i := by
      rcases Nat.lt_or_ge m i with q2 | q2
      · exact q2
      · rcases Nat.eq_or_lt_of_le q2 with q3 | q3
        · subst q3; rw [em] at e; have := Option.some.inj e; omega
        · have := get_lt h e em q3; omega
    rcases q with q | q
    · omega
    · rw [ei] at q
      have e1 := get_of (S := S) (i := i - 1) (by omega)
      have : S[m] ≤ S.getD (i - 1) 0 := by
        rcases Nat.eq_or_lt_of_le (show m ≤ i - 1 by omega) with q3 | q3
        · subst q3; rw [em] at e1; exact Int.le_of_eq (Option.some.inj e1)
        · exact Int.le_of_lt (get_lt h em e1 q3)
      have := div_le hc this
      omega
  · intro st
    rcases Nat.eq_zero_or_pos i with q | q
    · exact .inl q
    · refine .inr ?_
      have e1 := get_of (S := S) (i := i - 1) (by omega)
      have lt := get_lt h e1 e (by omega)
      have := div_le hc (Int.le_of_lt lt)
      have := st.2 _ (List.mem_of_getElem? e1) lt
      rw [ei]
      omega
theorem plc_mem {c : Int} {S : List Int} {i : Nat} : i ∈ plc c S ↔ i < S.length ∧ cnd c S i := by
  unfold plc; simp
theorem plc_srt {c : Int} {S : List Int} : (plc c S).Pairwise (· < ·) := List.Pairwise.filter _ List.pairwise_lt_range
theorem gap_next {ps : List Nat} (h : ps.Pairwise (· < ·)) {k i m : Nat} (hk : ps[k]? = some i) (hm : m ∈ ps) (im : i < m) : ∃ j, ps[k + 1]? = some j ∧ j ≤ m := by
  obtain ⟨q, hq, rfl⟩ := List.mem_iff_getElem.mp hm
  have hkl : k < ps.length := by
    rcases Nat.lt_or_ge k ps.length with z | z
    · exact z
    · rw [List.getElem?_eq_none z] at hk; cases hk
  rw [List.getElem?_eq_getElem hkl] at hk
  have hk := Option.some.inj hk
  have pw := List.pairwise_iff_getElem.mp h
  have kq : k < q := by
    rcases Nat.lt_or_ge k q with z | z
    · exact z
    · rcases Nat.eq_or_lt_of_le z with z2 | z2
      · subst z2; omega
      · have := pw q k hq hkl z2; omega
  refine ⟨ps[k + 1]'(by omega), List.getElem?_eq_getElem (by omega), ?_⟩
  rcases Nat.eq_or_lt_of_le (show k + 1 ≤ q by omega) with z | z
  · subst z; exact Nat.le_refl _
  · exact Nat.le_of_lt (pw (k + 1) q (by omega) hq z)
theorem plc_next {c : Int} {S : List Int} (hc : 0 < c) (h : Srt S) {k i : Nat} {x : Int} (hk : (plc c S)[k]? = some i) (e : S[i]? = some x) : nx c S x = (plc c S)[k + 1]?.bind fun j => S[j]? := by
  obtain ⟨j, hj, ij⟩ : ∃ j, ((plc c S)[k + 1]?.bind fun j => S[j]?) = S[j]? ∧ i < j ∧ (∀ m, i < m → m < j → m < S.length → ¬ cnd c S m) ∧ (∀ y, S[j]? = some y → cnd c S j) := by
    cases q : (plc c S)[k + 1]? with
    | none =>
      have hi := lt_of_get e
      refine ⟨S.length, by rw [List.getElem?_eq_none (Nat.le_refl _)]; rfl, hi, fun m im _ hm cm => ?_, fun y hy => ?_⟩
      · obtain ⟨j, hj, _⟩ := gap_next plc_srt hk (plc_mem.mpr ⟨hm, cm⟩) im
        rw [q] at hj; cases hj
      · have := lt_of_get hy; omega
    | some j =>
      have mj := plc_mem.mp (List.mem_of_getElem? q)
      refine ⟨j, rfl, ?_, fun m im mj2 hm cm => ?_, fun _ _ => mj.2⟩
      · have kl : k + 1 < (plc c S).length := by
          rcases Nat.lt_or_ge (k + 1) (plc c S).length with z | z
          · exact z
          · rw [List.getElem?_eq_none z] at q; cases q
        rw [List.getElem?_eq_getElem kl] at q
        rw [List.getElem?_eq_getElem (show k < _ by omega)] at hk
        have := List.pairwise_iff_getElem.mp (plc_srt (c := c) (S := S)) k (k + 1) (by omega) kl (by omega)
        have h1 := Option.some.inj q
        have h2 := Option.some.inj hk
        omega
      · obtain ⟨j2, hj2, l2⟩ := gap_next plc_srt hk (plc_mem.mpr ⟨hm, cm⟩) im
        rw [q] at hj2
        cases hj2
        omega
  obtain ⟨ij, btw, out⟩ := ij
  rw [hj]
  have same : ∀ m, i ≤ m → m < j → ∀ z, S[m]? = some z → z / c = x / c := fun m => by
    induction m with
    | zero =>
      intro h1 _ z hz
      obtain rfl : i = 0 := by omega
      rw [e] at hz; cases hz; rfl
    | succ m ih =>
      intro h1 h2 z hz
      rcases Nat.eq_or_lt_of_le h1 with q | q
      · subst q; rw [e] at hz; cases hz; rfl
      · have hz' := lt_of_get hz
        have nb := btw (m + 1) q h2 hz'
        have em := get_of (S := S) (i := m) (by omega)
        have i1 := ih (by omega) (by omega) _ em
        have := div_le hc (Int.le_of_lt (get_lt h em hz (by omega)))
        have n2 : ¬ S.getD m 0 / c < z / c := fun q2 => nb (.inr (by rw [getD_of hz]; exact q2))
        omega
  refine nx_at hc h e ij (fun m z h1 h2 h3 => same m h1 h2 z h3) fun y hy => ?_
  have cj := out y hy
  have hy' := lt_of_get hy
  rcases cj with q | q
  · omega
  · have em := get_of (S := S) (i := j - 1) (by omega)
    have := same (j - 1) (by omega) (by omega) _ em
    rw [getD_of hy] at q
    omega
theorem plc_there {c : Int} {S : List Int} (hc : 0 < c) (h : Srt S) {x : Int} : x ∈ (plc c S).map (fun i => S.getD i 0) ↔ St c S x := by
  rw [List.mem_map]
  constructor
  · rintro ⟨i, hi, rfl⟩
    obtain ⟨h1, h2⟩ := plc_mem.mp hi
    exact (cnd_st hc h (get_of h1)).mp h2
  · intro st
    obtain ⟨i, hi, rfl⟩ := List.mem_iff_getElem.mp st.1
    have e : S[i]? = some S[i] := List.getElem?_eq_getElem hi
    exact ⟨i, plc_mem.mpr ⟨hi, (cnd_st hc h e).mpr st⟩, getD_of e⟩
end Sk

namespace Sk
/-! ### levels of a row with one number more -/
theorem alk_in {c : Int} {S : List Int} (hc : 0 < c) (h : Srt S) {n a : Int} (hn : n ∉ S) (hst : St c (ins S n) n) (ha : abv S n = some a) (e : n / c = a / c) : St c S a := by
  obtain ⟨h1, h2, h3⟩ := (abv_some h).mp ha
  refine ⟨h1, fun z hz zl => ?_⟩
  have ne : z ≠ n := fun q => hn (q ▸ hz)
  rcases lt_or ne with q | q
  · rw [← e]
    exact hst.2 z (mem_ins.mpr (.inr hz)) q
  · have := h3 z hz q
    omega
theorem lv_put {c : Int} {S : List Int} (hc : 0 < c) (h : Srt S) {n : Int} (hn : n ∉ S) (hst : St c (ins S n) n) {k : Int} : k ∈ lv c (ins S n) ↔ k = n ∨ (k ∈ lv c S ∧ ¬ (abv S n = some k ∧ n / c = k / c)) := by
  rw [lv_mem, lv_mem]
  by_cases e : k = n
  · subst e
    exact ⟨fun _ => .inl rfl, fun _ => hst⟩
  · rw [st_ins_k hc h hn e]
    constructor
    · rintro ⟨h1, h2⟩
      refine .inr ⟨h1, fun ⟨q1, q2⟩ => h2 ⟨((abv_some h).mp q1).2.1, q2⟩⟩
    · rintro (q | ⟨h1, h2⟩)
      · exact absurd q e
      · refine ⟨h1, fun ⟨q1, q2⟩ => h2 ⟨(abv_some h).mpr ⟨h1.1, q1, fun z hz zn => ?_⟩, q2⟩⟩
        rcases Int.lt_or_le z k with q3 | q3
        · have a1 := div_le hc (Int.le_of_lt zn)
          have a2 := div_le hc (Int.le_of_lt q3)
          exact absurd (by omega) (h1.2 z hz q3)
        · exact q3
theorem lv_stay {c : Int} {S : List Int} (hc : 0 < c) (h : Srt S) {n : Int} (hn : n ∉ S) (hst : ¬ St c (ins S n) n) : lv c (ins S n) = lv c S := by
  refine srt_ext (srt_lv (srt_ins h n)) (srt_lv h) fun k => ?_
  rw [lv_mem, lv_mem]
  by_cases e : k = n
  · subst e
    exact ⟨fun q => absurd q hst, fun q => absurd q.1 hn⟩
  · rw [st_ins_k hc h hn e]
    refine ⟨fun q => q.1, fun q => ⟨q, fun ⟨q1, q2⟩ => hst ?_⟩⟩
    rw [st_ins_n hc h hn]
    intro z hz e2
    obtain ⟨z1, z2, _⟩ := (bel_some h).mp hz
    exact q.2 z z1 (by omega) (by omega)
theorem lv_lv {c d : Int} {S : List Int} (hc : 0 < c) (h : Srt S) : lv (c * d) (lv c S) = lv (c * d) S := by
  refine srt_ext (srt_lv (srt_lv h)) (srt_lv h) fun k => ?_
  rw [lv_mem, lv_mem]
  constructor
  · rintro ⟨h1, h2⟩
    have h1 := lv_mem.mp h1
    refine ⟨h1.1, fun z hz zk e => ?_⟩
    cases eh : hd c S z with
    | none => exact hd_none.mp eh z hz rfl
    | some y =>
      obtain ⟨y1, y2, y3⟩ := (hd_some h).mp eh
      have yz := y3 z hz rfl
      refine h2 y (lv_mem.mpr ⟨y1, fun x hx xy e2 => ?_⟩) (by omega) ?_
      · have := y3 x hx (e2.trans y2)
        omega
      · rw [div_mul hc, y2, ← div_mul hc]
        exact e
  · intro q
    exact ⟨lv_mem.mpr (st_down hc q), fun z hz zk => q.2 z (lv_mem.mp hz).1 zk⟩
end Sk

namespace Sk
/-! ### the steps of a trail -/
theorem stp_inv {w : Int} {S : List Int} {n : Int} {l : Nat} {k : Int} {s' : Nat × Int} (e : stp w S n (l, k) = some s') :
    (∃ y, nx (w ^ l) S k = some y ∧ y ≤ n ∧ s' = (l, y)) ∨ (∃ l', l = l' + 1 ∧ s' = (l', k) ∧ ∀ y, nx (w ^ l) S k = some y → ¬ y ≤ n) := by
  unfold stp at e
  cases e1 : (nx (w ^ l) S k).filter (fun y => decide (y ≤ n)) with
  | some y =>
    simp only [e1, Option.some.injEq] at e
    obtain ⟨e2, e3⟩ := Option.filter_eq_some_iff.mp e1
    exact .inl ⟨y, e2, of_decide_eq_true e3, e.symm⟩
  | none =>
    simp only [e1] at e
    cases l with
    | zero => cases e
    | succ l =>
      simp only [Option.some.injEq] at e
      refine .inr ⟨l, rfl, e.symm, fun y hy q => ?_⟩
      rw [hy] at e1
      simp only [Option.filter, decide_eq_true q, if_true] at e1
      cases e1
theorem tr_chain {w : Int} {S : List Int} (hw : 0 < w) (h : Srt S) {n : Int} : ∀ (f : Nat) (s : Nat × Int), mu S s ≤ f → ∀ (i : Nat) (a b : Nat × Int), (tr w S n s)[i]? = some a → (tr w S n s)[i + 1]? = some b → stp w S n a = some b
  | f, s, hf, i, a, b, ha, hb => by
    cases e : stp w S n s with
    | none =>
      rw [tr_stop hw h e] at hb
      rw [List.getElem?_eq_none (by simp)] at hb
      cases hb
    | some s' =>
      have lt := stp_lt hw h e
      rw [tr_go hw h e] at ha hb
      cases i with
      | zero =>
        rw [List.getElem?_cons_zero] at ha
        rw [List.getElem?_cons_succ] at hb
        cases ha
        have : (tr w S n s')[0]? = some s' := by rw [tr_eq hw h s']; rfl
        rw [this] at hb
        cases hb
        exact e
      | succ i =>
        rw [List.getElem?_cons_succ] at ha hb
        cases f with
        | zero => omega
        | succ f => exact tr_chain hw h f s' (by omega) i a b ha hb
theorem tr_inv {w : Int} {S : List Int} (hw : 0 < w) (h : Srt S) {n : Int} {I : Nat × Int → Prop} (hs : ∀ a b, I a → stp w S n a = some b → I b) : ∀ (f : Nat) (s : Nat × Int), mu S s ≤ f → I s → ∀ x ∈ tr w S n s, I x
  | f, s, hf, hi, x, hx => by
    cases e : stp w S n s with
    | none =>
      rw [tr_stop hw h e, List.mem_singleton] at hx
      exact hx ▸ hi
    | some s' =>
      have lt := stp_lt hw h e
      rw [tr_go hw h e] at hx
      rcases List.mem_cons.mp hx with q | q
      · exact q ▸ hi
      · cases f with
        | zero => omega
        | succ f => exact tr_inv hw h hs f s' (by omega) (hs s s' hi e) x q
/-- what holds wherever the search stands -/
structure Rch (w : Int) (h : Nat) (S : List Int) (n : Int) (s : Nat × Int) : Prop where
  lv : s.1 ≤ h
  st : St (w ^ s.1) S s.2
  le : s.2 ≤ n
  up : ∀ y, nx (w ^ (s.1 + 1)) S s.2 = some y → ¬ y ≤ n
theorem rch_top {w : Int} {h : Nat} {S : List Int} (hw : 0 < w) (hs : Srt S) {n x : Int} (lo : ∀ z ∈ S, 0 ≤ z) (hi : ∀ z ∈ S, z < w ^ h) (hx : S.head? = some x) (xn : x ≤ n) : Rch w h S n (h, x) where
  lv := Nat.le_refl _
  st := st_least hs hx
  le := xn
  up := fun y hy => by
    obtain ⟨y1, y2, _⟩ := (nx_some hs).mp hy
    replace y2 : x / w ^ (h + 1) < y / w ^ (h + 1) := y2
    have xm := head_mem hx
    have e : ∀ z ∈ S, z / w ^ (h + 1) = 0 := fun z hz => by
      rw [Int.pow_succ, div_mul (Int.pow_pos hw), Int.ediv_eq_zero_of_lt (lo z hz) (hi z hz), Int.zero_ediv]
    have e1 := e y y1
    have e2 := e x xm
    omega
theorem rch_nx_top {w : Int} {h : Nat} {S : List Int} (hw : 0 < w) (hs : Srt S) {k : Int} (lo : ∀ z ∈ S, 0 ≤ z) (hi : ∀ z ∈ S, z < w ^ h) (hk : k ∈ S) : nx (w ^ h) S k = none := by
  refine nx_none.mpr fun z hz => ?_
  rw [Int.ediv_eq_zero_of_lt (lo z hz) (hi z hz), Int.ediv_eq_zero_of_lt (lo k hk) (hi k hk)]
  exact Int.le_refl _
theorem rch_blk {w : Int} {h : Nat} {S : List Int} (hw : 0 < w) (hs : Srt S) {n : Int} {l : Nat} {k y : Int} (r : Rch w h S n (l, k)) (e : nx (w ^ l) S k = some y) (yn : y ≤ n) : y / w ^ (l + 1) = k / w ^ (l + 1) := by
  have hc : 0 < w ^ (l + 1) := Int.pow_pos hw
  obtain ⟨y1, y2, y3⟩ := (nx_some hs).mp e
  have kl := nx_lt (Int.pow_pos hw) hs e
  have a := div_le hc (Int.le_of_lt kl)
  rcases Decidable.em (y / w ^ (l + 1) = k / w ^ (l + 1)) with q | q
  · exact q
  · have lt : k / w ^ (l + 1) < y / w ^ (l + 1) := by omega
    cases en : nx (w ^ (l + 1)) S k with
    | none =>
      have := nx_none.mp en y y1
      omega
    | some z =>
      have zn := r.up z en
      have := ((nx_some hs).mp en).2.2 y y1 lt
      omega
theorem rch_step {w : Int} {h : Nat} {S : List Int} (hw : 0 < w) (hs : Srt S) {n : Int} {a b : Nat × Int} (r : Rch w h S n a) (e : stp w S n a = some b) : Rch w h S n b := by
  obtain ⟨l, k⟩ := a
  rcases stp_inv e with ⟨y, y1, y2, rfl⟩ | ⟨l', rfl, rfl, no⟩
  · refine ⟨r.lv, st_nx (Int.pow_pos hw) hs y1, y2, fun z hz => ?_⟩
    have eb := rch_blk hw hs r y1 y2
    exact r.up z (by rw [← nx_blk eb]; exact hz)
  · exact ⟨Nat.le_of_succ_le r.lv, st_pred hw r.st, r.le, no⟩
/-- a number's block's place in the block above -/
def pos (w : Int) (s : Nat × Int) : Int := (s.2 / w ^ s.1) % w
theorem pos_b {w : Int} (hw : 0 < w) (s : Nat × Int) : 0 ≤ pos w s ∧ pos w s < w := ⟨Int.emod_nonneg _ (by omega), Int.emod_lt_of_pos _ hw⟩
theorem pos_right {w : Int} {h : Nat} {S : List Int} (hw : 0 < w) (hs : Srt S) {n : Int} {l : Nat} {k y : Int} (r : Rch w h S n (l, k)) (e : nx (w ^ l) S k = some y) (yn : y ≤ n) : pos w (l, k) < pos w (l, y) := by
  have eb := rch_blk hw hs r e yn
  obtain ⟨_, y2, _⟩ := (nx_some hs).mp e
  rw [Int.pow_succ, div_mul (Int.pow_pos hw), div_mul (Int.pow_pos hw)] at eb
  show k / w ^ l % w < y / w ^ l % w
  have e1 := Int.emod_add_mul_ediv (k / w ^ l) w
  have e2 := Int.emod_add_mul_ediv (y / w ^ l) w
  rw [eb] at e2
  omega
theorem tr_short {w : Int} {h : Nat} {S : List Int} (hw : 0 < w) (hs : Srt S) {n : Int} : ∀ (f : Nat) (s : Nat × Int), mu S s ≤ f → Rch w h S n s → ((tr w S n s).length : Int) ≤ 1 + s.1 * w + (w - 1 - pos w s)
  | f, s, hf, r => by
    have hp := pos_b hw s
    have nn : 0 ≤ (s.1 : Int) * w := Int.mul_nonneg (by omega) (by omega)
    cases e : stp w S n s with
    | none =>
      rw [tr_stop hw hs e, List.length_singleton]
      omega
    | some s' =>
      have lt := stp_lt hw hs e
      have r' := rch_step hw hs r e
      rw [tr_go hw hs e, List.length_cons]
      cases f with
      | zero => omega
      | succ f =>
        have ih := tr_short hw hs f s' (by omega) r'
        have hp' := pos_b hw s'
        obtain ⟨l, k⟩ := s
        rcases stp_inv e with ⟨y, y1, y2, rfl⟩ | ⟨l', rfl, rfl, no⟩
        · have := pos_right hw hs r y1 y2
          show ((_ + 1 : Nat) : Int) ≤ 1 + (l : Int) * w + (w - 1 - pos w (l, k))
          replace ih : ((tr w S n (l, y)).length : Int) ≤ 1 + (l : Int) * w + (w - 1 - pos w (l, y)) := ih
          generalize (l : Int) * w = q at *
          omega
        · show ((_ + 1 : Nat) : Int) ≤ 1 + ((l' + 1 : Nat) : Int) * w + (w - 1 - pos w (l' + 1, k))
          replace ih : ((tr w S n (l', k)).length : Int) ≤ 1 + (l' : Int) * w + (w - 1 - pos w (l', k)) := ih
          have e3 : ((l' + 1 : Nat) : Int) * w = (l' : Int) * w + w := by
            rw [show ((l' + 1 : Nat) : Int) = (l' : Int) + 1 by omega, Int.add_mul, Int.one_mul]
          rw [e3]
          generalize (l' : Int) * w = q at *
          omega
theorem trail_short {w : Int} {h : Nat} {S : List Int} (hw : 0 < w) (h1 : 1 ≤ h) (hs : Srt S) {n : Int} (lo : ∀ z ∈ S, 0 ≤ z) (hi : ∀ z ∈ S, z < w ^ h) : ((trail w h S n).length : Int) ≤ 1 + h * w := by
  have nn : 0 ≤ (h : Int) * w := Int.mul_nonneg (by omega) (by omega)
  unfold trail
  cases eh : S.head? with
  | none => simp only [List.length_nil]; omega
  | some x =>
    simp only
    split
    · rename_i xn
      obtain ⟨g, rfl⟩ : ∃ g, h = g + 1 := ⟨h - 1, by omega⟩
      have r := rch_top hw hs lo hi eh xn
      have no : ∀ y, nx (w ^ (g + 1)) S x = some y → ¬ y ≤ n := fun y hy => by
        rw [rch_nx_top hw hs lo hi (head_mem eh)] at hy; cases hy
      have e := stp_down no
      have r' := rch_step hw hs r e
      rw [tr_go hw hs e, List.length_cons]
      have ih : ((tr w S n (g, x)).length : Int) ≤ 1 + (g : Int) * w + (w - 1 - pos w (g, x)) := tr_short hw hs _ (g, x) (Nat.le_refl _) r'
      have hp := pos_b hw (g, x)
      have e3 : ((g + 1 : Nat) : Int) * w = (g : Int) * w + w := by
        rw [show ((g + 1 : Nat) : Int) = (g : Int) + 1 by omega, Int.add_mul, Int.one_mul]
      rw [e3]
      generalize (g : Int) * w = q at *
      omega
    · simp only [List.length_nil]; omega
/-- the next one on a level, found by going along the row -/
theorem nx_walk {c : Int} {S : List Int} (hc : 0 < c) (h : Srt S) {i : Nat} {k b x : Int} (ex : S[i]? = some x) (eb : b / c = k / c) (sm : ∀ z ∈ S.take i, k < z → z / c = k / c) (kx : k < x) (ne : x / c ≠ b / c) : nx c S k = some x := by
  have a := div_le hc (Int.le_of_lt kx)
  refine (nx_some h).mpr ⟨List.mem_of_getElem? ex, by omega, fun z hz zl => ?_⟩
  have kz := lt_of_div hc zl
  obtain ⟨j, hj, rfl⟩ := List.mem_iff_getElem.mp hz
  have ej : S[j]? = some S[j] := List.getElem?_eq_getElem hj
  rcases Nat.lt_or_ge j i with q | q
  · have : S[j] ∈ S.take i := List.mem_take_iff_getElem.mpr ⟨j, by omega, rfl⟩
    have := sm _ this kz
    omega
  · rcases Nat.eq_or_lt_of_le q with q | q
    · subst q; rw [ej] at ex; cases ex; exact Int.le_refl _
    · exact Int.le_of_lt (get_lt h ex ej q)
theorem nx_walk_end {c : Int} {S : List Int} (hc : 0 < c) {k : Int} (sm : ∀ z ∈ S, k < z → z / c = k / c) : nx c S k = none := by
  refine nx_none.mpr fun z hz => ?_
  rcases Int.lt_or_le k z with q | q
  · have := sm z hz q; omega
  · exact div_le hc q
end Sk

/-! ### own rules and the steps by which a reading is gone through -/
namespace Lk
open PySem PySem.Spec PyProof.Rows L2
/-- a def of the text that keeps its promise, however its arguments are bound -/
def FO (P : Program) (w : World) (K : PySem.W.Frag) (mg : Str → Option Value) (base : Heap) (k : Nat) (f : Addr) (ps : List Str) (sp : Sp) : Prop :=
  ∃ fd, FnOk P w K mg base (L2.CX P w) k f fd ps sp ∧ Binds K fd ps []
section
variable {P : Program} {w : World} {K : PySem.W.Frag} {mg : Str → Option Value} {base : Heap}
theorem FO.mk' {x qual : Str} {st : Stmt} {f : Addr} {N ps : List Str} {k : Nat} {sp : Sp} (F : ∃ fd, Fun K x qual st f fd) (S : FnScope N ps (defScope st))
    (hb : ∀ fd, Fun K x qual st f fd → Binds K fd ps [])
    (len : ∀ vs H Q E, sp vs H Q E → vs.length = ps.length)
    (body : ∀ (cdv : Value) (A : Around) (outer : List Env) (s : Shared) (H : Hp) (vs : List V) (Q : VK) (E : XK), Room k (A.deeper (envOfC qual (defScope st) s.heap.objs.size f cdv)) → sp vs H Q E →
      ∃ t, PSs (cxOf (L2.CX P w) P w K mg base N qual (defScope st) f cdv A outer s H E) (defBody st) t ∧ t { nx := fun _ H' => Q .non H', rt := Q } (start N vs) H) :
    FO P w K mg base (k + 1) f ps sp := by
  obtain ⟨fd, F⟩ := F
  exact ⟨fd, F.okX S len body, hb fd F⟩
theorem FO.imp {f : Addr} {ps : List Str} {k : Nat} {sp sp' : Sp} (F : FO P w K mg base k f ps sp) (h : ∀ vs H Q E, sp' vs H Q E → sp vs H Q E) : FO P w K mg base k f ps sp' := by
  obtain ⟨fd, F, b⟩ := F
  exact ⟨fd, F.imp h, b⟩
end
/-! operators, each by a name of its own -/
def nAdd : R2 := rI0 fun i j => .int (i + j)
def nSub : R2 := rI0 fun i j => .int (i - j)
def nMul : R2 := rI CMul fun i j => .int (i * j)
def nMod : R2 := rI (fun _ j => 0 < j) fun i j => .int (i % j)
def nDiv : R2 := rI (fun _ j => 0 < j ∧ j < 2 ^ 64) fun i j => .int (i / j)
def nPow : R2 := rI CPow fun i j => .int (i ^ j.toNat)
def nLt : R2 := rI0 fun i j => .bl (decide (i < j))
def nLe : R2 := rI0 fun i j => .bl (decide (i ≤ j))
def nGt : R2 := rI0 fun i j => .bl (decide (j < i))
def nGe : R2 := rI0 fun i j => .bl (decide (j ≤ i))
def nIsN : R2 := fun x y H Q => y = .non ∧ Q (.bl (decide (x = .non))) H
def nNotN : R2 := fun x y H Q => y = .non ∧ Q (.bl (!decide (x = .non))) H
section
variable {X : Cx}
theorem o_add : OpR X (binaryOp .Add) nAdd := op_add
theorem o_sub : OpR X (binaryOp .Sub) nSub := op_sub
theorem o_mul : OpR X (binaryOp .Mult) nMul := op_mul
theorem o_mod : OpR X (binaryOp .Mod) nMod := op_mod
theorem o_pow : OpR X (binaryOp .Pow) nPow := op_pow
theorem o_div : OpR X (binaryOp .FloorDiv) nDiv := by
  intro pins s σ H x y v u Q I rx ry h
  obtain ⟨i, j, e1, e2, ⟨h1, h2⟩, q⟩ := h
  exact op_fdivW pins s σ H x y v u Q I rx ry ⟨i, j, e1, e2, wide_div (b := 64) h1 (by omega) (by decide) (by decide), q⟩
theorem o_lt : OpR X (compareOp .Lt) nLt := op_lt
theorem o_le : OpR X (compareOp .LtE) nLe := op_le
theorem o_gt : OpR X (compareOp .Gt) nGt := op_gt
theorem o_ge : OpR X (compareOp .GtE) nGe := op_ge
theorem o_isN : OpR X (compareOp .Is) nIsN := op_isN
theorem o_notN : OpR X (compareOp .IsNot) nNotN := op_notN
end
/-- an if whose ways meet again: what is known there is said by a word of one's own -/
def tSeqC (t u : TS) : TS := tSeq t u
theorem pss_consC {X : Cx} {st : Stmt} {sts : List Stmt} {t u : TS} (h1 : PS X st t) (h2 : PSs X sts u) : PSs X (st :: sts) (tSeqC t u) := pss_cons h1 h2
theorem g_seqC {t u : TS} {D : Ends} {σ : L2.St} {H : Hp} (h : t { D with nx := u D } σ H) : tSeqC t u D σ H := h
theorem g_cut {t u : TS} {D : Ends} {σ : L2.St} {H : Hp} (I : L2.St → Hp → Prop) (h1 : ∀ N : L2.St → Hp → Prop, (∀ σ' H', I σ' H' → N σ' H') → t { D with nx := N } σ H) (h2 : ∀ σ' H', I σ' H' → u D σ' H') : tSeqC t u D σ H := h1 _ h2
/-! fields, one step each -/
def dFld (K : PySem.W.Frag) (f : Str) : V → Hp → VK → Prop := fun x H1 Q => ∃ a C dx fs v, x = .ref a ∧ H1 a = some (.ins C dx fs) ∧ Cls K C ∧ NoAttr K C f ∧ fs.lookup f = some v ∧ Q v H1
def dBl (x : V) (H : Hp) (R : Bool → Hp → Prop) : Prop := ∃ k, x = .bl k ∧ R k H
def dNewL (xs : List V) (H1 : Hp) (Q : VK) : Prop := xs.length ≤ sizeLine ∧ ∀ p, H1 p = none → Q (.ref p) (upd H1 p (.lst xs))
def dNewT (xs : List V) (H1 : Hp) (Q : VK) : Prop := xs.length ≤ sizeLine ∧ ∀ p, H1 p = none → Q (.ref p) (upd H1 p (.tup xs))
def dRng (vs : List V) (H1 : Hp) (R : It → Hp → Prop) : Prop := ∃ j : Int, vs = [.int j] ∧ -(2 ^ 62) ≤ j ∧ j < 2 ^ 62 ∧ R (Itr 0 j.toNat) H1
def dGet : V → V → Hp → VK → Prop := fun x y H2 Q => ∃ a v, x = .ref a ∧ DGet H2 a y (some v) ∧ Q v H2
def dIn : V → V → Hp → VK → Prop := fun y x H2 Q => ∃ a o, x = .ref a ∧ DGet H2 a y o ∧ Q (.bl o.isSome) H2
def dNotIn : V → V → Hp → VK → Prop := fun y x H2 Q => ∃ a o, x = .ref a ∧ DGet H2 a y o ∧ Q (.bl (!o.isSome)) H2
section
variable {K : PySem.W.Frag} {σ : L2.St} {H : Hp} {Q : VK} {D : Ends} {v x y : V} {i j : Int} {n : Nat} {ta tb te tc : TE} {t u : TS} {c c2 : TT} {tA tr : TA} {b : Bool}
theorem g_seq (h : t { D with nx := u D } σ H) : tSeq t u D σ H := h
theorem g_pr1 {a b c : L2.St → Hp → Prop} {r : VK} (h : a σ H) : Ends.nx { nx := a, rt := r, bk := b, ct := c } σ H := h
theorem g_pr2 {a b c : L2.St → Hp → Prop} {r : VK} (h : r v H) : Ends.rt { nx := a, rt := r, bk := b, ct := c } v H := h
theorem g_next (h : D.nx σ H) : tNext D σ H := h
theorem g_set (h : te σ H fun x H1 => D.nx (σ.set n (some x)) H1) : tAsg te (gName n) D σ H := h
theorem g_ret (h : te σ H D.rt) : tRet te D σ H := h
theorem g_retN (h : D.rt .non H) : tRetN D σ H := h
theorem g_drop (h : te σ H fun _ H1 => D.nx σ H1) : tDrop te D σ H := h
theorem g_if (h : c σ H fun b H1 => if b = true then t D σ H1 else u D σ H1) : tIfS c t u D σ H := h
theorem g_var (e : σ[n]? = some (some v)) (h : Q v H) : tVar n σ H Q := ⟨v, e, h⟩
theorem g_c (h : Q v H) : tC v σ H Q := h
theorem g_op {r : R2} (h : ta σ H fun x H1 => tb σ H1 fun y H2 => r x y H2 Q) : tOp r ta tb σ H Q := h
theorem g_un {r : V → Hp → VK → Prop} (h : ta σ H fun x H1 => r x H1 Q) : tUn r ta σ H Q := h
theorem g_neg (h : Q (.int (-i)) H) : rU (fun i => .int (-i)) (.int i) H Q := ⟨i, rfl, h⟩
theorem g_test {R : Bool → Hp → Prop} (h : te σ H fun x H' => dBl x H' R) : tTest te σ H R := h
theorem g_tB {R : Bool → Hp → Prop} (h : te σ H fun x H' => dBl x H' R) : tB te σ H R := h
theorem g_bl {R : Bool → Hp → Prop} (h : R b H) : dBl (.bl b) H R := ⟨b, rfl, h⟩
theorem g_not {R : Bool → Hp → Prop} (h : c σ H fun k H1 => R (!k) H1) : tNot c σ H R := h
theorem g_and {R : Bool → Hp → Prop} (h : c σ H fun k H1 => if k = true then c2 σ H1 R else R false H1) : tAnd c c2 σ H R := h
theorem g_or {R : Bool → Hp → Prop} (h : c σ H fun k H1 => if k = true then R true H1 else c2 σ H1 R) : tOr c c2 σ H R := h
theorem g_andV (h : ta σ H fun x H1 => dBl x H1 fun k H1 => if k = true then tb σ H1 Q else Q (.bl false) H1) : tAndV ta tb σ H Q := h
theorem g_orV (h : ta σ H fun x H1 => dBl x H1 fun k H1 => if k = true then Q (.bl true) H1 else tb σ H1 Q) : tOrV ta tb σ H Q := h
theorem g_notV (h : ta σ H fun x H1 => dBl x H1 fun k H1 => Q (.bl (!k)) H1) : tNotV ta σ H Q := h
theorem g_ifE (h : c σ H fun k H1 => if k = true then ta σ H1 Q else tb σ H1 Q) : tIf c ta tb σ H Q := h
theorem g_add (h : Q (.int (i + j)) H) : nAdd (.int i) (.int j) H Q := ⟨i, j, rfl, rfl, h⟩
theorem g_sub (h : Q (.int (i - j)) H) : nSub (.int i) (.int j) H Q := ⟨i, j, rfl, rfl, h⟩
theorem g_mul (k : CMul i j) (h : Q (.int (i * j)) H) : nMul (.int i) (.int j) H Q := ⟨i, j, rfl, rfl, k, h⟩
theorem g_mod (k : 0 < j) (h : Q (.int (i % j)) H) : nMod (.int i) (.int j) H Q := ⟨i, j, rfl, rfl, k, h⟩
theorem g_div (k : 0 < j ∧ j < 2 ^ 64) (h : Q (.int (i / j)) H) : nDiv (.int i) (.int j) H Q := ⟨i, j, rfl, rfl, k, h⟩
theorem g_pow (k : CPow i j) (h : Q (.int (i ^ j.toNat)) H) : nPow (.int i) (.int j) H Q := ⟨i, j, rfl, rfl, k, h⟩
theorem g_lt (h : Q (.bl (decide (i < j))) H) : nLt (.int i) (.int j) H Q := ⟨i, j, rfl, rfl, h⟩
theorem g_le (h : Q (.bl (decide (i ≤ j))) H) : nLe (.int i) (.int j) H Q := ⟨i, j, rfl, rfl, h⟩
theorem g_gt (h : Q (.bl (decide (j < i))) H) : nGt (.int i) (.int j) H Q := ⟨i, j, rfl, rfl, h⟩
theorem g_ge (h : Q (.bl (decide (j ≤ i))) H) : nGe (.int i) (.int j) H Q := ⟨i, j, rfl, rfl, h⟩
theorem g_eqI (h : Q (.bl (decide (i = j))) H) : rEq (.int i) (.int j) H Q := ⟨rfl, by
  rw [show decide (V.int i = V.int j) = decide (i = j) by simp]
  exact h⟩
theorem g_neI (h : Q (.bl (!decide (i = j))) H) : rNe (.int i) (.int j) H Q := ⟨rfl, by
  rw [show decide (V.int i = V.int j) = decide (i = j) by simp]
  exact h⟩
theorem g_neB {a b : Bool} (h : Q (.bl (!decide (a = b))) H) : rNe (.bl a) (.bl b) H Q := ⟨rfl, by
  rw [show decide (V.bl a = V.bl b) = decide (a = b) by simp]
  exact h⟩
theorem g_isN (h : Q (.bl (decide (x = .non))) H) : nIsN x .non H Q := ⟨rfl, h⟩
theorem g_notN (h : Q (.bl (!decide (x = .non))) H) : nNotN x .non H Q := ⟨rfl, h⟩
theorem g_fld0 {f : Str} (h : ta σ H fun x H1 => dFld K f x H1 Q) : tFld K ta f σ H Q := h
theorem g_fld {f : Str} {a C dx : Addr} {fs : List (Str × V)} (ho : H a = some (.ins C dx fs)) (hc : Cls K C) (hn : NoAttr K C f) (hl : fs.lookup f = some v) (h : Q v H) : dFld K f (.ref a) H Q := ⟨a, C, dx, fs, v, rfl, ho, hc, hn, hl, h⟩
theorem g_get0 (h : ta σ H fun x H1 => tb σ H1 fun y H2 => dGet x y H2 Q) : tDGet ta tb σ H Q := h
theorem g_get {a : Addr} {kvs : List (Key × V)} (ho : H a = some (.dK kvs)) (e : valV kvs (Sum.inl i) = some v) (h : Q v H) : dGet (.ref a) (.int i) H Q :=
  ⟨a, v, rfl, e ▸ DGet.k (k := Sum.inl i) ho, h⟩
theorem g_in0 (h : ta σ H fun y H1 => tb σ H1 fun x H2 => dIn y x H2 Q) : tDIn ta tb σ H Q := h
theorem g_in {a : Addr} {kvs : List (Key × V)} (ho : H a = some (.dK kvs)) (h : Q (.bl (valV kvs (Sum.inl i)).isSome) H) : dIn (.int i) (.ref a) H Q :=
  ⟨a, _, rfl, DGet.k (k := Sum.inl i) ho, h⟩
theorem g_nin0 (h : ta σ H fun y H1 => tb σ H1 fun x H2 => dNotIn y x H2 Q) : tDNotIn ta tb σ H Q := h
theorem g_nin {a : Addr} {kvs : List (Key × V)} (ho : H a = some (.dK kvs)) (h : Q (.bl (!(valV kvs (Sum.inl i)).isSome)) H) : dNotIn (.int i) (.ref a) H Q :=
  ⟨a, _, rfl, DGet.k (k := Sum.inl i) ho, h⟩
theorem g_nil {R : List V → Hp → Prop} (h : R [] H) : tNil σ H R := h
theorem g_cons {R : List V → Hp → Prop} (h : ta σ H fun x H1 => tr σ H1 fun xs H2 => R (x :: xs) H2) : tCons ta tr σ H R := h
theorem g_call {sp : Sp} {E : XK} (h : tA σ H fun vs H1 => sp vs H1 Q E) : tCall sp [] E tA σ H Q := by
  unfold tCall
  simpa using h
def dMeth (C : Addr) (m : Str) (sp : Sp) (E : XK) (σ : L2.St) (t : TA) : V → Hp → VK → Prop := fun x H1 Q => ∃ a dx fs, x = .ref a ∧ H1 a = some (.ins C dx fs) ∧ fs.lookup m = none ∧ t σ H1 fun vs H2 => sp (x :: vs) H2 Q E
theorem g_meth0 {C : Addr} {m : Str} {sp : Sp} {E : XK} (h : ta σ H fun x H1 => dMeth C m sp E σ tA x H1 Q) : tMeth C m sp [] E ta tA σ H Q := by
  unfold tMeth
  unfold dMeth at h
  simpa using h
theorem g_meth {C a dx : Addr} {fs : List (Str × V)} {m : Str} {sp : Sp} {E : XK} (ho : H a = some (.ins C dx fs)) (hl : fs.lookup m = none) (h : tA σ H fun vs H2 => sp (.ref a :: vs) H2 Q E) : dMeth C m sp E σ tA (.ref a) H Q :=
  ⟨a, dx, fs, rfl, ho, hl, h⟩
theorem g_callB {r : List V → Hp → VK → Prop} (h : tA σ H fun vs H1 => r vs H1 Q) : tCB r tA σ H Q := h
theorem g_tup0 (h : tA σ H fun xs H1 => dNewT xs H1 Q) : tTup tA σ H Q := h
theorem g_lst0 (h : tA σ H fun xs H1 => dNewL xs H1 Q) : tLst tA σ H Q := h
theorem g_for {wi : TI} {g : TG} (h : wi σ H fun J H1 => ∃ W : Nat → Nat → L2.St → Hp → Prop, (∃ m, W 0 m σ H1) ∧ ∀ i m σ H, W i m σ H →
  (J.stop i H ∧ D.nx σ H) ∨ (J.go i H ∧ ∃ N : L2.St → Hp → Prop, (∀ σ' H', N σ' H' → ∃ m', m' < m ∧ W (i + 1) m' σ' H') ∧ ∀ x H', J.yld i H x H' → g x σ H' fun σ2 H2 => t { D with nx := N, ct := N, bk := D.nx } σ2 H2)) : tFor wi g t D σ H := h
theorem g_rng1 {R : It → Hp → Prop} (h : tA σ H fun vs H1 => dRng vs H1 R) : iRng1 tA σ H R := h
theorem g_rng {R : It → Hp → Prop} (h1 : -(2 ^ 62) ≤ i) (h2 : i < 2 ^ 62) (h : R (Itr 0 i.toNat) H) : dRng [.int i] H R := ⟨i, rfl, h1, h2, h⟩
theorem g_name (f : L2.St → Hp → Prop) (h : f (σ.set n (some v)) H) : gName n v σ H f := h
theorem g_ite {A B : Prop} (h1 : b = true → A) (h2 : b = false → B) : if b = true then A else B := by
  cases b with
  | true => exact iteT (h1 rfl)
  | false => exact iteF (h2 rfl)
theorem g_tt {A B : Prop} (h : A) : if true = true then A else B := iteT h
theorem g_ff {A B : Prop} (h : B) : if false = true then A else B := iteF h
theorem g_iteT {A B : Prop} (e : b = true) (h : A) : if b = true then A else B := by rw [if_pos e]; exact h
theorem g_iteF {A B : Prop} (e : b = false) (h : B) : if b = true then A else B := by rw [if_neg (by rw [e]; exact Bool.false_ne_true)]; exact h
theorem g_body {W : Nat → L2.St → Hp → Prop} {m : Nat} (h : t { D with nx := fun σ' H' => ∃ m', m' < m ∧ W m' σ' H', ct := fun σ' H' => ∃ m', m' < m ∧ W m' σ' H', bk := D.nx } σ H) :
    ∃ N : L2.St → Hp → Prop, (∀ σ' H', N σ' H' → ∃ m', m' < m ∧ W m' σ' H') ∧ t { D with nx := N, ct := N, bk := D.nx } σ H := ⟨_, fun _ _ z => z, h⟩
theorem g_while (W : Nat → L2.St → Hp → Prop) (m : Nat) (h0 : W m σ H) (hs : ∀ m σ H, W m σ H → c σ H fun b H1 => if b = true then ∃ N : L2.St → Hp → Prop, (∀ σ' H', N σ' H' → ∃ m', m' < m ∧ W m' σ' H') ∧ t { D with nx := N, ct := N, bk := D.nx } σ H1 else D.nx σ H1) : tWhile c t D σ H := ⟨W, ⟨m, h0⟩, hs⟩
theorem g_ixL {p : Addr} {xs : List V} (hs : SqL K H p xs) (e : atI xs i = some v) (h : Q v H) : rIxL K (.ref p) (.int i) H Q := ⟨p, xs, i, v, rfl, rfl, hs, e, h⟩
theorem g_ixT {p : Addr} {xs : List V} (hs : SqT K H p xs) (e : atI xs i = some v) (h : Q v H) : rIxT K (.ref p) (.int i) H Q := ⟨p, xs, i, v, rfl, rfl, hs, e, h⟩
def nLen (K : PySem.W.Frag) : List V → Hp → VK → Prop := fun xs H Q => ∃ p ys, xs = [.ref p] ∧ (SqL K H p ys ∨ SqT K H p ys) ∧ Q (.int ys.length) H
theorem c_len {X : Cx} : CallR X (.builtin "len") (nLen X.K) := call_len_seq
theorem g_lenL {p : Addr} {xs : List V} (hs : SqL K H p xs) (h : Q (.int xs.length) H) : nLen K [.ref p] H Q := ⟨p, xs, rfl, .inl hs, h⟩
theorem g_lenT {p : Addr} {xs : List V} (hs : SqT K H p xs) (h : Q (.int xs.length) H) : nLen K [.ref p] H Q := ⟨p, xs, rfl, .inr hs, h⟩
def nLenD : List V → Hp → VK → Prop := fun xs H Q => ∃ a kvs, xs = [V.ref a] ∧ H a = some (.dK kvs) ∧ Q (.int kvs.length) H
theorem c_lenD {X : Cx} : CallR X (.builtin "len") nLenD := call_lenD
theorem g_lenD {p : Addr} {kvs : List (Key × V)} (hs : H p = some (.dK kvs)) (h : Q (.int kvs.length) H) : nLenD [.ref p] H Q := ⟨p, kvs, rfl, hs, h⟩
def nMax2 : List V → Hp → VK → Prop := fun xs H Q => ∃ i j, xs = [.int i, .int j] ∧ Q (.int (if j > i then j else i)) H
def nMin2 : List V → Hp → VK → Prop := fun xs H Q => ∃ i j, xs = [.int i, .int j] ∧ Q (.int (if j < i then j else i)) H
theorem c_max2 {X : Cx} (hc : X.calm = true) : CallR X (.builtin "max") nMax2 := call_max2 hc
theorem c_min2 {X : Cx} (hc : X.calm = true) : CallR X (.builtin "min") nMin2 := call_min2 hc
theorem g_max2 (h : Q (.int (max i j)) H) : nMax2 [.int i, .int j] H Q := ⟨i, j, rfl, by
  rw [show (if j > i then j else i) = max i j by rw [Int.max_def]; split <;> split <;> omega]
  exact h⟩
theorem g_min2 (h : Q (.int (min i j)) H) : nMin2 [.int i, .int j] H Q := ⟨i, j, rfl, by
  rw [show (if j < i then j else i) = min i j by rw [Int.min_def]; split <;> split <;> omega]
  exact h⟩
end
theorem g_isi {K : PySem.W.Frag} {H : Hp} {Q : VK} {x c : V} {t u : Value} {b : Bool} (ty : TyX K H x t) (cl : ClsV c u) (e : PySem.W.kitOne K t u = some b) (h : Q (.bl b) H) : rIsi K [x, c] H Q := ⟨x, c, t, u, b, rfl, cl, ty, e, h⟩
def dList (K : PySem.W.Frag) (x : V) (H1 : Hp) (R : It → Hp → Prop) : Prop := ∃ a, x = .ref a ∧ (∃ xs, SqL K H1 a xs) ∧ R (Itl K a) H1
theorem g_iL {K : PySem.W.Frag} {tl : TE} {σ : L2.St} {H : Hp} {R : It → Hp → Prop} (h : tl σ H fun x H1 => dList K x H1 R) : iList K tl σ H R := h
theorem g_lit {K : PySem.W.Frag} {H : Hp} {R : It → Hp → Prop} {a : Addr} {xs : List V} (hs : SqL K H a xs) (h : R (Itl K a) H) : dList K (.ref a) H R := ⟨a, rfl, ⟨_, hs⟩, h⟩
theorem map_get {α β : Type} {f : α → β} {l : List α} {i : Nat} {y : β} (h : (l.map f)[i]? = some y) : ∃ z, l[i]? = some z ∧ y = f z := by
  rw [List.getElem?_map, Option.map_eq_some_iff] at h
  obtain ⟨z, h1, h2⟩ := h
  exact ⟨z, h1, h2.symm⟩
theorem get_map {α β : Type} {f : α → β} {l : List α} {i : Nat} {z : α} (h : l[i]? = some z) : (l.map f)[i]? = some (f z) := by
  rw [List.getElem?_map, h] <;> rfl
def dAll (K : PySem.W.Frag) : List V → Hp → VK → Prop := fun vs H Q => ∃ (a : Addr) (bs : List Bool), vs = [V.ref a] ∧ SqL K H a (bs.map V.bl) ∧ Q (.bl (bs.all id)) H
theorem c_all {X : Cx} (hc : X.calm = true) : CallR X (.builtin "all") (dAll X.K) := cr_all hc
theorem g_all {K : PySem.W.Frag} {H : Hp} {Q : VK} {a : Addr} {bs : List Bool} (hs : SqL K H a (bs.map V.bl)) (e : bs.all id = true) (h : Q (.bl true) H) : dAll K [.ref a] H Q := ⟨a, bs, rfl, hs, by rw [e]; exact h⟩
def nListOf (K : PySem.W.Frag) : List V → Hp → VK → Prop := fun xs H Q => ∃ p ys, xs = [.ref p] ∧ (SqL K H p ys ∨ SqT K H p ys) ∧ ∀ l, H l = none → Q (.ref l) (upd H l (.lst ys))
theorem c_listOf {X : Cx} : CallR X (.type "list") (nListOf X.K) := call_list_of
/-- 1, w, w * w, .. -/
def sz (w : Int) (n : Nat) : List Int := (List.range (n + 1)).map fun j => w ^ j
theorem sz_zero (w : Int) : sz w 0 = [1] := by
  show [w ^ 0] = [1]
  rw [Int.pow_zero]
theorem sz_succ (w : Int) (n : Nat) : sz w (n + 1) = sz w n ++ [w ^ (n + 1)] := by
  unfold sz
  rw [List.range_succ, List.map_append]
  rfl
theorem sz_len (w : Int) (n : Nat) : (sz w n).length = n + 1 := by unfold sz; rw [List.length_map, List.length_range]
theorem sz_get {w : Int} {n j : Nat} (h : j ≤ n) : (sz w n)[j]? = some (w ^ j) := by
  unfold sz
  rw [List.getElem?_map, List.getElem?_range (by omega)]
  rfl
theorem sz_last {w : Int} {n : Nat} : atI ((sz w n).map V.int) (-1) = some (.int (w ^ n)) := by
  cases n with
  | zero => exact atI_last [] _
  | succ n =>
    rw [sz_succ, List.map_append]
    exact atI_last _ _
theorem sz_at {w : Int} {n j : Nat} (h : j ≤ n) : atI ((sz w n).map V.int) (j : Int) = some (.int (w ^ j)) := atI_nat (get_map (sz_get h))
def dLrg (x : V) (H1 : Hp) (Q : VK) : Prop := ∃ n, x = .int n ∧ RgOk 0 n ∧ ∀ q, H1 q = none → Q (.ref q) (upd H1 q (.lst (rgV 0 n)))
theorem g_lrg0 {ta : TE} {σ : L2.St} {H : Hp} {Q : VK} (h : ta σ H fun x H1 => dLrg x H1 Q) : tLstRg (tRg1 ta) σ H Q := h
theorem g_lrg {H : Hp} {Q : VK} {n : Nat} (hn : n ≤ 1000) (h : ∀ q, H q = none → Q (.ref q) (upd H q (.lst (((List.range n).map fun i => ((i : Nat) : Int)).map V.int)))) : dLrg (.int (n : Int)) H Q :=
  ⟨n, rfl, .of_le (by omega) (by omega) (by omega) (by omega), fun q hq => by
    have e : rgV 0 (n : Int) = ((List.range n).map fun i => ((i : Nat) : Int)).map V.int := by
      unfold rgV
      rw [List.map_map, show ((n : Int) - 0).toNat = n by omega]
      exact List.map_congr_left fun i _ => by show V.int (0 + (i : Int)) = _; rw [Int.zero_add]; rfl
    rw [e]
    exact h q hq⟩
/-! targets -/
section
variable {K : PySem.W.Frag} {σ : L2.St} {H : Hp} {v o i x : V}
theorem g_gtup {n : Nat} {t : TGs} {a : Addr} {xs : List V} {f : L2.St → Hp → Prop} (hs : SqT K H a xs) (hl : xs.length = n) (h : t xs σ H f) : gTup K n t (.ref a) σ H f := ⟨a, xs, rfl, hs, hl, h⟩
theorem g_gcons {t : TG} {u : TGs} {r : List V} {f : L2.St → Hp → Prop} (h : t x σ H fun σ' H' => u r σ' H' f) : gCons t u (x :: r) σ H f := ⟨x, r, rfl, h⟩
theorem g_gnil {f : L2.St → Hp → Prop} (h : f σ H) : gNil [] σ H f := ⟨rfl, h⟩
theorem g_asgT {te : TE} {D : Ends} {n : Nat} {t : TGs} (h : te σ H fun x H1 => gTup K n t x σ H1 D.nx) : tAsg te (gTup K n t) D σ H := h
theorem g_asgS {te to ti : TE} {D : Ends} {t : TSet} (h : te σ H fun x H1 => to σ H1 fun o H2 => ti σ H2 fun i H3 => t o i x H3 fun H4 => D.nx σ H4) : tAsg te (gSub to ti t) D σ H := h
theorem ixN_nat {n j : Nat} (h : j < n) : ixN n (j : Int) = some j := by
  unfold ixN
  rw [if_pos (by omega), if_pos (by omega)]
  rfl
theorem g_setL {p : Addr} {xs : List V} {j : Nat} {f : Hp → Prop} (h : H p = some (.lst xs)) (hj : j < xs.length) (q : f (upd H p (.lst (xs.set j v)))) : rSetL (.ref p) (.int (j : Int)) v H f := ⟨p, xs, j, j, rfl, rfl, h, ixN_nat hj, q⟩
end
theorem set_map {n j : Nat} {f : Nat → V} {v : V} (hj : j < n) : ((List.range n).map f).set j v = (List.range n).map fun i => if i = j then v else f i := by
  refine List.ext_getElem? fun i => ?_
  by_cases hi : i < n
  · by_cases e : i = j
    · subst e
      rw [List.getElem?_set_self (by simp; exact hi), List.getElem?_map, List.getElem?_range hi]
      simp
    · rw [List.getElem?_set_ne (Ne.symm e), List.getElem?_map, List.getElem?_map, List.getElem?_range hi]
      simp [e]
  · rw [List.getElem?_eq_none (by simp; omega), List.getElem?_eq_none (by simp; omega)]
/-! the rules, the written part told (within a comprehension it must be) -/
section
variable {X : Cx} {K : PySem.W.Frag} (e : X.K = K)
include e
theorem k_ixL : IxR X (rIxL K) := e ▸ ix_list
theorem k_ixT : IxR X (rIxT K) := e ▸ ix_tup
theorem k_len : CallR X (.builtin "len") (nLen K) := e ▸ c_len
theorem k_listOf : CallR X (.type "list") (nListOf K) := e ▸ c_listOf
theorem k_in : OpR X (compareOp .In) (rIn K false) := e ▸ op_in_seq
theorem k_nin : OpR X (compareOp .NotIn) (rIn K true) := e ▸ op_notIn_seq
theorem k_eqD (hu : X.A.units + 64 < cLine) : OpR X (compareOp .Eq) (rEqD K) := e ▸ op_eqD hu
theorem k_neD (hu : X.A.units + 64 < cLine) : OpR X (compareOp .NotEq) (rNeD K) := e ▸ op_neD hu
theorem k_isi : CallR X (.builtin "isinstance") (rIsi K) := e ▸ call_isi
theorem k_slL : SlR X (rSlL K) := e ▸ sl_list
theorem k_fld {o : Expr} {f : Str} {pos : Pos} {ta : TE} (he : PE X o ta) (hb : attributeBase o f X.env (eval o X.env) = eval o X.env) : PE X (.Attribute o f pos) (tFld K ta f) := e ▸ pe_fld he hb
theorem k_iL {tg l : Expr} {tl : TE} (hl : PE X l tl) : PI X tg l (iList K tl) := e ▸ pi_list hl
end
theorem pow_pos' {w : Int} (h : 0 < w) (n : Nat) : 0 < w ^ n := Int.pow_pos h
theorem atI_c0 {xs : List V} {v : V} (h : xs[0]? = some v) : atI xs 0 = some v := atI_nat (j := 0) h
theorem atI_c1 {xs : List V} {v : V} (h : xs[1]? = some v) : atI xs 1 = some v := atI_nat (j := 1) h
theorem atI_c2 {xs : List V} {v : V} (h : xs[2]? = some v) : atI xs 2 = some v := atI_nat (j := 2) h
/-- the cell at k of the script, or nought -/
def cellAt (ns : List Int) (k : Int) : Int := if k < 0 then 0 else ns.getD k.toNat 0
end Lk

/-! ### data: what == tells of lists and tuples -/
namespace Lk
open PySem PySem.Spec PyProof.Rows L2
structure Sh (k : Nat) (d : PyData) : Prop where
  lay : d.canLay0 = true
  dep : d.depth ≤ k
theorem sh_int {k : Nat} (i : Int) : Sh k (.int i) := ⟨by simp only [PyData.canLay0], by simp only [PyData.depth]; omega⟩
theorem sh_non {k : Nat} : Sh k .none := ⟨by simp only [PyData.canLay0], by simp only [PyData.depth]; omega⟩
theorem sh_bl {k : Nat} (b : Bool) : Sh k (.bool b) := ⟨by simp only [PyData.canLay0], by simp only [PyData.depth]; omega⟩
theorem lay_all : ∀ {ds : List PyData}, (∀ d ∈ ds, d.canLay0 = true) → PyData.canLayAll0 ds = true
  | [], _ => by simp only [PyData.canLayAll0]
  | d :: r, h => by
    have h1 := h d List.mem_cons_self
    have h2 := lay_all fun x hx => h x (List.mem_cons_of_mem _ hx)
    simp only [PyData.canLayAll0, h1, h2, Bool.and_self]
theorem dep_all {k : Nat} : ∀ {ds : List PyData}, (∀ d ∈ ds, d.depth ≤ k) → PyData.depthAll ds ≤ k
  | [], _ => by simp only [PyData.depthAll]; omega
  | d :: r, h => by
    have h1 := h d List.mem_cons_self
    have h2 := dep_all (ds := r) fun x hx => h x (List.mem_cons_of_mem _ hx)
    simp only [PyData.depthAll]
    omega
theorem sh_lst {k : Nat} {ds : List PyData} (h : ∀ d ∈ ds, Sh k d) : Sh (k + 1) (.list ds) := ⟨by simp only [PyData.canLay0]; exact lay_all fun d hd => (h d hd).lay, by
  have := dep_all fun d hd => (h d hd).dep
  simp only [PyData.depth]
  omega⟩
theorem sh_tup {k : Nat} {ds : List PyData} (h : ∀ d ∈ ds, Sh k d) : Sh (k + 1) (.tuple ds) := ⟨by simp only [PyData.canLay0]; exact lay_all fun d hd => (h d hd).lay, by
  have := dep_all fun d hd => (h d hd).dep
  simp only [PyData.depth]
  omega⟩
theorem sh_ints {k : Nat} (ns : List Int) : Sh (k + 1) (.list (ns.map .int)) := sh_lst fun d hd => by
  obtain ⟨i, _, rfl⟩ := List.mem_map.mp hd
  exact sh_int i
theorem Sh.ok {k : Nat} {d : PyData} (s : Sh k d) (h : k ≤ 64) : SeqAt.shaped d = true := by
  show (d.canLay0 && decide (d.depth ≤ 64)) = true
  rw [s.lay, decide_eq_true (Nat.le_trans s.dep h)]
  rfl
/-- all but what stands at d is as it was -/
abbrev But' (d : Addr) (H H' : Hp) : Prop := ∀ b, b ≠ d → H' b = H b
section
variable {K : PySem.W.Frag} {H H' : Hp} {Q : VK} {x y : V} {d : PyData} {k : Nat}
theorem g_eqD (hx : Dp K H x d) (hy : Dp K H y d) (s : Sh k d) (h : Q (.bl true) H) (hk : k ≤ 64 := by decide) : rEqD K x y H Q := ⟨d, d, hx, hy, s.ok hk, s.ok hk, by rw [SeqAt.eqv_refl d s.lay]; exact h⟩
theorem g_neD (hx : Dp K H x d) (hy : Dp K H y d) (s : Sh k d) (h : Q (.bl false) H) (hk : k ≤ 64 := by decide) : rNeD K x y H Q := ⟨d, d, hx, hy, s.ok hk, s.ok hk, by rw [SeqAt.eqv_refl d s.lay]; exact h⟩
theorem eqv_nil (ds : List PyData) : PyData.eqv (.list ds) (.list []) = ds.isEmpty := by
  cases ds <;> simp [PyData.eqv, PyData.eqvAll]
theorem g_eqNil {ds : List PyData} (hx : Dp K H x (.list ds)) (hy : Dp K H y (.list [])) (s : Sh k (.list ds)) (h : Q (.bl ds.isEmpty) H) (hk : k ≤ 64 := by decide) : rEqD K x y H Q :=
  ⟨_, _, hx, hy, s.ok hk, (sh_ints (k := 0) []).ok (by decide), by rw [eqv_nil]; exact h⟩
theorem g_neNil {ds : List PyData} (hx : Dp K H x (.list ds)) (hy : Dp K H y (.list [])) (s : Sh k (.list ds)) (h : Q (.bl (!ds.isEmpty)) H) (hk : k ≤ 64 := by decide) : rNeD K x y H Q :=
  ⟨_, _, hx, hy, s.ok hk, (sh_ints (k := 0) []).ok (by decide), by rw [eqv_nil]; exact h⟩
theorem dpl_ints : ∀ ns : List Int, DpAll K H (ns.map V.int) (ns.map PyData.int)
  | [] => .nil
  | n :: r => .cons (.int n) (dpl_ints r)
theorem dp_ints {a : Addr} {ns : List Int} (h : SqL K H a (ns.map V.int)) : Dp K H (.ref a) (.list (ns.map .int)) := .lst h (dpl_ints ns)
theorem dp_nil {a : Addr} (h : SqL K H a []) : Dp K H (.ref a) (.list []) := .lst h .nil
theorem Same.rd {u : HO} {a : Addr} (s : Same H H') (h : Rd H a u) : Rd H' a u := by
  rcases h with h | ⟨o, h⟩
  · exact .inl (s _ _ h)
  · exact .inr ⟨o, s _ _ h⟩
theorem Same.tup {a : Addr} {xs : List V} (s : Same H H') (h : SqT K H a xs) : SqT K H' a xs := by
  rcases h with h | h
  · exact .inl (Same.rd s h)
  · exact .inr h
mutual
theorem Dp.mono (s : Same H H') : ∀ (d : PyData) (v : V), Dp K H v d → Dp K H' v d
  | .none, _, h => by cases h; exact .non
  | .bool b, _, h => by cases h; exact .bl b
  | .int i, _, h => by cases h; exact .int i
  | .str z, _, h => by cases h; exact .str z
  | .list ds, _, h => by
    cases h with
    | lst hs ha => exact .lst (Same.seq s hs) (DpAll.mono s ds _ ha)
  | .tuple ds, _, h => by
    cases h with
    | tup hs ha => exact .tup (Same.tup s hs) (DpAll.mono s ds _ ha)
  | .dict _, _, h => by cases h
theorem DpAll.mono (s : Same H H') : ∀ (ds : List PyData) (vs : List V), DpAll K H vs ds → DpAll K H' vs ds
  | [], _, h => by cases h; exact .nil
  | d :: ds, _, h => by
    cases h with
    | cons h1 h2 => exact .cons (Dp.mono s d _ h1) (DpAll.mono s ds _ h2)
end
theorem same_new {p : Addr} {o : HO} (h : H p = none) : Same H (upd H p o) := fun b u e => by
  rw [upd_ne (ne_of_none e h)]
  exact e
theorem same_mut {p : Addr} {o : HO} (s : Same H H') (h : H p = none) : Same H (upd H' p o) := fun b u e => by
  rw [upd_ne (ne_of_none e h)]
  exact s b u e
/-- a new list, a new tuple -/
theorem g_newL {xs : List V} (h1 : xs.length ≤ 1000) (h2 : ∀ p H', H p = none → Same H H' → H' p = some (.lst xs) → Q (.ref p) H') : dNewL xs H Q :=
  ⟨Nat.le_of_lt (small1000 h1), fun p hp => h2 p _ hp (same_new hp) upd_same⟩
theorem g_newT {xs : List V} (h1 : xs.length ≤ 1000) (h2 : ∀ p H', H p = none → Same H H' → H' p = some (.tup xs) → Q (.ref p) H') : dNewT xs H Q :=
  ⟨Nat.le_of_lt (small1000 h1), fun p hp => h2 p _ hp (same_new hp) upd_same⟩
theorem g_listOf {a : Addr} {xs : List V} (hs : SqL K H a xs) (h2 : ∀ p H', H p = none → Same H H' → H' p = some (.lst xs) → Q (.ref p) H') : nListOf K [.ref a] H Q := ⟨a, xs, rfl, .inl hs, fun p hp => h2 p _ hp (same_new hp) upd_same⟩
/-- xs.append(y) -/
theorem g_append {σ : L2.St} {to : TE} {tA : TA} (h : to σ H fun x H1 => tyV K "list" x H1 ∧ tA σ H1 fun xs H2 => rAppend x xs H2 Q) : tBM K "list" rAppend to tA σ H Q := h
theorem ty_lst {a : Addr} {xs : List V} (h : H a = some (.lst xs)) : tyV K "list" (.ref a) H := Or.inl ⟨rfl, _, Or.inl (Or.inl h)⟩
theorem g_app {a : Addr} {xs : List V} (h : H a = some (.lst xs)) (hl : xs.length ≤ 1000) (q : Q .non (upd H a (.lst (xs ++ [y])))) : rAppend (.ref a) [y] H Q := ⟨a, xs, y, rfl, rfl, h, small1000 hl, q⟩
/-! lists of tuples -/
def TupL (H : Hp) (q : Addr) (xs : List (List V)) : Prop := ∃ as : List Addr, H q = some (.lst (as.map V.ref)) ∧ Paired (fun a x => H a = some (.tup x)) as xs
theorem paired_same {as : List Addr} {xs : List (List V)} (s : Same H H') (h : Paired (fun a x => H a = some (.tup x)) as xs) : Paired (fun a x => H' a = some (.tup x)) as xs := Paired.mapP h fun _ _ e => s _ _ e
theorem paired_snoc {α β : Type} {F : α → β → Prop} : ∀ {as : List α} {xs : List β} {a : α} {x : β}, Paired F as xs → F a x → Paired F (as ++ [a]) (xs ++ [x])
  | _, _, _, _, .nil, h => .cons h .nil
  | _, _, _, _, .cons r t, h => .cons r (paired_snoc t h)
theorem paired_len {α β : Type} {F : α → β → Prop} : ∀ {as : List α} {xs : List β}, Paired F as xs → as.length = xs.length
  | _, _, .nil => rfl
  | _, _, .cons _ t => by rw [List.length_cons, List.length_cons, paired_len t]
theorem paired_get {α β : Type} {F : α → β → Prop} : ∀ {as : List α} {xs : List β} {i : Nat} {x : β}, Paired F as xs → xs[i]? = some x → ∃ a, as[i]? = some a ∧ F a x
  | _, _, _, _, .nil, e => by simp at e
  | _, _, 0, _, .cons r _, e => by simp at e; subst e; exact ⟨_, rfl, r⟩
  | _, _, i + 1, _, .cons _ t, e => by simpa using paired_get (i := i) t (by simpa using e)
theorem TupL.same {q : Addr} {xs : List (List V)} (s : Same H H') (h : TupL H q xs) : TupL H' q xs := by
  obtain ⟨as, h1, h2⟩ := h
  exact ⟨as, s _ _ h1, paired_same s h2⟩
theorem tupl_nil {q : Addr} (h : H q = some (.lst [])) : TupL H q [] := ⟨[], h, .nil⟩
/-- found.append((..)): the tuple new at t -/
theorem g_appT {q t : Addr} {xs : List (List V)} {x : List V} (h : TupL H q xs) (ht : H t = some (.tup x)) (hl : xs.length ≤ 1000) (k : ∀ H', But' q H H' → TupL H' q (xs ++ [x]) → Q .non H') : rAppend (.ref q) [.ref t] H Q := by
  obtain ⟨as, h1, h2⟩ := h
  refine g_app h1 (by rw [List.length_map, paired_len h2]; exact hl) (k _ (fun b hb => upd_ne hb) ⟨as ++ [t], by rw [upd_same, List.map_append]; rfl, ?_⟩)
  refine Paired.mapP (paired_snoc h2 ht) fun a y e => ?_
  rw [upd_ne (ne_of e h1 (by intro z; cases z))]
  exact e
theorem paired_last {α β : Type} {F : α → β → Prop} {as : List α} {xs : List β} {x : β} (h : Paired F as xs) (e : xs.getLast? = some x) : ∃ bs a, as = bs ++ [a] ∧ F a x := by
  have hl := paired_len h
  rw [List.getLast?_eq_getElem?] at e
  obtain ⟨a, h1, h2⟩ := paired_get h e
  rw [← hl, ← List.getLast?_eq_getElem?] at h1
  obtain ⟨bs, rfl⟩ := List.getLast?_eq_some_iff.mp h1
  exact ⟨bs, a, rfl, h2⟩
theorem TupL.last {q : Addr} {xs : List (List V)} {x : List V} (h : TupL H q xs) (e : xs.getLast? = some x) : ∃ vs t, H q = some (.lst vs) ∧ atI vs (-1) = some (.ref t) ∧ H t = some (.tup x) := by
  obtain ⟨as, h1, h2⟩ := h
  obtain ⟨bs, t, rfl, ht⟩ := paired_last h2 e
  refine ⟨_, t, h1, ?_, ht⟩
  rw [List.map_append]
  exact atI_last _ _
def vD : V → PyData
  | .int i => .int i
  | .bl b => .bool b
  | _ => .none
def plainV : V → Bool
  | .int _ => true
  | .bl _ => true
  | .non => true
  | _ => false
theorem dp_v {v : V} (h : plainV v = true) : Dp K H v (vD v) := by
  cases v <;> first | exact .int _ | exact .bl _ | exact .non | cases h
theorem dpl_v : ∀ {xs : List V}, (∀ v ∈ xs, plainV v = true) → DpAll K H xs (xs.map vD)
  | [], _ => .nil
  | v :: r, h => .cons (dp_v (h v List.mem_cons_self)) (dpl_v fun x hx => h x (List.mem_cons_of_mem _ hx))
theorem dp_tup {t : Addr} {xs : List V} (h : SqT K H t xs) (hp : ∀ v ∈ xs, plainV v = true) : Dp K H (.ref t) (.tuple (xs.map vD)) := .tup h (dpl_v hp)
theorem dp_tups : ∀ {as : List Addr} {xs : List (List V)}, Paired (fun a x => H a = some (.tup x)) as xs → (∀ x ∈ xs, ∀ v ∈ x, plainV v = true) → DpAll K H (as.map V.ref) (xs.map fun x => .tuple (x.map vD))
  | _, _, .nil, _ => .nil
  | _, _, .cons r t, h => .cons (dp_tup (SqT.of r) (h _ List.mem_cons_self)) (dp_tups t fun x hx => h x (List.mem_cons_of_mem _ hx))
theorem TupL.dp {q : Addr} {xs : List (List V)} (h : TupL H q xs) (hp : ∀ x ∈ xs, ∀ v ∈ x, plainV v = true) : Dp K H (.ref q) (.list (xs.map fun x => .tuple (x.map vD))) := by
  obtain ⟨as, h1, h2⟩ := h
  exact .lst (.of h1) (dp_tups h2 hp)
theorem sh_v {k : Nat} (v : V) : Sh k (vD v) := by
  cases v <;> first | exact sh_int _ | exact sh_bl _ | exact sh_non
theorem sV_plain : ∀ {xs : List (Nat × Int)}, ∀ x ∈ xs.map (fun s => [V.int (s.1 : Int), V.int s.2]), ∀ v ∈ x, plainV v = true := fun {xs} x hx v hv => by
  obtain ⟨s, _, rfl⟩ := List.mem_map.mp hx
  rcases List.mem_cons.mp hv with rfl | hv
  · rfl
  · rw [List.mem_singleton.mp hv]; rfl
theorem sh_tups {k : Nat} (xs : List (List V)) : Sh (k + 2) (.list (xs.map fun x => .tuple (x.map vD))) := sh_lst fun d hd => by
  obtain ⟨x, _, rfl⟩ := List.mem_map.mp hd
  exact sh_tup fun e he => by
    obtain ⟨v, _, rfl⟩ := List.mem_map.mp he
    exact sh_v v
/-! comprehensions -/
def dLc (g : TG) (tt : TT) (te : TE) (vs : List Nat) (σ : L2.St) (J : It) (H1 : Hp) (Q : VK) : Prop := ∀ D, H1 D = none → ∃ W : Nat → Nat → Hp → Prop, (∃ m, W 0 m (upd H1 D (.lst []))) ∧ ∀ i m H, W i m H →
  (J.stop i H ∧ Q (.ref D) H) ∨ (J.go i H ∧ ∃ Nx : Hp → Prop, (∀ H', Nx H' → ∃ m', m' < m ∧ W (i + 1) m' H') ∧ ∀ x H', J.yld i H x H' → g x (wipe σ vs) H' fun σ2 H2 => wipe σ2 vs = wipe σ vs ∧ tt σ2 H2 fun b H3 =>
    if b = true then te σ2 H3 fun y H4 => ∃ acc, H4 D = some (.lst acc) ∧ acc.length < sizeLine ∧ Nx (upd H4 D (.lst (acc ++ [y]))) else Nx H3)
theorem g_lc {wi : TI} {g : TG} {tt : TT} {te : TE} {vs : List Nat} {σ : L2.St} (h : wi σ H fun J H1 => dLc g tt te vs σ J H1 Q) : tLc wi g tt te vs σ H Q := h
def Nxt (H1 : Hp) (D : Addr) (os : Nat → List V) (i : Nat) (H' : Hp) : Prop := Same H1 H' ∧ H' D = some (.lst (os i))
def dAdd (D : Addr) (Nx : Hp → Prop) (y : V) (H4 : Hp) : Prop := ∃ acc, H4 D = some (.lst acc) ∧ acc.length < sizeLine ∧ Nx (upd H4 D (.lst (acc ++ [y])))
theorem g_add1 {H1 H4 : Hp} {D : Addr} {os : Nat → List V} {i : Nat} (hD : H1 D = none) (s : Same H1 H4) (e : H4 D = some (.lst (os i))) (hl : (os i).length ≤ 1000) (eo : os (i + 1) = os i ++ [y]) : dAdd D (Nxt H1 D os (i + 1)) y H4 :=
  ⟨os i, e, small1000 hl, same_mut s hD, by rw [upd_same, eo]⟩
theorem g_skip1 {H1 H4 : Hp} {D : Addr} {os : Nat → List V} {i : Nat} (s : Same H1 H4) (e : H4 D = some (.lst (os i))) (eo : os (i + 1) = os i) : Nxt H1 D os (i + 1) H4 := ⟨s, by rw [eo]; exact e⟩
theorem g_lcR {g : TG} {tt : TT} {te : TE} {vs : List Nat} {σ : L2.St} {H1 : Hp} {n : Nat} (os : Nat → List V) (h0 : os 0 = [])
    (hs : ∀ (D : Addr) (i : Nat) (H' : Hp), H1 D = none → i < n → Same H1 H' → H' D = some (.lst (os i)) → g (.int (0 + (i : Int))) (wipe σ vs) H' fun σ2 H2 => wipe σ2 vs = wipe σ vs ∧ tt σ2 H2 fun b H3 =>
      if b = true then te σ2 H3 fun y H4 => dAdd D (Nxt H1 D os (i + 1)) y H4 else Nxt H1 D os (i + 1) H3)
    (hd : ∀ D H', H1 D = none → Same H1 H' → H' D = some (.lst (os n)) → Q (.ref D) H') : dLc g tt te vs σ (Itr 0 n) H1 Q := fun D hD =>
  lc_range (lo := 0) (n := n) (Nxt H1 D os) ⟨same_new hD, by rw [upd_same, h0]⟩ (fun i H hi p => hs D i H hD hi p.1 p.2) fun H p => hd D H hD p.1 p.2
theorem g_lcL {g : TG} {tt : TT} {te : TE} {vs : List Nat} {σ : L2.St} {H1 : Hp} {a : Addr} {xs : List V} (hq : SqL K H1 a xs) (os : Nat → List V) (h0 : os 0 = [])
    (hs : ∀ (D : Addr) (i : Nat) (x : V) (H' : Hp), H1 D = none → xs[i]? = some x → Same H1 H' → H' D = some (.lst (os i)) → g x (wipe σ vs) H' fun σ2 H2 => wipe σ2 vs = wipe σ vs ∧ tt σ2 H2 fun b H3 =>
      if b = true then te σ2 H3 fun y H4 => dAdd D (Nxt H1 D os (i + 1)) y H4 else Nxt H1 D os (i + 1) H3)
    (hd : ∀ D H', H1 D = none → Same H1 H' → H' D = some (.lst (os xs.length)) → Q (.ref D) H') : dLc g tt te vs σ (Itl K a) H1 Q := fun D hD =>
  lc_list (K := K) (a := a) (xs := xs) (Nxt H1 D os) ⟨same_new hD, by rw [upd_same, h0]⟩ (fun i H _ p => Same.seq p.1 hq) (fun i x H hi p => hs D i x H hD hi p.1 p.2) fun H p => hd D H hD p.1 p.2
theorem g_yes {R : Bool → Hp → Prop} {σ : L2.St} (h : R true H) : tYes σ H R := h
end
end Lk

/-! ### a ladder as it stands in the heap -/
namespace Lk
open PySem PySem.Spec PyProof.Rows L2
structure LT (K : PySem.W.Frag) (C : Addr) : Prop where
  cl : Cls K C
  width : NoAttr K C "width"
  high : NoAttr K C "high"
  limit : NoAttr K C "limit"
  many : NoAttr K C "many"
  least : NoAttr K C "least"
  nexts : NoAttr K C "nexts"
  gaps : NoAttr K C "gaps"
structure ExF (K : PySem.W.Frag) (mg : Str → Option Value) (x : Str) (C : Addr) : Prop where
  g : mg x = some (.ref C)
  x : PySem.W.excIn K C [.type "ValueError", .type "Exception", .type "BaseException", .type "object"] "ValueError.__new__" = true
  k : PySem.W.keepIn K (.ref C) = true
  b : PySem.W.subIn K (.ref C) (.type "BaseException") = some true
  t : PySem.W.typeIn K (.ref C) = some (.type "type")
  d : PySem.W.hasDictIn K C = true
def ov : Option Int → V
  | none => .non
  | some i => .int i
/-- the fields, in the order in which they are stored -/
def lf (w h lim many : Int) (least : Option Int) (nx gx : Addr) : List (Str × V) := [("width", .int w), ("high", .int h), ("limit", .int lim), ("many", .int many), ("least", ov least), ("nexts", .ref nx), ("gaps", .ref gx)]
section
variable {w h lim many : Int} {least : Option Int} {nx gx : Addr}
theorem lf_width : (lf w h lim many least nx gx).lookup ("width" : Str) = some (.int w) := by simp only [lf, List.lookup, beq_self_eq_true]
theorem lf_high : (lf w h lim many least nx gx).lookup ("high" : Str) = some (.int h) := by
  simp only [lf, List.lookup, show (("high" : Str) == "width") = false by decide +kernel, beq_self_eq_true]
theorem lf_limit : (lf w h lim many least nx gx).lookup ("limit" : Str) = some (.int lim) := by
  simp only [lf, List.lookup, show (("limit" : Str) == "width") = false by decide +kernel, show (("limit" : Str) == "high") = false by decide +kernel, beq_self_eq_true]
theorem lf_many : (lf w h lim many least nx gx).lookup ("many" : Str) = some (.int many) := by
  simp only [lf, List.lookup, show (("many" : Str) == "width") = false by decide +kernel, show (("many" : Str) == "high") = false by decide +kernel, show (("many" : Str) == "limit") = false by decide +kernel, beq_self_eq_true]
theorem lf_least : (lf w h lim many least nx gx).lookup ("least" : Str) = some (ov least) := by
  simp only [lf, List.lookup, show (("least" : Str) == "width") = false by decide +kernel, show (("least" : Str) == "high") = false by decide +kernel, show (("least" : Str) == "limit") = false by decide +kernel, show (("least" : Str) == "many") = false by decide +kernel, beq_self_eq_true]
theorem lf_nexts : (lf w h lim many least nx gx).lookup ("nexts" : Str) = some (.ref nx) := by
  simp only [lf, List.lookup, show (("nexts" : Str) == "width") = false by decide +kernel, show (("nexts" : Str) == "high") = false by decide +kernel, show (("nexts" : Str) == "limit") = false by decide +kernel, show (("nexts" : Str) == "many") = false by decide +kernel, show (("nexts" : Str) == "least") = false by decide +kernel, beq_self_eq_true]
theorem lf_gaps : (lf w h lim many least nx gx).lookup ("gaps" : Str) = some (.ref gx) := by
  simp only [lf, List.lookup, show (("gaps" : Str) == "width") = false by decide +kernel, show (("gaps" : Str) == "high") = false by decide +kernel, show (("gaps" : Str) == "limit") = false by decide +kernel, show (("gaps" : Str) == "many") = false by decide +kernel, show (("gaps" : Str) == "least") = false by decide +kernel, show (("gaps" : Str) == "nexts") = false by decide +kernel, beq_self_eq_true]
theorem lf_no {m : Str} (e : (([("width", 0), ("high", 0), ("limit", 0), ("many", 0), ("least", 0), ("nexts", 0), ("gaps", 0)] : List (Str × Nat)).any fun q => m == q.1) = false) : (lf w h lim many least nx gx).lookup m = none := by
  simp only [List.any_cons, List.any_nil, Bool.or_eq_false_iff] at e
  obtain ⟨e1, e2, e3, e4, e5, e6, e7, _⟩ := e
  simp only [lf, List.lookup, e1, e2, e3, e4, e5, e6, e7]
theorem lf_putMany {z : Int} : putF "many" (.int z) (lf w h lim many least nx gx) = lf w h lim z least nx gx := by
  simp only [lf, putF, show ¬ (("width" : Str) = "many") by decide +kernel, show ¬ (("high" : Str) = "many") by decide +kernel, show ¬ (("limit" : Str) = "many") by decide +kernel, if_false, if_true]
theorem lf_putLeast {z : Option Int} : putF "least" (ov z) (lf w h lim many least nx gx) = lf w h lim many z nx gx := by
  simp only [lf, putF, show ¬ (("width" : Str) = "least") by decide +kernel, show ¬ (("high" : Str) = "least") by decide +kernel, show ¬ (("limit" : Str) = "least") by decide +kernel, show ¬ (("many" : Str) = "least") by decide +kernel, if_false, if_true]
end
/-- a dict: what it tells of each number, and how many entries it has at most -/
def DI (n : Nat) (H : Hp) (d : Addr) (f : Int → Option V) : Prop := ∃ kvs : List (Key × V), H d = some (.dK kvs) ∧ (kvs.map (·.1)).Nodup ∧ kvs.length ≤ n ∧ (∀ k, valV kvs (Sum.inl k) = f k) ∧ ∀ s, valV kvs (Sum.inr s) = none
/-- all but what stands at d is as it was -/
def But (d : Addr) (H H' : Hp) : Prop := ∀ b, b ≠ d → H' b = H b
theorem valV_drop {κ : Type} [DecidableEq κ] (k j : κ) : ∀ kvs : List (κ × V), valV (dropK kvs k) j = if j = k then none else valV kvs j
  | [] => by
    show none = _
    split <;> rfl
  | q :: r => by
    have ih := valV_drop k j r
    by_cases e : q.1 = k
    · rw [dropK_pos e, ih]
      by_cases e2 : j = k
      · rw [if_pos e2, if_pos e2]
      · rw [if_neg e2, if_neg e2, valV_neg fun z => e2 (z.symm.trans e)]
    · rw [dropK_neg e]
      by_cases e3 : q.1 = j
      · rw [valV_pos e3, if_neg fun z => e (e3.trans z), valV_pos e3]
      · rw [valV_neg e3, ih, valV_neg e3]
theorem nodup_len {α : Type} [DecidableEq α] : ∀ {l m : List α}, l.Nodup → (∀ x ∈ l, x ∈ m) → l.length ≤ m.length
  | [], _, _, _ => Nat.zero_le _
  | a :: r, m, h, s => by
    obtain ⟨h1, h2⟩ := List.nodup_cons.mp h
    have ha := s a List.mem_cons_self
    have := nodup_len (l := r) (m := m.erase a) h2 fun x hx => by
      have ne : x ≠ a := fun e => h1 (by rw [← e]; exact hx)
      exact (List.mem_erase_of_ne ne).mpr (s x (List.mem_cons_of_mem _ hx))
    rw [List.length_erase_of_mem ha] at this
    have := List.length_pos_of_mem ha
    rw [List.length_cons]
    omega
section
variable {K : PySem.W.Frag} {H H' : Hp} {Q : VK} {d : Addr} {f g : Int → Option V} {n m : Nat} {k : Int} {v : V} {D : Ends} {σ : L2.St}
theorem DI.at (x : DI n H d f) (e : H' d = H d) : DI n H' d f := by
  obtain ⟨kvs, h1, h2⟩ := x
  exact ⟨kvs, e.trans h1, h2⟩
theorem DI.to (x : DI n H d f) (e : ∀ k, f k = g k) : DI n H d g := by
  obtain ⟨kvs, h1, h2, h3, h4, h5⟩ := x
  exact ⟨kvs, h1, h2, h3, fun k => (h4 k).trans (e k), h5⟩
/-- no more entries than numbers that it may tell of -/
theorem DI.tight {S : List Int} (x : DI n H d f) (h : ∀ k v, f k = some v → k ∈ S) : DI S.length H d f := by
  obtain ⟨kvs, h1, h2, h3, h4, h5⟩ := x
  refine ⟨kvs, h1, h2, ?_, h4, h5⟩
  have q := nodup_len (m := S.map Sum.inl) h2 fun y hy => ?_
  · rw [List.length_map, List.length_map] at q
    exact q
  · obtain ⟨p, hp, rfl⟩ := List.mem_map.mp hy
    have s : (valV kvs p.1).isSome = true := by
      rw [← valV_any]
      exact List.any_eq_true.mpr ⟨p, hp, decide_eq_true rfl⟩
    obtain ⟨k, w⟩ := p
    cases k with
    | inl i =>
      rw [h4 i] at s
      obtain ⟨v, hv⟩ := Option.isSome_iff_exists.mp s
      exact List.mem_map.mpr ⟨i, h i v hv, rfl⟩
    | inr z =>
      rw [h5 z] at s
      cases s
theorem DI.mono (x : DI n H d f) (h : n ≤ m) : DI m H d f := by
  obtain ⟨kvs, h1, h2, h3, h4⟩ := x
  exact ⟨kvs, h1, h2, Nat.le_trans h3 h, h4⟩
theorem g_diGet (x : DI n H d f) (e : f k = some v) (h : Q v H) : dGet (.ref d) (.int k) H Q := by
  obtain ⟨kvs, h1, h2, h3, h4, h5⟩ := x
  exact g_get h1 ((h4 k).trans e) h
theorem g_diIn (x : DI n H d f) (h : Q (.bl (f k).isSome) H) : dIn (.int k) (.ref d) H Q := by
  obtain ⟨kvs, h1, h2, h3, h4, h5⟩ := x
  exact g_in h1 (by rw [h4]; exact h)
theorem g_diNin (x : DI n H d f) (h : Q (.bl (!(f k).isSome)) H) : dNotIn (.int k) (.ref d) H Q := by
  obtain ⟨kvs, h1, h2, h3, h4, h5⟩ := x
  exact g_nin h1 (by rw [h4]; exact h)
def dPut (D : Ends) (σ : L2.St) (v x y : V) (H3 : Hp) : Prop := ∃ a H4, x = .ref a ∧ DPut H3 a y v H4 ∧ D.nx σ H4
theorem g_put0 {td ty tv : TE} (h : tv σ H fun v H1 => td σ H1 fun x H2 => ty σ H2 fun y H3 => dPut D σ v x y H3) : sDPut td ty tv D σ H := h
theorem g_diPut (x : DI n H d f) (hn : n ≤ 1000) (h : ∀ H', But d H H' → DI (n + 1) H' d (fun j => if j = k then some v else f j) → D.nx σ H') : dPut D σ v (.ref d) (.int k) H := by
  obtain ⟨kvs, h1, h2, h3, h4, h5⟩ := x
  refine ⟨d, _, rfl, DPut.k (k := Sum.inl k) h1 (small1000 (by omega)), h _ (fun b hb => upd_ne hb) ⟨_, upd_same, ?_, Nat.le_trans (length_putK _ _ _) (by omega), fun j => ?_, fun s => ?_⟩⟩
  · cases e : valV kvs (Sum.inl k : Key) with
    | none => exact nd_putK v h2 e
    | some u =>
      have e2 : (kvs.any fun kv => decide (kv.1 = (Sum.inl k : Key))) = true := by rw [valV_any, e] <;> rfl
      unfold putK
      rw [if_pos e2, List.map_map]
      refine (List.map_congr_left fun q hq => ?_) ▸ h2
      show q.1 = (if q.1 = Sum.inl k then (q.1, v) else q).1
      split <;> rfl
  · rw [valV_put, h4 j]
    show _ = if j = k then some v else f j
    by_cases q : j = k
    · rw [if_pos (by rw [q]), if_pos q]
    · rw [if_neg fun z => q (Sum.inl.inj z), if_neg q]
  · rw [valV_put, if_neg (fun z => nomatch z), h5 s]
def dPop (x y : V) (H2 : Hp) (Q : VK) : Prop := ∃ a, x = .ref a ∧ IsD H2 a ∧ ∃ kvs k v, H2 a = some (.dK kvs) ∧ y = kV k ∧ valV kvs k = some v ∧ Q v (upd H2 a (.dK (dropK kvs k)))
def dPop0 (ty : TE) (σ : L2.St) (x : V) (H1 : Hp) (Q : VK) : Prop := ∃ a, x = .ref a ∧ IsD H1 a ∧ ty σ H1 fun y H2 => ∃ kvs k v, H2 a = some (.dK kvs) ∧ y = kV k ∧ valV kvs k = some v ∧ Q v (upd H2 a (.dK (dropK kvs k)))
theorem g_pop0 {td ty : TE} (h : td σ H fun x H1 => dPop0 ty σ x H1 Q) : tDPop1 td ty σ H Q := h
/-- d.pop(k), k a name's value -/
theorem g_diPop {i : Nat} (x : DI n H d f) (ek : σ[i]? = some (some (.int k))) (e : f k = some v) (h : ∀ H', But d H H' → DI n H' d (fun j => if j = k then none else f j) → Q v H') : dPop0 (tVar i) σ (.ref d) H Q := by
  obtain ⟨kvs, h1, h2, h3, h4, h5⟩ := x
  refine ⟨d, rfl, .inl ⟨kvs, .inl h1⟩, .int k, ek, kvs, Sum.inl k, v, h1, rfl, (h4 k).trans e, h _ (fun b hb => upd_ne hb) ⟨_, upd_same, nd_dropK h2, Nat.le_trans (dropK_le _ _) h3, fun j => ?_, fun s => ?_⟩⟩
  · rw [valV_drop, h4 j]
    show _ = if j = k then none else f j
    by_cases q : j = k
    · rw [if_pos (by rw [q]), if_pos q]
    · rw [if_neg fun z => q (Sum.inl.inj z), if_neg q]
  · rw [valV_drop, if_neg (fun z => nomatch z), h5 s]
def dAug (tv : TE) (rd : V → V → Hp → VK → Prop) (D : Ends) (σ : L2.St) (x y : V) (H2 : Hp) : Prop := ∃ a v, x = .ref a ∧ DGet H2 a y (some v) ∧ tv σ H2 fun z H3 => rd v z H3 fun u H4 => ∃ H5, DPut H4 a y u H5 ∧ D.nx σ H5
end
/-- what is fixed of a ladder: width, height, where its parts stand -/
structure LS where
  w : Int
  h : Nat
  dx : Addr
  nx : Addr
  gx : Addr
  ds : Nat → Addr
  gs : Nat → Addr
structure LOk (L : LS) : Prop where
  w1 : 2 ≤ L.w
  w2 : L.w ≤ 9
  h1 : 1 ≤ L.h
  h2 : L.h ≤ 12
  ng : L.nx ≠ L.gx
  di : ∀ i j, i ≤ L.h → j ≤ L.h → L.ds i = L.ds j → i = j
  gi : ∀ i j, i ≤ L.h → j ≤ L.h → L.gs i = L.gs j → i = j
  dg : ∀ i j, i ≤ L.h → j ≤ L.h → L.ds i ≠ L.gs j
def refs (h : Nat) (f : Nat → Addr) : List V := (List.range (h + 1)).map fun l => V.ref (f l)
theorem refs_at {h l : Nat} {f : Nat → Addr} (hl : l ≤ h) : atI (refs h f) (l : Int) = some (.ref (f l)) := by
  refine atI_nat ?_
  unfold refs
  rw [List.getElem?_map, List.getElem?_range (by omega)]
  rfl
def nV (c : Int) (S : List Int) (k : Int) : Option V := (Sk.nA c S k).map ov
def gV (c : Int) (S : List Int) (k : Int) : Option V := (Sk.gA c S k).map V.int
/-- its parts, each level's dicts as of a row of that level's own -/
structure LadX (C : Addr) (H : Hp) (p : Addr) (L : LS) (le : Option Int) (many : Int) (T : Nat → List Int) : Prop where
  ok : LOk L
  ob : H p = some (.ins C L.dx (lf L.w L.h (L.w ^ L.h) many le L.nx L.gx))
  nl : H L.nx = some (.lst (refs L.h L.ds))
  gl : H L.gx = some (.lst (refs L.h L.gs))
  dn : ∀ l, l ≤ L.h → DI 200 H (L.ds l) (nV (L.w ^ l) (T l))
  dg : ∀ l, l ≤ L.h → DI 200 H (L.gs l) (gV (L.w ^ l) (T l))
/-- a ladder that keeps the numbers of S -/
structure Lad (C : Addr) (H : Hp) (p : Addr) (L : LS) (S : List Int) : Prop extends LadX C H p L S.head? (S.length : Int) (fun _ => S) where
  srt : Sk.Srt S
  lo : ∀ z ∈ S, 0 ≤ z
  hi : ∀ z ∈ S, z < L.w ^ L.h
  len : S.length ≤ 100
/-- what belongs to it -/
def LS.own (L : LS) (p b : Addr) : Prop := b = p ∨ b = L.nx ∨ b = L.gx ∨ ∃ l, l ≤ L.h ∧ (b = L.ds l ∨ b = L.gs l)
section
variable {K : PySem.W.Frag} {C : Addr} {H H' : Hp} {p : Addr} {L : LS} {le : Option Int} {many : Int} {T : Nat → List Int} {S : List Int} {Q : VK} {D : Ends} {σ : L2.St} {l : Nat}
theorem LadX.at (x : LadX C H p L le many T) (h : ∀ b, L.own p b → H' b = H b) : LadX C H' p L le many T where
  ok := x.ok
  ob := (h p (.inl rfl)).trans x.ob
  nl := (h _ (.inr (.inl rfl))).trans x.nl
  gl := (h _ (.inr (.inr (.inl rfl)))).trans x.gl
  dn := fun l hl => (x.dn l hl).at (h _ (.inr (.inr (.inr ⟨l, hl, .inl rfl⟩))))
  dg := fun l hl => (x.dg l hl).at (h _ (.inr (.inr (.inr ⟨l, hl, .inr rfl⟩))))
theorem LadX.there (x : LadX C H p L le many T) {b : Addr} (h : L.own p b) : ∃ o, H b = some o := by
  rcases h with rfl | rfl | rfl | ⟨l, hl, rfl | rfl⟩
  · exact ⟨_, x.ob⟩
  · exact ⟨_, x.nl⟩
  · exact ⟨_, x.gl⟩
  · obtain ⟨kvs, h, _⟩ := x.dn l hl; exact ⟨_, h⟩
  · obtain ⟨kvs, h, _⟩ := x.dg l hl; exact ⟨_, h⟩
theorem LadX.same (x : LadX C H p L le many T) (s : Same H H') : LadX C H' p L le many T := x.at fun b hb => by
  obtain ⟨o, e⟩ := x.there hb
  rw [e]
  exact s b o e
theorem Lad.same (x : Lad C H p L S) (s : Same H H') : Lad C H' p L S := { x.toLadX.same s with srt := x.srt, lo := x.lo, hi := x.hi, len := x.len }
theorem Lad.at (x : Lad C H p L S) (h : ∀ b, L.own p b → H' b = H b) : Lad C H' p L S := { x.toLadX.at h with srt := x.srt, lo := x.lo, hi := x.hi, len := x.len }
/-- what was tracked and is none of its own is as it was -/
def Keeps (L : LS) (p : Addr) (H H' : Hp) : Prop := ∀ b o, H b = some o → ¬ L.own p b → H' b = some o
theorem own_no (x : LadX C H p L le many T) {b : Addr} (h : H b = none) : ¬ L.own p b := fun q => by
  obtain ⟨o, e⟩ := x.there q
  rw [h] at e; cases e
theorem Same.keeps {L : LS} {p : Addr} (s : Same H H') : Keeps L p H H' := fun b o e _ => s b o e
theorem pow_ok (o : LOk L) {l : Nat} (hl : l ≤ L.h) : 0 < L.w ^ l ∧ L.w ^ l ≤ 282429536481 := by
  have := o.h2
  have h1 := o.w1
  have h2 := o.w2
  refine ⟨Int.pow_pos (by omega), ?_⟩
  obtain ⟨m, e⟩ : ∃ m : Nat, L.w = (m : Int) := ⟨L.w.toNat, by omega⟩
  have a : m ^ l ≤ 9 ^ l := Nat.pow_le_pow_left (by omega) l
  have b : 9 ^ l ≤ 9 ^ 12 := Nat.pow_le_pow_right (by decide) (by omega)
  have c : 9 ^ 12 = 282429536481 := by decide
  rw [e, ← Int.natCast_pow]
  omega
theorem lad_width (t : LT K C) (x : LadX C H p L le many T) (h : Q (.int L.w) H) : dFld K "width" (.ref p) H Q := g_fld x.ob t.cl t.width lf_width h
theorem lad_high (t : LT K C) (x : LadX C H p L le many T) (h : Q (.int (L.h : Int)) H) : dFld K "high" (.ref p) H Q := g_fld x.ob t.cl t.high lf_high h
theorem lad_limit (t : LT K C) (x : LadX C H p L le many T) (h : Q (.int (L.w ^ L.h)) H) : dFld K "limit" (.ref p) H Q := g_fld x.ob t.cl t.limit lf_limit h
theorem lad_many (t : LT K C) (x : LadX C H p L le many T) (h : Q (.int many) H) : dFld K "many" (.ref p) H Q := g_fld x.ob t.cl t.many lf_many h
theorem lad_least (t : LT K C) (x : LadX C H p L le many T) (h : Q (ov le) H) : dFld K "least" (.ref p) H Q := g_fld x.ob t.cl t.least lf_least h
theorem lad_nexts (t : LT K C) (x : LadX C H p L le many T) (h : Q (.ref L.nx) H) : dFld K "nexts" (.ref p) H Q := g_fld x.ob t.cl t.nexts lf_nexts h
theorem lad_gaps (t : LT K C) (x : LadX C H p L le many T) (h : Q (.ref L.gx) H) : dFld K "gaps" (.ref p) H Q := g_fld x.ob t.cl t.gaps lf_gaps h
theorem lad_nx (x : LadX C H p L le many T) (hl : l ≤ L.h) (h : Q (.ref (L.ds l)) H) : rIxL K (.ref L.nx) (.int (l : Int)) H Q := g_ixL (.of x.nl) (refs_at hl) h
theorem lad_gx (x : LadX C H p L le many T) (hl : l ≤ L.h) (h : Q (.ref (L.gs l)) H) : rIxL K (.ref L.gx) (.int (l : Int)) H Q := g_ixL (.of x.gl) (refs_at hl) h
theorem lad_nx0 (x : LadX C H p L le many T) (h : Q (.ref (L.ds 0)) H) : rIxL K (.ref L.nx) (.int 0) H Q := lad_nx (l := 0) x (Nat.zero_le _) h
theorem lad_meth {m : Str} {sp : Sp} {E : XK} {tA : TA} (x : LadX C H p L le many T) (hm : (([("width", 0), ("high", 0), ("limit", 0), ("many", 0), ("least", 0), ("nexts", 0), ("gaps", 0)] : List (Str × Nat)).any fun q => m == q.1) = false)
    (h : tA σ H fun vs H2 => sp (.ref p :: vs) H2 Q E) : dMeth C m sp E σ tA (.ref p) H Q := g_meth x.ob (lf_no hm) h
theorem lad_dn (x : LadX C H p L le many T) (hl : l ≤ L.h) {k : Int} {o : Option Int} (e : Sk.nA (L.w ^ l) (T l) k = some o) (h : Q (ov o) H) : dGet (.ref (L.ds l)) (.int k) H Q :=
  g_diGet (x.dn l hl) (by unfold nV; rw [e]; rfl) h
theorem lad_dg (x : LadX C H p L le many T) (hl : l ≤ L.h) {k z : Int} (e : Sk.gA (L.w ^ l) (T l) k = some z) (h : Q (.int z) H) : dGet (.ref (L.gs l)) (.int k) H Q :=
  g_diGet (x.dg l hl) (by unfold gV; rw [e]; rfl) h
end
/-- the one behind, if it lies in n's block -/
def alk (c n : Int) : Option Int → Option Int
  | some a => if n / c = a / c then some a else none
  | none => none
theorem LadX.congr {C : Addr} {H : Hp} {p : Addr} {L : LS} {le : Option Int} {many : Int} {T T' : Nat → List Int} (x : LadX C H p L le many T) (h : ∀ l, l ≤ L.h → T l = T' l) : LadX C H p L le many T' :=
  ⟨x.ok, x.ob, x.nl, x.gl, fun l hl => by rw [← h l hl]; exact x.dn l hl, fun l hl => by rw [← h l hl]; exact x.dg l hl⟩
theorem nV_mem {c : Int} {S : List Int} {k : Int} {v : V} (h : nV c S k = some v) : k ∈ S := by
  unfold nV Sk.nA at h
  split at h
  · rename_i q; exact q.1
  · cases h
theorem gV_mem {c : Int} {S : List Int} {k : Int} {v : V} (h : gV c S k = some v) : k ∈ S := by
  unfold gV Sk.gA at h
  split at h
  · rename_i q; exact q.1
  · cases h
theorem own_nx {L : LS} {p : Addr} : L.own p L.nx := .inr (.inl rfl)
theorem own_gx {L : LS} {p : Addr} : L.own p L.gx := .inr (.inr (.inl rfl))
theorem own_ds {L : LS} {p : Addr} {l : Nat} (h : l ≤ L.h) : L.own p (L.ds l) := .inr (.inr (.inr ⟨l, h, .inl rfl⟩))
theorem own_gs {L : LS} {p : Addr} {l : Nat} (h : l ≤ L.h) : L.own p (L.gs l) := .inr (.inr (.inr ⟨l, h, .inr rfl⟩))
section
variable {C : Addr} {H H' : Hp} {p : Addr} {L : LS} {le : Option Int} {many : Int} {T : Nat → List Int} {l : Nat}
theorem LadX.p_ds (x : LadX C H p L le many T) (h : l ≤ L.h) : p ≠ L.ds l := by
  obtain ⟨kvs, e, _⟩ := x.dn l h
  exact ne_of x.ob e (by intro z; cases z)
theorem LadX.p_gs (x : LadX C H p L le many T) (h : l ≤ L.h) : p ≠ L.gs l := by
  obtain ⟨kvs, e, _⟩ := x.dg l h
  exact ne_of x.ob e (by intro z; cases z)
theorem LadX.nx_ds (x : LadX C H p L le many T) (h : l ≤ L.h) : L.nx ≠ L.ds l := by
  obtain ⟨kvs, e, _⟩ := x.dn l h
  exact ne_of x.nl e (by intro z; cases z)
theorem LadX.nx_gs (x : LadX C H p L le many T) (h : l ≤ L.h) : L.nx ≠ L.gs l := by
  obtain ⟨kvs, e, _⟩ := x.dg l h
  exact ne_of x.nl e (by intro z; cases z)
theorem LadX.gx_ds (x : LadX C H p L le many T) (h : l ≤ L.h) : L.gx ≠ L.ds l := by
  obtain ⟨kvs, e, _⟩ := x.dn l h
  exact ne_of x.gl e (by intro z; cases z)
theorem LadX.gx_gs (x : LadX C H p L le many T) (h : l ≤ L.h) : L.gx ≠ L.gs l := by
  obtain ⟨kvs, e, _⟩ := x.dg l h
  exact ne_of x.gl e (by intro z; cases z)
theorem LadX.p_nx (x : LadX C H p L le many T) : p ≠ L.nx := ne_of x.ob x.nl (by intro z; cases z)
theorem LadX.p_gx (x : LadX C H p L le many T) : p ≠ L.gx := ne_of x.ob x.gl (by intro z; cases z)
/-- one level's dicts have changed -/
theorem LadX.lev (x : LadX C H p L le many T) (hl : l ≤ L.h) {S : List Int} (b : ∀ c, c ≠ L.ds l → c ≠ L.gs l → H' c = H c) (hn : DI 200 H' (L.ds l) (nV (L.w ^ l) S)) (hg : DI 200 H' (L.gs l) (gV (L.w ^ l) S)) :
    LadX C H' p L le many (fun j => if j = l then S else T j) where
  ok := x.ok
  ob := (b _ (x.p_ds hl) (x.p_gs hl)).trans x.ob
  nl := (b _ (x.nx_ds hl) (x.nx_gs hl)).trans x.nl
  gl := (b _ (x.gx_ds hl) (x.gx_gs hl)).trans x.gl
  dn := fun j hj => by
    by_cases e : j = l
    · subst e; rw [if_pos rfl]; exact hn
    · rw [if_neg e]
      exact (x.dn j hj).at (b _ (fun q => e (x.ok.di j l hj hl q)) (x.ok.dg j l hj hl))
  dg := fun j hj => by
    by_cases e : j = l
    · subst e; rw [if_pos rfl]; exact hg
    · rw [if_neg e]
      exact (x.dg j hj).at (b _ (fun q => x.ok.dg l j hl hj q.symm) (fun q => e (x.ok.gi j l hj hl q)))
theorem LadX.fld (x : LadX C H p L le many T) (b : But p H H') {le' : Option Int} {many' : Int} (e : H' p = some (.ins C L.dx (lf L.w L.h (L.w ^ L.h) many' le' L.nx L.gx))) : LadX C H' p L le' many' T where
  ok := x.ok
  ob := e
  nl := (b _ (Ne.symm x.p_nx)).trans x.nl
  gl := (b _ (Ne.symm x.p_gx)).trans x.gl
  dn := fun j hj => (x.dn j hj).at (b _ (Ne.symm (x.p_ds hj)))
  dg := fun j hj => (x.dg j hj).at (b _ (Ne.symm (x.p_gs hj)))
def dFset (K : PySem.W.Frag) (f : Str) (D : Ends) (σ : L2.St) (y x : V) (H2 : Hp) : Prop := ∃ a C dx fs, x = .ref a ∧ H2 a = some (.ins C dx fs) ∧ Cls K C ∧ NoAttr K C f ∧ fs.length < 1000 ∧ D.nx σ (upd H2 a (.ins C dx (putF f y fs)))
variable {K : PySem.W.Frag} {D : Ends} {σ : L2.St}
theorem g_fset0 {ta tv : TE} {f : Str} (h : tv σ H fun y H1 => ta σ H1 fun x H2 => dFset K f D σ y x H2) : sFld K ta tv f D σ H := h
theorem lad_setLeast (t : LT K C) (x : LadX C H p L le many T) (z : Option Int) (h : ∀ H', But p H H' → LadX C H' p L z many T → D.nx σ H') : dFset K "least" D σ (ov z) (.ref p) H :=
  ⟨p, C, L.dx, _, rfl, x.ob, t.cl, t.least, by show 7 < 1000; decide, h _ (fun b hb => upd_ne hb) (x.fld (fun b hb => upd_ne hb) (by rw [upd_same, lf_putLeast]))⟩
theorem lad_setMany (t : LT K C) (x : LadX C H p L le many T) (z : Int) (h : ∀ H', But p H H' → LadX C H' p L le z T → D.nx σ H') : dFset K "many" D σ (.int z) (.ref p) H :=
  ⟨p, C, L.dx, _, rfl, x.ob, t.cl, t.many, by show 7 < 1000; decide, h _ (fun b hb => upd_ne hb) (x.fld (fun b hb => upd_ne hb) (by rw [upd_same, lf_putMany]))⟩
theorem g_aug0 {td ty tv : TE} {rd : V → V → Hp → VK → Prop} (h : td σ H fun x H1 => ty σ H1 fun y H2 => dAug tv rd D σ x y H2) : sDAug td ty tv rd D σ H := h
theorem g_diAugA {n : Nat} {d : Addr} {f : Int → Option V} {k z : Int} (x : DI n H d f) (hn : n ≤ 1000) (e : f k = some (.int z)) (h : ∀ H', But d H H' → DI (n + 1) H' d (fun j => if j = k then some (.int (z + 1)) else f j) → D.nx σ H') : dAug (tC (.int 1)) rAdd D σ (.ref d) (.int k) H := by
  obtain ⟨a, H4, e1, q1, q2⟩ := g_diPut (v := .int (z + 1)) (D := D) (σ := σ) x hn h
  cases e1
  obtain ⟨kvs, h1, h2, h3, h4, h5⟩ := x
  exact ⟨d, .int z, rfl, by rw [← e, ← h4]; exact DGet.k (k := Sum.inl k) h1, z, 1, rfl, rfl, H4, q1, q2⟩
theorem g_diAugS {n : Nat} {d : Addr} {f : Int → Option V} {k z : Int} (x : DI n H d f) (hn : n ≤ 1000) (e : f k = some (.int z)) (h : ∀ H', But d H H' → DI (n + 1) H' d (fun j => if j = k then some (.int (z - 1)) else f j) → D.nx σ H') : dAug (tC (.int 1)) rSub D σ (.ref d) (.int k) H := by
  obtain ⟨a, H4, e1, q1, q2⟩ := g_diPut (v := .int (z - 1)) (D := D) (σ := σ) x hn h
  cases e1
  obtain ⟨kvs, h1, h2, h3, h4, h5⟩ := x
  exact ⟨d, .int z, rfl, by rw [← e, ← h4]; exact DGet.k (k := Sum.inl k) h1, z, 1, rfl, rfl, H4, q1, q2⟩
end
theorem Keeps.step {L : LS} {p : Addr} {H H1 H2 : Hp} (k : Keeps L p H H1) (h : ∀ c, ¬ L.own p c → H2 c = H1 c) : Keeps L p H H2 := fun b o e nb => (h b nb).trans (k b o e nb)
theorem Keeps.same {L : LS} {p : Addr} {H H1 H2 : Hp} (k : Keeps L p H H1) (s : Same H1 H2) : Keeps L p H H2 := fun b o e nb => s b o (k b o e nb)
theorem Keeps.but {L : LS} {p q : Addr} {H H1 H2 : Hp} (k : Keeps L p H H1) (hq : H q = none) (b : But q H1 H2) : Keeps L p H H2 := fun c o e nc => (b c (ne_of_none e hq)).trans (k c o e nc)
theorem Keeps.refl {L : LS} {p : Addr} {H : Hp} : Keeps L p H H := fun _ _ e _ => e
theorem Keeps.trans {L : LS} {p : Addr} {H H1 H2 : Hp} (a : Keeps L p H H1) (b : Keeps L p H1 H2) : Keeps L p H H2 := fun c o e nc => b c o (a c o e nc) nc
/-- dicts alone have changed: lists of tuples are as they were -/
theorem TupL.dicts {H H' : Hp} {q d g : Addr} {xs : List (List V)} {n m : Nat} {f f' : Int → Option V} (t : TupL H q xs) (hd : DI n H d f) (hg : DI m H g f') (h : ∀ c, c ≠ d → c ≠ g → H' c = H c) : TupL H' q xs := by
  obtain ⟨k1, e1, _⟩ := hd
  obtain ⟨k2, e2, _⟩ := hg
  obtain ⟨as, h1, h2⟩ := t
  refine ⟨as, (h q (ne_of h1 e1 (by intro z; cases z)) (ne_of h1 e2 (by intro z; cases z))).trans h1, Paired.mapP h2 fun a x e => ?_⟩
  exact (h a (ne_of e e1 (by intro z; cases z)) (ne_of e e2 (by intro z; cases z))).trans e
theorem TupL.inst {H H' : Hp} {q p : Addr} {xs : List (List V)} {C dx : Addr} {fs : List (Str × V)} (t : TupL H q xs) (e1 : H p = some (.ins C dx fs)) (h : But p H H') : TupL H' q xs := by
  obtain ⟨as, h1, h2⟩ := t
  refine ⟨as, (h q (ne_of h1 e1 (by intro z; cases z))).trans h1, Paired.mapP h2 fun a x e => ?_⟩
  exact (h a (ne_of e e1 (by intro z; cases z))).trans e
theorem nA_of {c : Int} {S : List Int} {k : Int} (h : Sk.St c S k) : Sk.nA c S k = some (Sk.nx c S k) := if_pos h
theorem gA_of {c : Int} {S : List Int} {k : Int} (h : Sk.St c S k) : Sk.gA c S k = some (Sk.gp c S k : Int) := if_pos h
theorem nV_some {c : Int} {S : List Int} {k : Int} : (nV c S k).isSome = decide (Sk.St c S k) := by
  unfold nV Sk.nA
  by_cases h : Sk.St c S k
  · rw [if_pos h, decide_eq_true h]; rfl
  · rw [if_neg h, decide_eq_false h]; rfl
theorem st_one {S : List Int} {k : Int} : Sk.St 1 S k ↔ k ∈ S := ⟨fun h => h.1, fun h => ⟨h, fun z _ hl e => by rw [Int.ediv_one, Int.ediv_one] at e; omega⟩⟩
end Lk

/-! ### what is refused, and taken -/
namespace Lk
open PySem PySem.Spec PyProof.Rows L2
/-! calls whose refusals are wished for at the caller's slots -/
def tMethS (C : Addr) (m : Str) (sp : Sp) (W : L2.St → XK) (to : TE) (tA : TA) : TE := fun σ H Q => to σ H fun x H1 => ∃ (a dx : Addr) (fs : List (Str × V)), x = .ref a ∧ H1 a = some (.ins C dx fs) ∧ fs.lookup m = none ∧ tA σ H1 fun vs H2 => sp (x :: vs) H2 Q (W σ)
def tMakeS (C : Addr) (sp : Sp) (W : L2.St → XK) (tA : TA) : TE := fun σ H Q => tA σ H fun vs H1 => ∀ x dx, H1 x = none → H1 dx = none → dx ≠ x → sp (.ref x :: vs) (upd (upd H1 dx (.own x)) x (.ins C dx [])) (fun v H2 => v = .non ∧ Q (.ref x) H2) (W σ)
section
variable {Y : Cx} {cx : CXT} {n : Nat} {g D : Addr} {fd : FuncData} {qs : List Str} {sp : Sp} {W : L2.St → XK} {nm : Str} {q1 q2 q3 : Pos} {e1 o1 : Expr} {er : List Expr} {to : TE} {tA : TA}
theorem pe_methS {lk : Sem Bool} (he : PE Y o1 to) (hD : Cls Y.K D) (hm : Meth Y.K D nm g) (F : FnOk Y.prog Y.w Y.K Y.mg Y.base cx n g fd qs sp) (hr : Room n Y.A) (hb : Binds Y.K fd qs []) (hp : ∀ σ, PassesAt cx Y σ (W σ)) (ha : PA Y (e1 :: er) tA)
    (h1 : starEach (e1 :: er) Y.env = (false, eval e1 Y.env) :: starEach er Y.env := by rfl) (h2 : (backTo q2 (starEach er Y.env)).any (·.1) = false := by rfl)
    (h3 : eval (.Call (.Attribute o1 nm q3) (e1 :: er) [] q2) Y.env = (do
      let r ← eval o1 Y.env
      standAt q3.atName
      let (u, us) ← holding [r] (getMethod r nm lk)
      callWith q2 u us (backTo q2 (starEach (e1 :: er) Y.env)) (backToKw q2 (keywordEach [] Y.env))) := by rfl) :
    PE Y (.Call (.Attribute o1 nm q3) (e1 :: er) [] q2) (tMethS D nm sp W to tA) := by
  constructor
  intro ps s σ H Q I h
  refine PySem.W.methodCall_KW (pl := lk) (thn (he.run ps s σ H _ I h) ?_) h3
  rintro u s1 ⟨x, H1, I1, rx, a, dx, fs, rfl, ea, lo, q⟩
  obtain rfl : u = Value.ref a := rx
  refine getmeth_ok I1 ea hD hm lo (PySem.W.callWith_K (first := [.ref a]) (h₀ := Y.base) I.ok.mod.kin hm.kp (thn (ha.run q2 ps s1 σ H1 _ I1 q) ?_) h1 h2)
  rintro us s2 ⟨vs, H2, I2, r, k⟩
  exact ⟨I2.kIn, run_fnS (us := .ref a :: us) (vs := .ref a :: vs) F hr hb (hp σ) I2 (.cons rfl r) k⟩
theorem pe_makeS (M : Mk Y.K D g) (F : FnOk Y.prog Y.w Y.K Y.mg Y.base cx n g fd qs sp) (hr : Room (n + 1) Y.A) (hg : Gl Y nm) (hm : Y.mg nm = some (.ref D)) (hb : Binds Y.K fd qs []) (hp : ∀ σ, PassesAt cx Y σ (W σ)) (ha : PA Y (e1 :: er) tA)
    (h0 : (nm == ("__debug__" : Str)) = false := by decide) (h1 : starEach (e1 :: er) Y.env = (false, eval e1 Y.env) :: starEach er Y.env := by rfl) (h2 : (backTo q2 (starEach er Y.env)).any (·.1) = false := by rfl) :
    PE Y (.Call (.Name nm q1) (e1 :: er) [] q2) (tMakeS D sp W tA) := by
  constructor
  intro ps s σ H Q I h
  refine wpAny_Call_Name_kw (ld_glob I hg hm (PySem.W.callWith_K (h₀ := Y.base) I.ok.mod.kin M.kp (thn (ha.run q2 ps s σ H _ I h) ?_) h1 h2) h0)
  rintro us s1 ⟨vs, H1, I1, r, k⟩
  refine ⟨I1.kIn, ?_⟩
  have k2 := k (s1.heap.objs.size + 1) s1.heap.objs.size (I1.hok.fresh (Nat.le_succ _)) (I1.hok.fresh (Nat.le_refl _)) (Nat.ne_of_lt (Nat.lt_succ_self _))
  have J := Inv.made (C := D) I1
  have hl : (Value.ref (s1.heap.objs.size + 1) :: us).length = qs.length := by
    have := F.len _ _ _ _ k2
    rw [List.length_cons] at this ⊢
    rw [← r.length]
    exact this
  have b := hb _ (Value.ref (s1.heap.objs.size + 1) :: us) J.kIn (by rw [List.append_nil]; exact hl)
  rw [List.append_nil] at b
  refine wpAny_call (make_map (f := g) I1.kIn M.makes M.init (beq_iff_eq.mp M.fn) (codeAny_mono (F.run _ Y.stack _ _ ⟨Value.ref (s1.heap.objs.size + 1) :: us, []⟩ _ _ _ (W σ) (hr.make D us [])
    (J.env0.make D us []) b (Paired.cons (show RelV (V.ref (s1.heap.objs.size + 1)) (Value.ref (s1.heap.objs.size + 1)) from rfl) r) k2) ?_))
  rintro (e | fl) s' hq
  · exact hp σ ps _ _ e s' J hq
  · cases fl with
    | ret u =>
      obtain ⟨v, H', J2, rv, rfl, k3⟩ := J.after hq
      exact ⟨rv, V.ref (s1.heap.objs.size + 1), H', J2, rfl, k3⟩
    | next => exact False.elim hq
    | brk => exact False.elim hq
    | cont => exact False.elim hq
end
/-- an if whose test tells b, at a place M -/
theorem g_ifP {c : TT} {t u : TS} {D : Ends} {σ : L2.St} {H : Hp} (b : Bool) (M : Hp → Prop) (hc : ∀ R : Bool → Hp → Prop, (∀ H', M H' → R b H') → c σ H R) (ht : b = true → ∀ H', M H' → t D σ H') (hu : b = false → ∀ H', M H' → u D σ H') : tIfS c t u D σ H :=
  g_if (hc _ fun H' m => g_ite (fun e => ht e H' m) fun e => hu e H' m)
/-- a value by several roads -/
theorem g_via {t : TE} {σ : L2.St} {H : Hp} {Q : VK} (v : V) (M : Hp → Prop) (hc : ∀ R : VK, (∀ H', M H' → R v H') → t σ H R) (h : ∀ H', M H' → Q v H') : t σ H Q := hc Q h
theorem i_t {A B : Prop} (h : A) : if true = true then A else B := by rw [if_pos rfl]; exact h
theorem i_f {A B : Prop} (h : B) : if false = true then A else B := by rw [if_neg (by decide)]; exact h
theorem i_nt {A B : Prop} (h : B) : if (!true) = true then A else B := by rw [if_neg (by decide)]; exact h
theorem i_nf {A B : Prop} (h : A) : if (!false) = true then A else B := by rw [if_pos (by decide)]; exact h
/-- isinstance(e, c) in the suite, e what it holds -/
def rIsG (K : PySem.W.Frag) (cls : Value) (d : Option Addr) (a : Addr) : List V → Hp → VK → Prop := fun xs H Q => ∃ D : Addr, cls = .ref D ∧ d = none ∧ ExcC K D ∧ rIsE K D a xs H Q
theorem call_isG {Y : Cx} {a : Addr} {oe : Obj} {pn : List (Addr × Obj)} {cls : Value} {d : Option Addr} {K : PySem.W.Frag} (eK : Y.K = K) (hz : Zc cls d oe) (hf : ∃ vs, oe.data = .fields vs) : CallR (Y.suite a ((a, oe) :: pn)) (.builtin "isinstance") (rIsG K cls d a) := by
  subst eK
  intro ps s σ H xs us Q I r h
  obtain ⟨D, rfl, rfl, C, h⟩ := h
  exact call_isE C hz hf ps s σ H xs us Q I r h
section
variable {K : PySem.W.Frag} {σ : L2.St} {H : Hp} {Q : VK} {D : Ends}
theorem g_isG {cls c : Addr} {a : Addr} {b : Bool} (C : ExcC K cls) (e : PySem.W.kitOne K (.ref cls) (.ref c) = some b) (h : Q (.bl b) H) : rIsG K (.ref cls) none a [.ref a, .ref c] H Q :=
  ⟨cls, rfl, rfl, C, .ref c, .ref c, b, rfl, fun u r => r, e, h⟩
theorem g_isGt {cls : Addr} {a : Addr} {b : Bool} {nm : String} (C : ExcC K cls) (e : PySem.W.kitOne K (.ref cls) (.type nm) = some b) (h : Q (.bl b) H) : rIsG K (.ref cls) none a [.ref a, .ty nm] H Q :=
  ⟨cls, rfl, rfl, C, .ty nm, .type nm, b, rfl, fun u r => r, e, h⟩
def dMethS (C : Addr) (m : Str) (sp : Sp) (E : XK) (σ : L2.St) (t : TA) : V → Hp → VK → Prop := fun x H1 Q => ∃ (a dx : Addr) (fs : List (Str × V)), x = .ref a ∧ H1 a = some (.ins C dx fs) ∧ fs.lookup m = none ∧ t σ H1 fun vs H2 => sp (x :: vs) H2 Q E
theorem g_methS {C : Addr} {m : Str} {sp : Sp} {W : L2.St → XK} {to : TE} {tA : TA} (h : to σ H fun x H1 => dMeth C m sp (W σ) σ tA x H1 Q) : tMethS C m sp W to tA σ H Q := h
theorem g_callS {sp : Sp} {W : L2.St → XK} {tA : TA} (h : tA σ H fun vs H1 => sp vs H1 Q (W σ)) : tCallS sp W tA σ H Q := h
/-- a new one of a class -/
def dMake (C : Addr) (sp : Sp) (E : XK) (vs : List V) (H1 : Hp) (Q : VK) : Prop := ∀ x dx, H1 x = none → H1 dx = none → dx ≠ x → sp (.ref x :: vs) (upd (upd H1 dx (.own x)) x (.ins C dx [])) (fun v H2 => v = .non ∧ Q (.ref x) H2) E
theorem g_makeS {C : Addr} {sp : Sp} {W : L2.St → XK} {tA : TA} (h : tA σ H fun vs H1 => dMake C sp (W σ) vs H1 Q) : tMakeS C sp W tA σ H Q := h
theorem g_make {C : Addr} {sp : Sp} {E : XK} {tA : TA} (h : tA σ H fun vs H1 => dMake C sp E vs H1 Q) : tMake C sp [] E tA σ H Q := by
  unfold tMake
  unfold dMake at h
  simpa using h
variable {c cls : Value} {d : Option Addr} {ts : Addr → Value → Option Addr → TS} {Wout : WX} {r : List (Value × (Addr → Value → Option Addr → TS))} {i : Nat}
theorem w_hit (e : PySem.W.exmOne K cls c = some true) (h : ∀ a, H a = none → ts a cls d D σ H) : wMany K Wout D ((c, ts) :: r) cls d σ H := ⟨true, e, fun _ => h, fun q => nomatch q⟩
theorem w_miss (e : PySem.W.exmOne K cls c = some false) (h : wMany K Wout D r cls d σ H) : wMany K Wout D ((c, ts) :: r) cls d σ H := ⟨false, e, fun q => (nomatch q), fun _ => h⟩
theorem w_only (e : PySem.W.exmOne K cls c = some true) (h : ∀ a, H a = none → ts a cls d D σ H) : wOnly K c ts Wout D cls d σ H := ⟨true, e, fun _ => h, fun q => nomatch q⟩
theorem w_as (e : PySem.W.exmOne K cls c = some true) (h : ∀ a, H a = none → ts a cls d { nx := fun σ' H' => D.nx (σ'.set i none) H', rt := D.rt, bk := fun σ' H' => D.bk (σ'.set i none) H', ct := fun σ' H' => D.ct (σ'.set i none) H' } (σ.set i (some (.ref a))) H) : wAs K c i ts Wout D cls d σ H :=
  ⟨true, e, fun _ => h, fun q => nomatch q⟩
end
end Lk

/-! ### comprehensions that make new things; lists of lists -/
namespace Lk
open PySem PySem.Spec PyProof.Rows L2
/-- the heap without what stands at D -/
def off (D : Addr) (H : Hp) : Hp := fun b => if b = D then none else H b
section
variable {H H' H1 : Hp} {D b : Addr}
theorem off_ne (h : b ≠ D) : off D H b = H b := if_neg h
theorem off_self : off D H D = none := if_pos rfl
theorem off_at {o : HO} (h : b ≠ D) (e : H b = some o) : off D H b = some o := (off_ne h).trans e
theorem off_le : Same (off D H) H := fun b o e => by
  by_cases q : b = D
  · rw [q, off_self] at e; cases e
  · rw [off_ne q] at e; exact e
theorem same_off (s : Same H H') : Same (off D H) (off D H') := fun b o e => by
  by_cases q : b = D
  · rw [q, off_self] at e; cases e
  · rw [off_ne q] at e ⊢; exact s b o e
theorem off_upd {o : HO} : off D (upd H D o) = off D H := funext fun b => by
  by_cases q : b = D
  · rw [q, off_self, off_self]
  · rw [off_ne q, off_ne q, upd_ne q]
theorem off_but (h : But' D H H') : off D H' = off D H := funext fun b => by
  by_cases q : b = D
  · rw [q, off_self, off_self]
  · rw [off_ne q, off_ne q, h b q]
theorem off_none (e : H D = none) : off D H = H := funext fun b => by
  by_cases q : b = D
  · rw [q, off_self, e]
  · rw [off_ne q]
end
section
variable {K : PySem.W.Frag} {H H' H1 : Hp} {D : Addr} {Q : VK}
def NxtP (H1 : Hp) (D : Addr) (F : Nat → V → Hp → Prop) (i : Nat) (H' : Hp) : Prop := Same H1 H' ∧ ∃ ys : List V, H' D = some (.lst ys) ∧ ys.length = i ∧ ∀ j y, ys[j]? = some y → F j y (off D H')
theorem nxtP_add {F : Nat → V → Hp → Prop} {i : Nat} {y : V} {H4 : Hp} (hm : ∀ j y H H', Same H H' → F j y H → F j y H') (hD : H1 D = none) (p : NxtP H1 D F i H') (hi : i ≤ 1000) (s : Same H' H4) (f : F i y (off D H4)) : dAdd D (NxtP H1 D F (i + 1)) y H4 := by
  obtain ⟨s1, ys, e, l, fs⟩ := p
  refine ⟨ys, s _ _ e, small1000 (by omega), same_mut (s1.trans s) hD, ys ++ [y], upd_same, by rw [List.length_append, l]; rfl, fun j z ej => ?_⟩
  rw [off_upd]
  rcases Nat.lt_or_ge j ys.length with q | q
  · rw [List.getElem?_append_left q] at ej
    exact hm j z _ _ (same_off s) (fs j z ej)
  · have hj : j = ys.length := by
      rcases Nat.lt_or_ge j (ys.length + 1) with q2 | q2
      · omega
      · rw [List.getElem?_eq_none (by rw [List.length_append]; exact q2)] at ej; cases ej
    subst hj
    rw [List.getElem?_concat_length] at ej
    cases ej
    rw [l]
    exact f
theorem nxtP_nil {F : Nat → V → Hp → Prop} (hD : H1 D = none) : NxtP H1 D F 0 (upd H1 D (.lst [])) := ⟨same_new hD, [], upd_same, rfl, fun j y e => by rw [List.getElem?_nil] at e; cases e⟩
theorem g_lcPR {g : TG} {te : TE} {vs : List Nat} {σ : L2.St} {n : Nat} (F : Nat → V → Hp → Prop) (hm : ∀ j y H H', Same H H' → F j y H → F j y H') (hn : n ≤ 1000)
    (hs : ∀ (D : Addr) (i : Nat) (H' : Hp), H1 D = none → i < n → Same H1 H' → (∃ ys, H' D = some (.lst ys)) → ∀ N : VK, (∀ y H4, Same H' H4 → F i y (off D H4) → N y H4) → g (.int (0 + (i : Int))) (wipe σ vs) H' fun σ2 H2 => wipe σ2 vs = wipe σ vs ∧ te σ2 H2 N)
    (hd : ∀ D H' ys, H1 D = none → Same H1 H' → H' D = some (.lst ys) → ys.length = n → (∀ j y, ys[j]? = some y → F j y (off D H')) → Q (.ref D) H') : dLc g tYes te vs σ (Itr 0 n) H1 Q := fun D hD =>
  lc_range (lo := 0) (n := n) (NxtP H1 D F) (nxtP_nil hD) (fun i H hi p => hs D i H hD hi p.1 (by obtain ⟨_, ys, e, _⟩ := p; exact ⟨ys, e⟩) _ fun y H4 s f => nxtP_add hm hD p (by omega) s f) fun H ⟨s, ys, e, l, f⟩ => hd D H ys hD s e l f
theorem g_lcPL {g : TG} {te : TE} {vs : List Nat} {σ : L2.St} {a : Addr} {xs : List V} (hq : SqL K H1 a xs) (F : Nat → V → Hp → Prop) (hm : ∀ j y H H', Same H H' → F j y H → F j y H') (hn : xs.length ≤ 1000)
    (hs : ∀ (D : Addr) (i : Nat) (x : V) (H' : Hp), H1 D = none → xs[i]? = some x → Same H1 H' → (∃ ys, H' D = some (.lst ys)) → ∀ N : VK, (∀ y H4, Same H' H4 → F i y (off D H4) → N y H4) → g x (wipe σ vs) H' fun σ2 H2 => wipe σ2 vs = wipe σ vs ∧ te σ2 H2 N)
    (hd : ∀ D H' ys, H1 D = none → Same H1 H' → H' D = some (.lst ys) → ys.length = xs.length → (∀ j y, ys[j]? = some y → F j y (off D H')) → Q (.ref D) H') : dLc g tYes te vs σ (Itl K a) H1 Q := fun D hD =>
  lc_list (K := K) (a := a) (xs := xs) (NxtP H1 D F) (nxtP_nil hD) (fun i H' _ p => Same.seq p.1 hq) (fun i x H hi p => hs D i x H hD hi p.1 (by obtain ⟨_, ys, e, _⟩ := p; exact ⟨ys, e⟩) _ fun y H4 s f => nxtP_add hm hD p (by
    have : i < xs.length := by
      rcases Nat.lt_or_ge i xs.length with q | q
      · exact q
      · rw [List.getElem?_eq_none q] at hi; cases hi
    omega) s f) fun H ⟨s, ys, e, l, f⟩ => hd D H ys hD s e l f
theorem dpl_get : ∀ {ys : List V} {ds : List PyData}, ys.length = ds.length → (∀ (j : Nat) y d, ys[j]? = some y → ds[j]? = some d → Dp K H y d) → DpAll K H ys ds
  | [], [], _, _ => .nil
  | [], _ :: _, l, _ => by cases l
  | _ :: _, [], l, _ => by cases l
  | y :: ys, d :: ds, l, h => .cons (h 0 y d rfl rfl) (dpl_get (Nat.succ.inj l) fun j y d e1 e2 => h (j + 1) y d e1 e2)
end
end Lk

namespace Lk
open PySem PySem.Spec PyProof.Rows L2
def top (i : Nat) : Stmt := PySem.Challenge.pw_skipladder_k14_whole_parts.main.body.getD i (.Pass ⟨0, 0, 0, 0⟩)
abbrev s_power : Stmt := top 10
abbrev N_power : List Str := ["width", "level", "found", "turn"]
theorem sc_power : FnScope N_power ["width", "level"] (defScope s_power) := ⟨rfl, rfl, rfl, by decide +kernel, rfl, by decide +kernel, by decide +kernel⟩
abbrev s___init__ : Stmt := inClass (top 19) 0
abbrev N___init__ : List Str := ["self", "width", "high", "level"]
theorem sc___init__ : FnScope N___init__ ["self", "width", "high"] (defScope s___init__) := ⟨rfl, rfl, rfl, by decide +kernel, rfl, by decide +kernel, by decide +kernel⟩
abbrev s__law_number : Stmt := top 25
abbrev N__law_number : List Str := ["_law_cell", "_law_limit"]
theorem sc__law_number : FnScope N__law_number ["_law_cell", "_law_limit"] (defScope s__law_number) := ⟨rfl, rfl, rfl, by decide +kernel, rfl, by decide +kernel, by decide +kernel⟩
abbrev s_need_level : Stmt := inClass (top 19) 9
abbrev N_need_level : List Str := ["self", "level"]
theorem sc_need_level : FnScope N_need_level ["self", "level"] (defScope s_need_level) := ⟨rfl, rfl, rfl, by decide +kernel, rfl, by decide +kernel, by decide +kernel⟩
abbrev s_level_row : Stmt := top 14
abbrev N_level_row : List Str := ["ladder", "level", "found", "at"]
theorem sc_level_row : FnScope N_level_row ["ladder", "level"] (defScope s_level_row) := ⟨rfl, rfl, rfl, by decide +kernel, rfl, by decide +kernel, by decide +kernel⟩
abbrev s_level : Stmt := inClass (top 19) 10
abbrev N_level : List Str := ["self", "level"]
theorem sc_level : FnScope N_level ["self", "level"] (defScope s_level) := ⟨rfl, rfl, rfl, by decide +kernel, rfl, by decide +kernel, by decide +kernel⟩
abbrev s_need : Stmt := inClass (top 19) 1
abbrev N_need : List Str := ["self", "number", "most"]
theorem sc_need : FnScope N_need ["self", "number", "most"] (defScope s_need) := ⟨rfl, rfl, rfl, by decide +kernel, rfl, by decide +kernel, by decide +kernel⟩
abbrev s_nearest : Stmt := top 15
abbrev N_nearest : List Str := ["ladder", "number", "befores", "places", "at", "place", "level", "later"]
theorem sc_nearest : FnScope N_nearest ["ladder", "number"] (defScope s_nearest) := ⟨rfl, rfl, rfl, by decide +kernel, rfl, by decide +kernel, by decide +kernel⟩
abbrev s_place : Stmt := inClass (top 19) 16
abbrev N_place : List Str := ["self", "number", "befores", "places"]
theorem sc_place : FnScope N_place ["self", "number"] (defScope s_place) := ⟨rfl, rfl, rfl, by decide +kernel, rfl, by decide +kernel, by decide +kernel⟩
abbrev s_counted : Stmt := inClass (top 19) 19
abbrev N_counted : List Str := ["self", "low", "high"]
theorem sc_counted : FnScope N_counted ["self", "low", "high"] (defScope s_counted) := ⟨rfl, rfl, rfl, by decide +kernel, rfl, by decide +kernel, by decide +kernel⟩
abbrev s_has : Stmt := inClass (top 19) 2
abbrev N_has : List Str := ["self", "number"]
theorem sc_has : FnScope N_has ["self", "number"] (defScope s_has) := ⟨rfl, rfl, rfl, by decide +kernel, rfl, by decide +kernel, by decide +kernel⟩
abbrev s_steps : Stmt := top 16
abbrev N_steps : List Str := ["ladder", "number", "at", "level", "found", "later"]
theorem sc_steps : FnScope N_steps ["ladder", "number"] (defScope s_steps) := ⟨rfl, rfl, rfl, by decide +kernel, rfl, by decide +kernel, by decide +kernel⟩
abbrev s_trail : Stmt := inClass (top 19) 13
abbrev N_trail : List Str := ["self", "number"]
theorem sc_trail : FnScope N_trail ["self", "number"] (defScope s_trail) := ⟨rfl, rfl, rfl, by decide +kernel, rfl, by decide +kernel, by decide +kernel⟩
abbrev s_below : Stmt := inClass (top 19) 14
abbrev N_below : List Str := ["self", "number", "found"]
theorem sc_below : FnScope N_below ["self", "number"] (defScope s_below) := ⟨rfl, rfl, rfl, by decide +kernel, rfl, by decide +kernel, by decide +kernel⟩
abbrev s_behind : Stmt := inClass (top 19) 3
abbrev N_behind : List Str := ["self", "before"]
theorem sc_behind : FnScope N_behind ["self", "before"] (defScope s_behind) := ⟨rfl, rfl, rfl, by decide +kernel, rfl, by decide +kernel, by decide +kernel⟩
abbrev s_above : Stmt := inClass (top 19) 15
abbrev N_above : List Str := ["self", "number", "before"]
theorem sc_above : FnScope N_above ["self", "number"] (defScope s_above) := ⟨rfl, rfl, rfl, by decide +kernel, rfl, by decide +kernel, by decide +kernel⟩
abbrev s_row : Stmt := inClass (top 19) 11
abbrev N_row : List Str := ["self"]
theorem sc_row : FnScope N_row ["self"] (defScope s_row) := ⟨rfl, rfl, rfl, by decide +kernel, rfl, by decide +kernel, by decide +kernel⟩
abbrev s_steps_by_gaps : Stmt := top 17
abbrev N_steps_by_gaps : List Str := ["ladder", "place", "at", "level", "left", "found", "later", "gap"]
theorem sc_steps_by_gaps : FnScope N_steps_by_gaps ["ladder", "place"] (defScope s_steps_by_gaps) := ⟨rfl, rfl, rfl, by decide +kernel, rfl, by decide +kernel, by decide +kernel⟩
abbrev s_way : Stmt := inClass (top 19) 17
abbrev N_way : List Str := ["self", "place"]
theorem sc_way : FnScope N_way ["self", "place"] (defScope s_way) := ⟨rfl, rfl, rfl, by decide +kernel, rfl, by decide +kernel, by decide +kernel⟩
abbrev s_at : Stmt := inClass (top 19) 18
abbrev N_at : List Str := ["self", "place"]
theorem sc_at : FnScope N_at ["self", "place"] (defScope s_at) := ⟨rfl, rfl, rfl, by decide +kernel, rfl, by decide +kernel, by decide +kernel⟩
abbrev s_stretch : Stmt := inClass (top 19) 20
abbrev N_stretch : List Str := ["self", "low", "high", "first", "turn"]
theorem sc_stretch : FnScope N_stretch ["self", "low", "high"] (defScope s_stretch) := ⟨rfl, rfl, rfl, by decide +kernel, rfl, by decide +kernel, by decide +kernel⟩
abbrev s_ahead : Stmt := inClass (top 19) 12
abbrev N_ahead : List Str := ["self", "level", "number"]
theorem sc_ahead : FnScope N_ahead ["self", "level", "number"] (defScope s_ahead) := ⟨rfl, rfl, rfl, by decide +kernel, rfl, by decide +kernel, by decide +kernel⟩
abbrev s__law_told : Stmt := top 27
abbrev N__law_told : List Str := ["_law_ladder", "_law_spot", "_law_found", "_law_level", "_law_row", "_law_number_here"]
theorem sc__law_told : FnScope N__law_told ["_law_ladder", "_law_spot"] (defScope s__law_told) := ⟨rfl, rfl, rfl, by decide +kernel, rfl, by decide +kernel, by decide +kernel⟩
abbrev s_block : Stmt := top 11
abbrev N_block : List Str := ["width", "level", "number"]
theorem sc_block : FnScope N_block ["width", "level", "number"] (defScope s_block) := ⟨rfl, rfl, rfl, by decide +kernel, rfl, by decide +kernel, by decide +kernel⟩
abbrev s_tall : Stmt := top 12
abbrev N_tall : List Str := ["width", "high", "before", "number", "level"]
theorem sc_tall : FnScope N_tall ["width", "high", "before", "number"] (defScope s_tall) := ⟨rfl, rfl, rfl, by decide +kernel, rfl, by decide +kernel, by decide +kernel⟩
abbrev s_alike : Stmt := inClass (top 19) 6
abbrev N_alike : List Str := ["self", "level", "number", "behind"]
theorem sc_alike : FnScope N_alike ["self", "level", "number", "behind"] (defScope s_alike) := ⟨rfl, rfl, rfl, by decide +kernel, rfl, by decide +kernel, by decide +kernel⟩
abbrev s_stand_in : Stmt := inClass (top 19) 4
abbrev N_stand_in : List Str := ["self", "level", "number", "before", "place", "old", "here", "gaps"]
theorem sc_stand_in : FnScope N_stand_in ["self", "level", "number", "before", "place", "old"] (defScope s_stand_in) := ⟨rfl, rfl, rfl, by decide +kernel, rfl, by decide +kernel, by decide +kernel⟩
abbrev s_put : Stmt := inClass (top 19) 5
abbrev N_put : List Str := ["self", "number", "befores", "places", "before", "behind", "rank", "stands", "told", "level", "old"]
theorem sc_put : FnScope N_put ["self", "number"] (defScope s_put) := ⟨rfl, rfl, rfl, by decide +kernel, rfl, by decide +kernel, by decide +kernel⟩
abbrev s__law_made : Stmt := top 28
abbrev N__law_made : List Str := ["_law_width", "_law_high", "_law_row", "_law_ladder", "_law_number_here"]
theorem sc__law_made : FnScope N__law_made ["_law_width", "_law_high", "_law_row"] (defScope s__law_made) := ⟨rfl, rfl, rfl, by decide +kernel, rfl, by decide +kernel, by decide +kernel⟩
abbrev s_go_out : Stmt := inClass (top 19) 7
abbrev N_go_out : List Str := ["self", "level", "number", "before", "came", "here", "gaps", "later", "gap"]
theorem sc_go_out : FnScope N_go_out ["self", "level", "number", "before", "came"] (defScope s_go_out) := ⟨rfl, rfl, rfl, by decide +kernel, rfl, by decide +kernel, by decide +kernel⟩
abbrev s_take : Stmt := inClass (top 19) 8
abbrev N_take : List Str := ["self", "number", "befores", "places", "behind", "told", "level", "came"]
theorem sc_take : FnScope N_take ["self", "number"] (defScope s_take) := ⟨rfl, rfl, rfl, by decide +kernel, rfl, by decide +kernel, by decide +kernel⟩
abbrev s_cut : Stmt := top 21
abbrev N_cut : List Str := ["ladder", "number", "rest", "found", "one"]
theorem sc_cut : FnScope N_cut ["ladder", "number"] (defScope s_cut) := ⟨rfl, rfl, rfl, by decide +kernel, rfl, by decide +kernel, by decide +kernel⟩
abbrev s_poured : Stmt := top 22
abbrev N_poured : List Str := ["ladder", "other", "row", "number"]
theorem sc_poured : FnScope N_poured ["ladder", "other"] (defScope s_poured) := ⟨rfl, rfl, rfl, by decide +kernel, rfl, by decide +kernel, by decide +kernel⟩
abbrev s__law_refused : Stmt := top 29
abbrev N__law_refused : List Str := ["_law_ladder", "_law_other", "e"]
theorem sc__law_refused : FnScope N__law_refused ["_law_ladder", "_law_other"] (defScope s__law_refused) := ⟨rfl, rfl, rfl, by decide +kernel, rfl, by decide +kernel, by decide +kernel⟩
abbrev s__law_ends : Stmt := top 33
abbrev N__law_ends : List Str := ["_law_ladder", "_law_gone", "_law_refused_here", "_law_level"]
theorem sc__law_ends : FnScope N__law_ends ["_law_ladder", "_law_gone"] (defScope s__law_ends) := ⟨rfl, rfl, rfl, by decide +kernel, rfl, by decide +kernel, by decide +kernel⟩
abbrev s__law_again : Stmt := top 34
abbrev N__law_again : List Str := ["_law_ladder", "_law_row", "_law_spot", "_law_fresh", "_law_piece", "_law_low", "_law_high", "_law_number_here"]
theorem sc__law_again : FnScope N__law_again ["_law_ladder", "_law_row", "_law_spot"] (defScope s__law_again) := ⟨rfl, rfl, rfl, by decide +kernel, rfl, by decide +kernel, by decide +kernel⟩
abbrev s__law_goes_on : Stmt := top 32
abbrev N__law_goes_on : List Str := ["_law_ladder", "_law_part", "_law_row", "_law_rest", "_law_spot", "_law_fresh", "_law_left"]
theorem sc__law_goes_on : FnScope N__law_goes_on ["_law_ladder", "_law_part", "_law_row", "_law_rest", "_law_spot"] (defScope s__law_goes_on) := ⟨rfl, rfl, rfl, by decide +kernel, rfl, by decide +kernel, by decide +kernel⟩
abbrev s__law_is_there : Stmt := top 36
abbrev N__law_is_there : List Str := ["_law_ladder", "_law_number_here", "_law_levels", "_law_told_here", "_law_level", "_law_one"]
theorem sc__law_is_there : FnScope N__law_is_there ["_law_ladder", "_law_number_here"] (defScope s__law_is_there) := ⟨rfl, rfl, rfl, by decide +kernel, rfl, by decide +kernel, by decide +kernel⟩
abbrev s__law_by_turns : Stmt := top 37
abbrev N__law_by_turns : List Str := ["_law_ladder", "_law_row", "_law_whole", "_law_spot", "_law_number_here", "_law_held", "_law_kept", "_law_some", "_law_one"]
theorem sc__law_by_turns : FnScope N__law_by_turns ["_law_ladder", "_law_row", "_law_whole", "_law_spot"] (defScope s__law_by_turns) := ⟨rfl, rfl, rfl, by decide +kernel, rfl, by decide +kernel, by decide +kernel⟩
abbrev s__law_woven : Stmt := top 35
abbrev N__law_woven : List Str := ["_law_row", "_law_whole", "_law_size", "_law_spot", "_law_rows", "_law_one", "_law_two", "_law_due"]
theorem sc__law_woven : FnScope N__law_woven ["_law_row", "_law_whole", "_law_size", "_law_spot"] (defScope s__law_woven) := ⟨rfl, rfl, rfl, by decide +kernel, rfl, by decide +kernel, by decide +kernel⟩
abbrev s__law_half : Stmt := top 31
abbrev N__law_half : List Str := ["_law_ladder", "_law_row", "_law_spot", "_law_third", "_law_number_here", "_law_whole", "_law_due"]
theorem sc__law_half : FnScope N__law_half ["_law_ladder", "_law_row", "_law_spot"] (defScope s__law_half) := ⟨rfl, rfl, rfl, by decide +kernel, rfl, by decide +kernel, by decide +kernel⟩
abbrev s__law_mated : Stmt := top 38
abbrev N__law_mated : List Str := ["_law_other", "_law_own", "_law_more", "_law_number_here"]
theorem sc__law_mated : FnScope N__law_mated ["_law_other", "_law_own"] (defScope s__law_mated) := ⟨rfl, rfl, rfl, by decide +kernel, rfl, by decide +kernel, by decide +kernel⟩
abbrev s__law_cut : Stmt := top 39
abbrev N__law_cut : List Str := ["_law_ladder", "_law_row", "_law_at", "_law_spot", "_law_width", "_law_high", "_law_whole", "_law_rest", "_law_left", "_law_part", "_law_due", "_law_other", "_law_own", "_law_number_here"]
theorem sc__law_cut : FnScope N__law_cut ["_law_ladder", "_law_row", "_law_at", "_law_spot"] (defScope s__law_cut) := ⟨rfl, rfl, rfl, by decide +kernel, rfl, by decide +kernel, by decide +kernel⟩
abbrev s__law_deed : Stmt := top 26
abbrev N__law_deed : List Str := ["_law_ladder", "_law_row", "_law_cell", "_law_limit", "_law_number_here"]
theorem sc__law_deed : FnScope N__law_deed ["_law_ladder", "_law_row", "_law_cell", "_law_limit"] (defScope s__law_deed) := ⟨rfl, rfl, rfl, by decide +kernel, rfl, by decide +kernel, by decide +kernel⟩
abbrev s__law_cell_at : Stmt := top 24
abbrev N__law_cell_at : List Str := ["_law_script", "_law_k"]
theorem sc__law_cell_at : FnScope N__law_cell_at ["_law_script", "_law_k"] (defScope s__law_cell_at) := ⟨rfl, rfl, rfl, by decide +kernel, rfl, by decide +kernel, by decide +kernel⟩
abbrev s__law_refused_by_any : Stmt := top 30
abbrev N__law_refused_by_any : List Str := ["_law_ladder", "_law_number_here", "_law_refused_here", "e"]
theorem sc__law_refused_by_any : FnScope N__law_refused_by_any ["_law_ladder", "_law_number_here"] (defScope s__law_refused_by_any) := ⟨rfl, rfl, rfl, by decide +kernel, rfl, by decide +kernel, by decide +kernel⟩
abbrev s_law : Stmt := top 40
abbrev N_law : List Str := ["_law_script", "_law_width", "_law_high", "_law_limit", "_law_turn", "_law_ladder", "_law_row", "_law_cells", "_law_cell", "_law_drawn", "_law_spot", "_law_far", "_law_at", "_law_k"]
theorem sc_law : FnScope N_law ["_law_script"] (defScope s_law) := ⟨rfl, rfl, rfl, by decide +kernel, rfl, by decide +kernel, by decide +kernel⟩
structure Ads where
  power : Addr
  init : Addr
  _law_number : Addr
  need_level : Addr
  level_row : Addr
  level : Addr
  need : Addr
  nearest : Addr
  place : Addr
  counted : Addr
  has : Addr
  steps : Addr
  trail : Addr
  below : Addr
  behind : Addr
  above : Addr
  row : Addr
  steps_by_gaps : Addr
  way : Addr
  a_at : Addr
  stretch : Addr
  ahead : Addr
  _law_told : Addr
  block : Addr
  tall : Addr
  alike : Addr
  stand_in : Addr
  put : Addr
  _law_made : Addr
  go_out : Addr
  take : Addr
  cut : Addr
  poured : Addr
  _law_refused : Addr
  _law_ends : Addr
  _law_again : Addr
  _law_goes_on : Addr
  _law_is_there : Addr
  _law_by_turns : Addr
  _law_woven : Addr
  _law_half : Addr
  _law_mated : Addr
  _law_cut : Addr
  _law_deed : Addr
  _law_cell_at : Addr
  _law_refused_by_any : Addr
  law : Addr
  Ladder : Addr
  BadSize : Addr
  LadderError : Addr
  Missing : Addr
  NoLevel : Addr
  NoPlace : Addr
  OtherSize : Addr
  OutOfRange : Addr
  Present : Addr
/-- what the top has written -/
structure Txt (K : PySem.W.Frag) (mg : Str → Option Value) (A : Ads) : Prop where
  f_power : ∃ fd, Fun K "power" "power" s_power A.power fd
  g_power : mg "power" = some (.ref A.power)
  k_power : PySem.W.keepIn K (.ref A.power) = true
  f___init__ : ∃ fd, Fun K "__init__" "Ladder.__init__" s___init__ A.init fd
  f__law_number : ∃ fd, Fun K "_law_number" "_law_number" s__law_number A._law_number fd
  g__law_number : mg "_law_number" = some (.ref A._law_number)
  k__law_number : PySem.W.keepIn K (.ref A._law_number) = true
  f_need_level : ∃ fd, Fun K "need_level" "Ladder.need_level" s_need_level A.need_level fd
  m_need_level : Meth K A.Ladder "need_level" A.need_level
  f_level_row : ∃ fd, Fun K "level_row" "level_row" s_level_row A.level_row fd
  g_level_row : mg "level_row" = some (.ref A.level_row)
  k_level_row : PySem.W.keepIn K (.ref A.level_row) = true
  f_level : ∃ fd, Fun K "level" "Ladder.level" s_level A.level fd
  m_level : Meth K A.Ladder "level" A.level
  f_need : ∃ fd, Fun K "need" "Ladder.need" s_need A.need fd
  m_need : Meth K A.Ladder "need" A.need
  f_nearest : ∃ fd, Fun K "nearest" "nearest" s_nearest A.nearest fd
  g_nearest : mg "nearest" = some (.ref A.nearest)
  k_nearest : PySem.W.keepIn K (.ref A.nearest) = true
  f_place : ∃ fd, Fun K "place" "Ladder.place" s_place A.place fd
  m_place : Meth K A.Ladder "place" A.place
  f_counted : ∃ fd, Fun K "counted" "Ladder.counted" s_counted A.counted fd
  m_counted : Meth K A.Ladder "counted" A.counted
  f_has : ∃ fd, Fun K "has" "Ladder.has" s_has A.has fd
  m_has : Meth K A.Ladder "has" A.has
  f_steps : ∃ fd, Fun K "steps" "steps" s_steps A.steps fd
  g_steps : mg "steps" = some (.ref A.steps)
  k_steps : PySem.W.keepIn K (.ref A.steps) = true
  f_trail : ∃ fd, Fun K "trail" "Ladder.trail" s_trail A.trail fd
  m_trail : Meth K A.Ladder "trail" A.trail
  f_below : ∃ fd, Fun K "below" "Ladder.below" s_below A.below fd
  m_below : Meth K A.Ladder "below" A.below
  f_behind : ∃ fd, Fun K "behind" "Ladder.behind" s_behind A.behind fd
  m_behind : Meth K A.Ladder "behind" A.behind
  f_above : ∃ fd, Fun K "above" "Ladder.above" s_above A.above fd
  m_above : Meth K A.Ladder "above" A.above
  f_row : ∃ fd, Fun K "row" "Ladder.row" s_row A.row fd
  m_row : Meth K A.Ladder "row" A.row
  f_steps_by_gaps : ∃ fd, Fun K "steps_by_gaps" "steps_by_gaps" s_steps_by_gaps A.steps_by_gaps fd
  g_steps_by_gaps : mg "steps_by_gaps" = some (.ref A.steps_by_gaps)
  k_steps_by_gaps : PySem.W.keepIn K (.ref A.steps_by_gaps) = true
  f_way : ∃ fd, Fun K "way" "Ladder.way" s_way A.way fd
  m_way : Meth K A.Ladder "way" A.way
  f_at : ∃ fd, Fun K "at" "Ladder.at" s_at A.a_at fd
  m_at : Meth K A.Ladder "at" A.a_at
  f_stretch : ∃ fd, Fun K "stretch" "Ladder.stretch" s_stretch A.stretch fd
  m_stretch : Meth K A.Ladder "stretch" A.stretch
  f_ahead : ∃ fd, Fun K "ahead" "Ladder.ahead" s_ahead A.ahead fd
  m_ahead : Meth K A.Ladder "ahead" A.ahead
  f__law_told : ∃ fd, Fun K "_law_told" "_law_told" s__law_told A._law_told fd
  g__law_told : mg "_law_told" = some (.ref A._law_told)
  k__law_told : PySem.W.keepIn K (.ref A._law_told) = true
  f_block : ∃ fd, Fun K "block" "block" s_block A.block fd
  g_block : mg "block" = some (.ref A.block)
  k_block : PySem.W.keepIn K (.ref A.block) = true
  f_tall : ∃ fd, Fun K "tall" "tall" s_tall A.tall fd
  g_tall : mg "tall" = some (.ref A.tall)
  k_tall : PySem.W.keepIn K (.ref A.tall) = true
  f_alike : ∃ fd, Fun K "alike" "Ladder.alike" s_alike A.alike fd
  m_alike : Meth K A.Ladder "alike" A.alike
  f_stand_in : ∃ fd, Fun K "stand_in" "Ladder.stand_in" s_stand_in A.stand_in fd
  m_stand_in : Meth K A.Ladder "stand_in" A.stand_in
  f_put : ∃ fd, Fun K "put" "Ladder.put" s_put A.put fd
  m_put : Meth K A.Ladder "put" A.put
  f__law_made : ∃ fd, Fun K "_law_made" "_law_made" s__law_made A._law_made fd
  g__law_made : mg "_law_made" = some (.ref A._law_made)
  k__law_made : PySem.W.keepIn K (.ref A._law_made) = true
  f_go_out : ∃ fd, Fun K "go_out" "Ladder.go_out" s_go_out A.go_out fd
  m_go_out : Meth K A.Ladder "go_out" A.go_out
  f_take : ∃ fd, Fun K "take" "Ladder.take" s_take A.take fd
  m_take : Meth K A.Ladder "take" A.take
  f_cut : ∃ fd, Fun K "cut" "cut" s_cut A.cut fd
  g_cut : mg "cut" = some (.ref A.cut)
  k_cut : PySem.W.keepIn K (.ref A.cut) = true
  f_poured : ∃ fd, Fun K "poured" "poured" s_poured A.poured fd
  g_poured : mg "poured" = some (.ref A.poured)
  k_poured : PySem.W.keepIn K (.ref A.poured) = true
  f__law_refused : ∃ fd, Fun K "_law_refused" "_law_refused" s__law_refused A._law_refused fd
  g__law_refused : mg "_law_refused" = some (.ref A._law_refused)
  k__law_refused : PySem.W.keepIn K (.ref A._law_refused) = true
  f__law_ends : ∃ fd, Fun K "_law_ends" "_law_ends" s__law_ends A._law_ends fd
  g__law_ends : mg "_law_ends" = some (.ref A._law_ends)
  k__law_ends : PySem.W.keepIn K (.ref A._law_ends) = true
  f__law_again : ∃ fd, Fun K "_law_again" "_law_again" s__law_again A._law_again fd
  g__law_again : mg "_law_again" = some (.ref A._law_again)
  k__law_again : PySem.W.keepIn K (.ref A._law_again) = true
  f__law_goes_on : ∃ fd, Fun K "_law_goes_on" "_law_goes_on" s__law_goes_on A._law_goes_on fd
  g__law_goes_on : mg "_law_goes_on" = some (.ref A._law_goes_on)
  k__law_goes_on : PySem.W.keepIn K (.ref A._law_goes_on) = true
  f__law_is_there : ∃ fd, Fun K "_law_is_there" "_law_is_there" s__law_is_there A._law_is_there fd
  g__law_is_there : mg "_law_is_there" = some (.ref A._law_is_there)
  k__law_is_there : PySem.W.keepIn K (.ref A._law_is_there) = true
  f__law_by_turns : ∃ fd, Fun K "_law_by_turns" "_law_by_turns" s__law_by_turns A._law_by_turns fd
  g__law_by_turns : mg "_law_by_turns" = some (.ref A._law_by_turns)
  k__law_by_turns : PySem.W.keepIn K (.ref A._law_by_turns) = true
  f__law_woven : ∃ fd, Fun K "_law_woven" "_law_woven" s__law_woven A._law_woven fd
  g__law_woven : mg "_law_woven" = some (.ref A._law_woven)
  k__law_woven : PySem.W.keepIn K (.ref A._law_woven) = true
  f__law_half : ∃ fd, Fun K "_law_half" "_law_half" s__law_half A._law_half fd
  g__law_half : mg "_law_half" = some (.ref A._law_half)
  k__law_half : PySem.W.keepIn K (.ref A._law_half) = true
  f__law_mated : ∃ fd, Fun K "_law_mated" "_law_mated" s__law_mated A._law_mated fd
  g__law_mated : mg "_law_mated" = some (.ref A._law_mated)
  k__law_mated : PySem.W.keepIn K (.ref A._law_mated) = true
  f__law_cut : ∃ fd, Fun K "_law_cut" "_law_cut" s__law_cut A._law_cut fd
  g__law_cut : mg "_law_cut" = some (.ref A._law_cut)
  k__law_cut : PySem.W.keepIn K (.ref A._law_cut) = true
  f__law_deed : ∃ fd, Fun K "_law_deed" "_law_deed" s__law_deed A._law_deed fd
  g__law_deed : mg "_law_deed" = some (.ref A._law_deed)
  k__law_deed : PySem.W.keepIn K (.ref A._law_deed) = true
  f__law_cell_at : ∃ fd, Fun K "_law_cell_at" "_law_cell_at" s__law_cell_at A._law_cell_at fd
  g__law_cell_at : mg "_law_cell_at" = some (.ref A._law_cell_at)
  k__law_cell_at : PySem.W.keepIn K (.ref A._law_cell_at) = true
  f__law_refused_by_any : ∃ fd, Fun K "_law_refused_by_any" "_law_refused_by_any" s__law_refused_by_any A._law_refused_by_any fd
  g__law_refused_by_any : mg "_law_refused_by_any" = some (.ref A._law_refused_by_any)
  k__law_refused_by_any : PySem.W.keepIn K (.ref A._law_refused_by_any) = true
  f_law : ∃ fd, Fun K "law" "law" s_law A.law fd
  g_law : mg "law" = some (.ref A.law)
  k_law : PySem.W.keepIn K (.ref A.law) = true
  z_ValueError : mg "ValueError" = none
  z_all : mg "all" = none
  z_int : mg "int" = none
  z_isinstance : mg "isinstance" = none
  z_len : mg "len" = none
  z_list : mg "list" = none
  z_max : mg "max" = none
  z_min : mg "min" = none
  z_range : mg "range" = none
  z_reversed : mg "reversed" = none
  z_sorted : mg "sorted" = none
  z_tuple : mg "tuple" = none
  lt : LT K A.Ladder
  g_Ladder : mg "Ladder" = some (.ref A.Ladder)
  mk_Ladder : Mk K A.Ladder A.init
  x_BadSize : ExF K mg "BadSize" A.BadSize
  x_LadderError : ExF K mg "LadderError" A.LadderError
  x_Missing : ExF K mg "Missing" A.Missing
  x_NoLevel : ExF K mg "NoLevel" A.NoLevel
  x_NoPlace : ExF K mg "NoPlace" A.NoPlace
  x_OtherSize : ExF K mg "OtherSize" A.OtherSize
  x_OutOfRange : ExF K mg "OutOfRange" A.OutOfRange
  x_Present : ExF K mg "Present" A.Present
  e_BadSize_LadderError : PySem.W.exmOne K (.ref A.BadSize) (.ref A.LadderError) = some true
  e_BadSize_Missing : PySem.W.exmOne K (.ref A.BadSize) (.ref A.Missing) = some false
  e_BadSize_NoPlace : PySem.W.exmOne K (.ref A.BadSize) (.ref A.NoPlace) = some false
  e_BadSize_OtherSize : PySem.W.exmOne K (.ref A.BadSize) (.ref A.OtherSize) = some false
  e_BadSize_OutOfRange : PySem.W.exmOne K (.ref A.BadSize) (.ref A.OutOfRange) = some false
  e_BadSize_Present : PySem.W.exmOne K (.ref A.BadSize) (.ref A.Present) = some false
  e_Missing_LadderError : PySem.W.exmOne K (.ref A.Missing) (.ref A.LadderError) = some true
  e_Missing_Missing : PySem.W.exmOne K (.ref A.Missing) (.ref A.Missing) = some true
  e_Missing_NoPlace : PySem.W.exmOne K (.ref A.Missing) (.ref A.NoPlace) = some false
  e_Missing_OtherSize : PySem.W.exmOne K (.ref A.Missing) (.ref A.OtherSize) = some false
  e_Missing_OutOfRange : PySem.W.exmOne K (.ref A.Missing) (.ref A.OutOfRange) = some false
  e_Missing_Present : PySem.W.exmOne K (.ref A.Missing) (.ref A.Present) = some false
  e_NoLevel_LadderError : PySem.W.exmOne K (.ref A.NoLevel) (.ref A.LadderError) = some true
  e_NoLevel_Missing : PySem.W.exmOne K (.ref A.NoLevel) (.ref A.Missing) = some false
  e_NoLevel_NoPlace : PySem.W.exmOne K (.ref A.NoLevel) (.ref A.NoPlace) = some false
  e_NoLevel_OtherSize : PySem.W.exmOne K (.ref A.NoLevel) (.ref A.OtherSize) = some false
  e_NoLevel_OutOfRange : PySem.W.exmOne K (.ref A.NoLevel) (.ref A.OutOfRange) = some false
  e_NoLevel_Present : PySem.W.exmOne K (.ref A.NoLevel) (.ref A.Present) = some false
  e_NoPlace_LadderError : PySem.W.exmOne K (.ref A.NoPlace) (.ref A.LadderError) = some true
  e_NoPlace_Missing : PySem.W.exmOne K (.ref A.NoPlace) (.ref A.Missing) = some false
  e_NoPlace_NoPlace : PySem.W.exmOne K (.ref A.NoPlace) (.ref A.NoPlace) = some true
  e_NoPlace_OtherSize : PySem.W.exmOne K (.ref A.NoPlace) (.ref A.OtherSize) = some false
  e_NoPlace_OutOfRange : PySem.W.exmOne K (.ref A.NoPlace) (.ref A.OutOfRange) = some false
  e_NoPlace_Present : PySem.W.exmOne K (.ref A.NoPlace) (.ref A.Present) = some false
  e_OtherSize_LadderError : PySem.W.exmOne K (.ref A.OtherSize) (.ref A.LadderError) = some true
  e_OtherSize_Missing : PySem.W.exmOne K (.ref A.OtherSize) (.ref A.Missing) = some false
  e_OtherSize_NoPlace : PySem.W.exmOne K (.ref A.OtherSize) (.ref A.NoPlace) = some false
  e_OtherSize_OtherSize : PySem.W.exmOne K (.ref A.OtherSize) (.ref A.OtherSize) = some true
  e_OtherSize_OutOfRange : PySem.W.exmOne K (.ref A.OtherSize) (.ref A.OutOfRange) = some false
  e_OtherSize_Present : PySem.W.exmOne K (.ref A.OtherSize) (.ref A.Present) = some false
  e_OutOfRange_LadderError : PySem.W.exmOne K (.ref A.OutOfRange) (.ref A.LadderError) = some true
  e_OutOfRange_Missing : PySem.W.exmOne K (.ref A.OutOfRange) (.ref A.Missing) = some false
  e_OutOfRange_NoPlace : PySem.W.exmOne K (.ref A.OutOfRange) (.ref A.NoPlace) = some false
  e_OutOfRange_OtherSize : PySem.W.exmOne K (.ref A.OutOfRange) (.ref A.OtherSize) = some false
  e_OutOfRange_OutOfRange : PySem.W.exmOne K (.ref A.OutOfRange) (.ref A.OutOfRange) = some true
  e_OutOfRange_Present : PySem.W.exmOne K (.ref A.OutOfRange) (.ref A.Present) = some false
  e_Present_LadderError : PySem.W.exmOne K (.ref A.Present) (.ref A.LadderError) = some true
  e_Present_Missing : PySem.W.exmOne K (.ref A.Present) (.ref A.Missing) = some false
  e_Present_NoPlace : PySem.W.exmOne K (.ref A.Present) (.ref A.NoPlace) = some false
  e_Present_OtherSize : PySem.W.exmOne K (.ref A.Present) (.ref A.OtherSize) = some false
  e_Present_OutOfRange : PySem.W.exmOne K (.ref A.Present) (.ref A.OutOfRange) = some false
  e_Present_Present : PySem.W.exmOne K (.ref A.Present) (.ref A.Present) = some true
  i_BadSize_LadderError : PySem.W.kitOne K (.ref A.BadSize) (.ref A.LadderError) = some true
  i_BadSize_ValueError : PySem.W.kitOne K (.ref A.BadSize) (.type "ValueError") = some true
  i_Missing_LadderError : PySem.W.kitOne K (.ref A.Missing) (.ref A.LadderError) = some true
  i_Missing_ValueError : PySem.W.kitOne K (.ref A.Missing) (.type "ValueError") = some true
  i_NoLevel_LadderError : PySem.W.kitOne K (.ref A.NoLevel) (.ref A.LadderError) = some true
  i_NoLevel_ValueError : PySem.W.kitOne K (.ref A.NoLevel) (.type "ValueError") = some true
  i_NoPlace_LadderError : PySem.W.kitOne K (.ref A.NoPlace) (.ref A.LadderError) = some true
  i_NoPlace_ValueError : PySem.W.kitOne K (.ref A.NoPlace) (.type "ValueError") = some true
  i_OtherSize_LadderError : PySem.W.kitOne K (.ref A.OtherSize) (.ref A.LadderError) = some true
  i_OtherSize_ValueError : PySem.W.kitOne K (.ref A.OtherSize) (.type "ValueError") = some true
  i_OutOfRange_LadderError : PySem.W.kitOne K (.ref A.OutOfRange) (.ref A.LadderError) = some true
  i_OutOfRange_ValueError : PySem.W.kitOne K (.ref A.OutOfRange) (.type "ValueError") = some true
  i_Present_LadderError : PySem.W.kitOne K (.ref A.Present) (.ref A.LadderError) = some true
  i_Present_ValueError : PySem.W.kitOne K (.ref A.Present) (.type "ValueError") = some true
  c_BadSize : ExcC K A.BadSize
  c_Missing : ExcC K A.Missing
  c_NoLevel : ExcC K A.NoLevel
  c_NoPlace : ExcC K A.NoPlace
  c_OtherSize : ExcC K A.OtherSize
  c_OutOfRange : ExcC K A.OutOfRange
  c_Present : ExcC K A.Present
section
variable {K : PySem.W.Frag} {mg : Str → Option Value} {A : Ads}
theorem b_power : ∀ fd, Fun K "power" "power" s_power A.power fd → Binds K fd ["width", "level"] [] := fun _ F => F.binds fun _ _ _ _ _ _ us hl => match us, hl with | [_, _], _ => rfl
theorem b___init__ : ∀ fd, Fun K "__init__" "Ladder.__init__" s___init__ A.init fd → Binds K fd ["self", "width", "high"] [] := fun _ F => F.binds fun _ _ _ _ _ _ us hl => match us, hl with | [_, _, _], _ => rfl
theorem b__law_number : ∀ fd, Fun K "_law_number" "_law_number" s__law_number A._law_number fd → Binds K fd ["_law_cell", "_law_limit"] [] := fun _ F => F.binds fun _ _ _ _ _ _ us hl => match us, hl with | [_, _], _ => rfl
theorem b_need_level : ∀ fd, Fun K "need_level" "Ladder.need_level" s_need_level A.need_level fd → Binds K fd ["self", "level"] [] := fun _ F => F.binds fun _ _ _ _ _ _ us hl => match us, hl with | [_, _], _ => rfl
theorem b_level_row : ∀ fd, Fun K "level_row" "level_row" s_level_row A.level_row fd → Binds K fd ["ladder", "level"] [] := fun _ F => F.binds fun _ _ _ _ _ _ us hl => match us, hl with | [_, _], _ => rfl
theorem b_level : ∀ fd, Fun K "level" "Ladder.level" s_level A.level fd → Binds K fd ["self", "level"] [] := fun _ F => F.binds fun _ _ _ _ _ _ us hl => match us, hl with | [_, _], _ => rfl
theorem b_need : ∀ fd, Fun K "need" "Ladder.need" s_need A.need fd → Binds K fd ["self", "number", "most"] [] := fun _ F => F.binds fun _ _ _ _ _ _ us hl => match us, hl with | [_, _, _], _ => rfl
theorem b_nearest : ∀ fd, Fun K "nearest" "nearest" s_nearest A.nearest fd → Binds K fd ["ladder", "number"] [] := fun _ F => F.binds fun _ _ _ _ _ _ us hl => match us, hl with | [_, _], _ => rfl
theorem b_place : ∀ fd, Fun K "place" "Ladder.place" s_place A.place fd → Binds K fd ["self", "number"] [] := fun _ F => F.binds fun _ _ _ _ _ _ us hl => match us, hl with | [_, _], _ => rfl
theorem b_counted : ∀ fd, Fun K "counted" "Ladder.counted" s_counted A.counted fd → Binds K fd ["self", "low", "high"] [] := fun _ F => F.binds fun _ _ _ _ _ _ us hl => match us, hl with | [_, _, _], _ => rfl
theorem b_has : ∀ fd, Fun K "has" "Ladder.has" s_has A.has fd → Binds K fd ["self", "number"] [] := fun _ F => F.binds fun _ _ _ _ _ _ us hl => match us, hl with | [_, _], _ => rfl
theorem b_steps : ∀ fd, Fun K "steps" "steps" s_steps A.steps fd → Binds K fd ["ladder", "number"] [] := fun _ F => F.binds fun _ _ _ _ _ _ us hl => match us, hl with | [_, _], _ => rfl
theorem b_trail : ∀ fd, Fun K "trail" "Ladder.trail" s_trail A.trail fd → Binds K fd ["self", "number"] [] := fun _ F => F.binds fun _ _ _ _ _ _ us hl => match us, hl with | [_, _], _ => rfl
theorem b_below : ∀ fd, Fun K "below" "Ladder.below" s_below A.below fd → Binds K fd ["self", "number"] [] := fun _ F => F.binds fun _ _ _ _ _ _ us hl => match us, hl with | [_, _], _ => rfl
theorem b_behind : ∀ fd, Fun K "behind" "Ladder.behind" s_behind A.behind fd → Binds K fd ["self", "before"] [] := fun _ F => F.binds fun _ _ _ _ _ _ us hl => match us, hl with | [_, _], _ => rfl
theorem b_above : ∀ fd, Fun K "above" "Ladder.above" s_above A.above fd → Binds K fd ["self", "number"] [] := fun _ F => F.binds fun _ _ _ _ _ _ us hl => match us, hl with | [_, _], _ => rfl
theorem b_row : ∀ fd, Fun K "row" "Ladder.row" s_row A.row fd → Binds K fd ["self"] [] := fun _ F => F.binds fun _ _ _ _ _ _ us hl => match us, hl with | [_], _ => rfl
theorem b_steps_by_gaps : ∀ fd, Fun K "steps_by_gaps" "steps_by_gaps" s_steps_by_gaps A.steps_by_gaps fd → Binds K fd ["ladder", "place"] [] := fun _ F => F.binds fun _ _ _ _ _ _ us hl => match us, hl with | [_, _], _ => rfl
theorem b_way : ∀ fd, Fun K "way" "Ladder.way" s_way A.way fd → Binds K fd ["self", "place"] [] := fun _ F => F.binds fun _ _ _ _ _ _ us hl => match us, hl with | [_, _], _ => rfl
theorem b_at : ∀ fd, Fun K "at" "Ladder.at" s_at A.a_at fd → Binds K fd ["self", "place"] [] := fun _ F => F.binds fun _ _ _ _ _ _ us hl => match us, hl with | [_, _], _ => rfl
theorem b_stretch : ∀ fd, Fun K "stretch" "Ladder.stretch" s_stretch A.stretch fd → Binds K fd ["self", "low", "high"] [] := fun _ F => F.binds fun _ _ _ _ _ _ us hl => match us, hl with | [_, _, _], _ => rfl
theorem b_ahead : ∀ fd, Fun K "ahead" "Ladder.ahead" s_ahead A.ahead fd → Binds K fd ["self", "level", "number"] [] := fun _ F => F.binds fun _ _ _ _ _ _ us hl => match us, hl with | [_, _, _], _ => rfl
theorem b__law_told : ∀ fd, Fun K "_law_told" "_law_told" s__law_told A._law_told fd → Binds K fd ["_law_ladder", "_law_spot"] [] := fun _ F => F.binds fun _ _ _ _ _ _ us hl => match us, hl with | [_, _], _ => rfl
theorem b_block : ∀ fd, Fun K "block" "block" s_block A.block fd → Binds K fd ["width", "level", "number"] [] := fun _ F => F.binds fun _ _ _ _ _ _ us hl => match us, hl with | [_, _, _], _ => rfl
theorem b_tall : ∀ fd, Fun K "tall" "tall" s_tall A.tall fd → Binds K fd ["width", "high", "before", "number"] [] := fun _ F => F.binds fun _ _ _ _ _ _ us hl => match us, hl with | [_, _, _, _], _ => rfl
theorem b_alike : ∀ fd, Fun K "alike" "Ladder.alike" s_alike A.alike fd → Binds K fd ["self", "level", "number", "behind"] [] := fun _ F => F.binds fun _ _ _ _ _ _ us hl => match us, hl with | [_, _, _, _], _ => rfl
theorem b_stand_in : ∀ fd, Fun K "stand_in" "Ladder.stand_in" s_stand_in A.stand_in fd → Binds K fd ["self", "level", "number", "before", "place", "old"] [] := fun _ F => F.binds fun _ _ _ _ _ _ us hl => match us, hl with | [_, _, _, _, _, _], _ => rfl
theorem b_put : ∀ fd, Fun K "put" "Ladder.put" s_put A.put fd → Binds K fd ["self", "number"] [] := fun _ F => F.binds fun _ _ _ _ _ _ us hl => match us, hl with | [_, _], _ => rfl
theorem b__law_made : ∀ fd, Fun K "_law_made" "_law_made" s__law_made A._law_made fd → Binds K fd ["_law_width", "_law_high", "_law_row"] [] := fun _ F => F.binds fun _ _ _ _ _ _ us hl => match us, hl with | [_, _, _], _ => rfl
theorem b_go_out : ∀ fd, Fun K "go_out" "Ladder.go_out" s_go_out A.go_out fd → Binds K fd ["self", "level", "number", "before", "came"] [] := fun _ F => F.binds fun _ _ _ _ _ _ us hl => match us, hl with | [_, _, _, _, _], _ => rfl
theorem b_take : ∀ fd, Fun K "take" "Ladder.take" s_take A.take fd → Binds K fd ["self", "number"] [] := fun _ F => F.binds fun _ _ _ _ _ _ us hl => match us, hl with | [_, _], _ => rfl
theorem b_cut : ∀ fd, Fun K "cut" "cut" s_cut A.cut fd → Binds K fd ["ladder", "number"] [] := fun _ F => F.binds fun _ _ _ _ _ _ us hl => match us, hl with | [_, _], _ => rfl
theorem b_poured : ∀ fd, Fun K "poured" "poured" s_poured A.poured fd → Binds K fd ["ladder", "other"] [] := fun _ F => F.binds fun _ _ _ _ _ _ us hl => match us, hl with | [_, _], _ => rfl
theorem b__law_refused : ∀ fd, Fun K "_law_refused" "_law_refused" s__law_refused A._law_refused fd → Binds K fd ["_law_ladder", "_law_other"] [] := fun _ F => F.binds fun _ _ _ _ _ _ us hl => match us, hl with | [_, _], _ => rfl
theorem b__law_ends : ∀ fd, Fun K "_law_ends" "_law_ends" s__law_ends A._law_ends fd → Binds K fd ["_law_ladder", "_law_gone"] [] := fun _ F => F.binds fun _ _ _ _ _ _ us hl => match us, hl with | [_, _], _ => rfl
theorem b__law_again : ∀ fd, Fun K "_law_again" "_law_again" s__law_again A._law_again fd → Binds K fd ["_law_ladder", "_law_row", "_law_spot"] [] := fun _ F => F.binds fun _ _ _ _ _ _ us hl => match us, hl with | [_, _, _], _ => rfl
theorem b__law_goes_on : ∀ fd, Fun K "_law_goes_on" "_law_goes_on" s__law_goes_on A._law_goes_on fd → Binds K fd ["_law_ladder", "_law_part", "_law_row", "_law_rest", "_law_spot"] [] := fun _ F => F.binds fun _ _ _ _ _ _ us hl => match us, hl with | [_, _, _, _, _], _ => rfl
theorem b__law_is_there : ∀ fd, Fun K "_law_is_there" "_law_is_there" s__law_is_there A._law_is_there fd → Binds K fd ["_law_ladder", "_law_number_here"] [] := fun _ F => F.binds fun _ _ _ _ _ _ us hl => match us, hl with | [_, _], _ => rfl
theorem b__law_by_turns : ∀ fd, Fun K "_law_by_turns" "_law_by_turns" s__law_by_turns A._law_by_turns fd → Binds K fd ["_law_ladder", "_law_row", "_law_whole", "_law_spot"] [] := fun _ F => F.binds fun _ _ _ _ _ _ us hl => match us, hl with | [_, _, _, _], _ => rfl
theorem b__law_woven : ∀ fd, Fun K "_law_woven" "_law_woven" s__law_woven A._law_woven fd → Binds K fd ["_law_row", "_law_whole", "_law_size", "_law_spot"] [] := fun _ F => F.binds fun _ _ _ _ _ _ us hl => match us, hl with | [_, _, _, _], _ => rfl
theorem b__law_half : ∀ fd, Fun K "_law_half" "_law_half" s__law_half A._law_half fd → Binds K fd ["_law_ladder", "_law_row", "_law_spot"] [] := fun _ F => F.binds fun _ _ _ _ _ _ us hl => match us, hl with | [_, _, _], _ => rfl
theorem b__law_mated : ∀ fd, Fun K "_law_mated" "_law_mated" s__law_mated A._law_mated fd → Binds K fd ["_law_other", "_law_own"] [] := fun _ F => F.binds fun _ _ _ _ _ _ us hl => match us, hl with | [_, _], _ => rfl
theorem b__law_cut : ∀ fd, Fun K "_law_cut" "_law_cut" s__law_cut A._law_cut fd → Binds K fd ["_law_ladder", "_law_row", "_law_at", "_law_spot"] [] := fun _ F => F.binds fun _ _ _ _ _ _ us hl => match us, hl with | [_, _, _, _], _ => rfl
theorem b__law_deed : ∀ fd, Fun K "_law_deed" "_law_deed" s__law_deed A._law_deed fd → Binds K fd ["_law_ladder", "_law_row", "_law_cell", "_law_limit"] [] := fun _ F => F.binds fun _ _ _ _ _ _ us hl => match us, hl with | [_, _, _, _], _ => rfl
theorem b__law_cell_at : ∀ fd, Fun K "_law_cell_at" "_law_cell_at" s__law_cell_at A._law_cell_at fd → Binds K fd ["_law_script", "_law_k"] [] := fun _ F => F.binds fun _ _ _ _ _ _ us hl => match us, hl with | [_, _], _ => rfl
theorem b__law_refused_by_any : ∀ fd, Fun K "_law_refused_by_any" "_law_refused_by_any" s__law_refused_by_any A._law_refused_by_any fd → Binds K fd ["_law_ladder", "_law_number_here"] [] := fun _ F => F.binds fun _ _ _ _ _ _ us hl => match us, hl with | [_, _], _ => rfl
theorem b_law : ∀ fd, Fun K "law" "law" s_law A.law fd → Binds K fd ["_law_script"] [] := fun _ F => F.binds fun _ _ _ _ _ _ us hl => match us, hl with | [_], _ => rfl
end
end Lk
local macro_rules | `(tactic| walk_at "go1") => `(tactic| first
  | with_reducible refine Lk.g_pr1 ?_
  | with_reducible refine Lk.g_pr2 ?_
  | with_reducible refine Lk.g_seq ?_
  | with_reducible refine Lk.g_set ?_
  | with_reducible refine Lk.g_if ?_
  | with_reducible refine Lk.g_ret ?_
  | with_reducible refine Lk.g_drop ?_
  | with_reducible refine Lk.g_next ?_
  | ((with_reducible refine Lk.g_var (v := ?v) ?e ?_); (case e => rfl))
  | with_reducible refine Lk.g_c ?_
  | with_reducible refine Lk.g_op ?_
  | with_reducible refine Lk.g_test ?_
  | with_reducible refine Lk.g_bl ?_
  | with_reducible refine Lk.g_tB ?_
  | with_reducible refine Lk.g_add ?_
  | with_reducible refine Lk.g_sub ?_
  | ((with_reducible refine Lk.g_mod ?_ ?_); first | decide | omega | assumption)
  | ((with_reducible refine Lk.g_div ?_ ?_); first | decide | omega | assumption)
  | with_reducible refine Lk.g_lt ?_
  | with_reducible refine Lk.g_le ?_
  | with_reducible refine Lk.g_gt ?_
  | with_reducible refine Lk.g_ge ?_
  | with_reducible refine Lk.g_eqI ?_
  | with_reducible refine Lk.g_neI ?_
  | with_reducible refine Lk.g_neB ?_
  | with_reducible refine Lk.g_isN ?_
  | with_reducible refine Lk.g_notN ?_
  | with_reducible refine Lk.g_cons ?_
  | with_reducible refine Lk.g_nil ?_
  | with_reducible refine Lk.g_call ?_
  | with_reducible refine Lk.g_callB ?_
  | with_reducible refine Lk.g_not ?_
  | with_reducible refine Lk.g_and ?_
  | with_reducible refine Lk.g_or ?_
  | with_reducible refine Lk.g_andV ?_
  | with_reducible refine Lk.g_orV ?_
  | with_reducible refine Lk.g_notV ?_
  | with_reducible refine Lk.g_ifE ?_
  | with_reducible refine Lk.g_max2 ?_
  | with_reducible refine Lk.g_min2 ?_
  | with_reducible refine Lk.g_for ?_
  | with_reducible refine Lk.g_rng1 ?_
  | with_reducible refine Lk.g_name _ ?_
  | with_reducible refine Lk.g_un ?_
  | with_reducible refine Lk.g_neg ?_
  | with_reducible refine Lk.g_retN ?_
  | with_reducible refine Lk.g_iL ?_
  | with_reducible refine Lk.g_append ?_
  | with_reducible refine Lk.g_lst0 ?_
  | with_reducible refine Lk.g_tup0 ?_
  | with_reducible refine Lk.g_fld0 ?_
  | with_reducible refine Lk.g_get0 ?_
  | with_reducible refine Lk.g_in0 ?_
  | with_reducible refine Lk.g_nin0 ?_
  | with_reducible refine Lk.g_meth0 ?_
  | with_reducible refine Lk.g_lc ?_
  | with_reducible refine Lk.g_yes ?_
  | with_reducible refine Lk.g_tt ?_
  | with_reducible refine Lk.g_ff ?_
  | with_reducible refine Lk.g_lrg0 ?_
  | (with_reducible refine' Lk.lad_width ?t ?x ?_; (case t => assumption); (case x => assumption))
  | (with_reducible refine' Lk.lad_high ?t ?x ?_; (case t => assumption); (case x => assumption))
  | (with_reducible refine' Lk.lad_limit ?t ?x ?_; (case t => assumption); (case x => assumption))
  | (with_reducible refine' Lk.lad_many ?t ?x ?_; (case t => assumption); (case x => assumption))
  | (with_reducible refine' Lk.lad_least ?t ?x ?_; (case t => assumption); (case x => assumption))
  | (with_reducible refine' Lk.lad_nexts ?t ?x ?_; (case t => assumption); (case x => assumption))
  | (with_reducible refine' Lk.lad_gaps ?t ?x ?_; (case t => assumption); (case x => assumption))
  | (with_reducible refine' Lk.lad_nx ?x ?hl ?_; (case x => assumption); (case hl => omega))
  | (with_reducible refine' Lk.lad_gx ?x ?hl ?_; (case x => assumption); (case hl => omega))
  | (with_reducible refine' Lk.lad_nx0 ?x ?_; (case x => assumption))
  | (with_reducible refine' Lk.lad_meth ?x ?hm ?_; (case x => assumption); (case hm => decide +kernel))
  | with_reducible refine Lk.g_put0 ?_
  | with_reducible refine Lk.g_fset0 ?_
  | with_reducible refine Lk.g_aug0 ?_
  | with_reducible refine Lk.g_asgT ?_
  | with_reducible refine Lk.g_asgS ?_
  | with_reducible refine Lk.g_gcons ?_
  | with_reducible refine Lk.g_gnil ?_
  | with_reducible refine Lk.g_methS ?_
  | with_reducible refine Lk.g_callS ?_
  | with_reducible refine Lk.g_makeS ?_
  | with_reducible refine Lk.g_make ?_
  | with_reducible refine Lk.g_pop0 ?_)
local macro_rules | `(tactic| walk_at "go") => `(tactic| repeat walk_at "go1")
local macro_rules | `(tactic| walk_at "gb") => `(tactic| repeat (first
  | walk_at "go1"
  | with_reducible refine Lk.i_t ?_
  | with_reducible refine Lk.i_f ?_
  | with_reducible refine Lk.i_nt ?_
  | with_reducible refine Lk.i_nf ?_))
local macro_rules | `(tactic| walk_at "gw") => `(tactic| repeat (first
  | with_reducible refine Lk.g_pr1 ?_
  | with_reducible refine Lk.g_pr2 ?_
  | (fail_if_success (with_reducible refine Lk.g_if ?_)); (fail_if_success (with_reducible refine Lk.g_orV ?_)); (fail_if_success (with_reducible refine Lk.g_andV ?_)); walk_at "go1"
  | with_reducible refine Lk.i_t ?_
  | with_reducible refine Lk.i_f ?_
  | with_reducible refine Lk.i_nt ?_
  | with_reducible refine Lk.i_nf ?_))

namespace Lk
open PySem PySem.Spec PyProof.Rows L2
section
variable {P : Program} {w : World} {K : PySem.W.Frag} {mg : Str → Option Value} {base : Heap} {A : Ads}
def sp_power : Sp := fun vs H Q _ => ∃ (w : Int) (l : Nat), vs = [.int w, .int (l : Int)] ∧ 2 ≤ w ∧ w ≤ 9 ∧ l ≤ 12 ∧ Q (.int (w ^ l)) H
theorem ok_power (T : Txt K mg A) : FO P w K mg base 2 A.power ["width", "level"] sp_power := by
  have S := sc_power
  refine FO.mk' T.f_power S b_power (fun vs H Q E h => by obtain ⟨_, _, rfl, _⟩ := h; rfl) (fun cdv Ar outer s H vs Q E hr h => ?_)
  have hu := hu_of hr
  obtain ⟨wd, l, rfl, h1, h2, h3, k⟩ := h
  refine ⟨_, (pss_cons (ps_set (i := 2) S.nd rfl (Or.inl rfl) pe_int)
  (pss_cons (ps_for (passes_of rfl) rfl (pi_range1 rfl T.z_range (pa_cons (pv 1) pa_nil)) (pg_name (i := 3) S.nd rfl (Or.inl rfl))
    (pss_one (ps_set (i := 2) S.nd rfl (Or.inl rfl) (pe_op o_mul (pv 2) (pv 0)))))
  (pss_one (ps_ret (pv 2))))), ?_⟩
  walk_at "go"
  refine g_rng (by omega) (by omega) ?_
  refine for_range (lo := 0) (fun i σ H' => H' = H ∧ ∃ v, σ = [some (.int wd), some (.int (l : Int)), some (.int (wd ^ i)), v]) ⟨rfl, none, by rw [Int.pow_zero]; rfl⟩ ?_ ?_
  · rintro i σ H' hi ⟨rfl, v, rfl⟩
    walk_at "go"
    refine g_mul (.inr (by omega)) ?_
    walk_at "go"
    exact ⟨rfl, _, by rw [Int.pow_succ]; rfl⟩
  · rintro σ H' ⟨rfl, v, rfl⟩
    walk_at "go"
    exact k

def sp_block : Sp := fun vs H Q _ => ∃ (w : Int) (l : Nat) (n : Int), vs = [.int w, .int (l : Int), .int n] ∧ 2 ≤ w ∧ w ≤ 9 ∧ l ≤ 12 ∧ Q (.int (n / w ^ l)) H
theorem pow_bound {w : Int} {l : Nat} (h1 : 2 ≤ w) (h2 : w ≤ 9) (h3 : l ≤ 12) : 0 < w ^ l ∧ w ^ l ≤ 282429536481 := by
  refine ⟨Int.pow_pos (by omega), ?_⟩
  obtain ⟨m, rfl⟩ : ∃ m : Nat, w = (m : Int) := ⟨w.toNat, by omega⟩
  have a : m ^ l ≤ 9 ^ l := Nat.pow_le_pow_left (by omega) l
  have b : 9 ^ l ≤ 9 ^ 12 := Nat.pow_le_pow_right (by decide) h3
  have c : 9 ^ 12 = 282429536481 := by decide
  rw [← Int.natCast_pow]
  omega
theorem ok_block (T : Txt K mg A) : FO P w K mg base 3 A.block ["width", "level", "number"] sp_block := by
  obtain ⟨fd_power, G_power, B_power⟩ := ok_power (P := P) (w := w) (base := base) T
  have S := sc_block
  refine FO.mk' T.f_block S b_block (fun vs H Q E h => by obtain ⟨_, _, _, rfl, _⟩ := h; rfl) (fun cdv Ar outer s H vs Q E hr h => ?_)
  have hu := hu_of hr
  obtain ⟨wd, l, n, rfl, h1, h2, h3, k⟩ := h
  refine ⟨_, (pss_one (ps_ret (pe_op o_div (pv 2) (pe_call G_power (hr.mono (by decide)) rfl T.g_power T.k_power B_power .nil passL (pa_cons (pv 0) (pa_cons (pv 1) pa_nil)))))), ?_⟩
  walk_at "go"
  refine ⟨wd, l, rfl, h1, h2, h3, ?_⟩
  have hp := pow_bound h1 h2 h3
  walk_at "go"
  exact k

def sp__law_cell_at (K : PySem.W.Frag) : Sp := fun vs H Q _ => ∃ (a : Addr) (k : Nat) (ns : List Int), vs = [.ref a, .int (k : Int)] ∧ SqL K H a (ns.map V.int) ∧ Q (.int (ns.getD k 0)) H
theorem ok__law_cell_at (T : Txt K mg A) : FO P w K mg base 2 A._law_cell_at ["_law_script", "_law_k"] (sp__law_cell_at K) := by
  have S := sc__law_cell_at
  refine FO.mk' T.f__law_cell_at S b__law_cell_at (fun vs H Q E h => by obtain ⟨_, _, _, rfl, _⟩ := h; rfl) (fun cdv Ar outer s H vs Q E hr h => ?_)
  have hu := hu_of hr
  obtain ⟨a, k, ns, rfl, hs, q⟩ := h
  refine ⟨_, (pss_cons (ps_if (pt_cmpR o_lt (pv 1) (pe_callB (k_len (K := K) rfl) (by rfl) T.z_len PySem.boot_len (pa_cons (pv 0) pa_nil)) (nomark _))
    (pss_one (ps_ret (pe_ix (k_ixL (K := K) rfl) (pv 0) (pv 1) (fun _ _ => rfl))))
    pss_nil)
  (pss_one (ps_ret pe_int))), ?_⟩
  walk_at "go"
  refine g_lenL hs ?_
  walk_at "go"
  refine g_ite (fun e => ?_) (fun e => ?_)
  · have e' : k < ns.length := by
      have := of_decide_eq_true e
      rw [List.length_map] at this
      omega
    walk_at "go"
    refine g_ixL hs (atI_nat (j := k) (v := .int (ns.getD k 0)) ?_) ?_
    · rw [List.getElem?_map, List.getElem?_eq_getElem e', List.getD_eq_getElem?_getD, List.getElem?_eq_getElem e']
      rfl
    · walk_at "go"
      exact q
  · have e' : ¬ k < ns.length := fun z => by
      have := of_decide_eq_false e
      rw [List.length_map] at this
      omega
    walk_at "go"
    have e2 : ns.getD k 0 = 0 := by
      rw [List.getD_eq_getElem?_getD, List.getElem?_eq_none (by omega)]
      rfl
    rw [e2] at q
    exact q


/-- on how many levels a number stands behind the next lesser one -/
def IsTall (w : Int) (h : Nat) (ob : Option Int) (n : Int) (t : Nat) : Prop := match ob with
  | none => t = h + 1
  | some b => t ≤ h + 1 ∧ (∀ l, l < t → b / w ^ l ≠ n / w ^ l) ∧ (t ≤ h → b / w ^ t = n / w ^ t)
def sp_tall : Sp := fun vs H Q _ => ∃ (w : Int) (h : Nat) (b : Option Int) (n : Int), vs = [.int w, .int (h : Int), ov b, .int n] ∧ 2 ≤ w ∧ w ≤ 9 ∧ h ≤ 12 ∧ ∀ t : Nat, IsTall w h b n t → Q (.int (t : Int)) H
theorem ok_tall (T : Txt K mg A) : FO P w K mg base 4 A.tall ["width", "high", "before", "number"] sp_tall := by
  obtain ⟨fd_block, G_block, B_block⟩ := ok_block (P := P) (w := w) (base := base) T
  have S := sc_tall
  refine FO.mk' T.f_tall S b_tall (fun vs H Q E h => by obtain ⟨_, _, _, _, rfl, _⟩ := h; rfl) (fun cdv Ar outer s H vs Q E hr h => ?_)
  have hu := hu_of hr
  obtain ⟨wd, hh, b, n, rfl, h1, h2, h3, k⟩ := h
  refine ⟨_, (pss_cons (ps_if (pt_cmpR o_isN (pv 2) pe_non (nomark _))
    (pss_one (ps_ret (pe_op o_add (pv 1) pe_int)))
    pss_nil)
  (pss_cons (ps_set (i := 4) S.nd rfl (Or.inl rfl) pe_int)
  (pss_cons (ps_while (passes_of rfl) (PW.pt (pw_and (pt_cmpR o_le (pv 4) (pv 1) (nomark _)) (pw_and1 (pt_cmpR op_ne (pe_call G_block (hr.mono (by decide)) rfl T.g_block T.k_block B_block .nil passL (pa_cons (pv 0) (pa_cons (pv 4) (pa_cons (pv 2) pa_nil)))) (pe_call G_block (hr.mono (by decide)) rfl T.g_block T.k_block B_block .nil passL (pa_cons (pv 0) (pa_cons (pv 4) (pa_cons (pv 3) pa_nil)))) (nomark _)))))
    (pss_one (ps_set (i := 4) S.nd rfl (Or.inl rfl) (pe_op o_add (pv 4) pe_int))))
  (pss_one (ps_ret (pv 4)))))), ?_⟩
  walk_at "go"
  cases b with
  | none =>
    refine g_iteT rfl ?_
    walk_at "go"
    exact k (hh + 1) rfl
  | some b =>
    refine g_iteF rfl ?_
    walk_at "go"
    refine g_while (fun m σ H' => H' = H ∧ ∃ lev : Nat, m = hh + 1 - lev ∧ lev ≤ hh + 1 ∧ (∀ l, l < lev → b / wd ^ l ≠ n / wd ^ l) ∧ σ = [some (.int wd), some (.int (hh : Int)), some (.int b), some (.int n), some (.int (lev : Int))])
      (hh + 1) ⟨rfl, 0, by omega, by omega, (fun l hl => absurd hl (Nat.not_lt_zero l)), rfl⟩ ?_
    rintro m σ H' ⟨rfl, lev, rfl, hl, hne, rfl⟩
    walk_at "go"
    refine g_ite (fun e => ?_) (fun e => ?_)
    · have e' : lev ≤ hh := by have := of_decide_eq_true e; omega
      walk_at "go"
      refine ⟨wd, lev, b, rfl, h1, h2, by omega, ?_⟩
      walk_at "go"
      refine ⟨wd, lev, n, rfl, h1, h2, by omega, ?_⟩
      walk_at "go"
      refine g_ite (fun e2 => ?_) (fun e2 => ?_)
      · have e3 : b / wd ^ lev ≠ n / wd ^ lev := by simpa using e2
        refine g_body ?_
        walk_at "go"
        refine ⟨hh + 1 - (lev + 1), by omega, rfl, lev + 1, rfl, by omega, fun l hl2 => ?_, rfl⟩
        by_cases q : l = lev
        · rw [q]; exact e3
        · exact hne l (by omega)
      · have e3 : b / wd ^ lev = n / wd ^ lev := by simpa using e2
        walk_at "go"
        exact k lev ⟨by omega, hne, fun _ => e3⟩
    · have e' : ¬ lev ≤ hh := by have := of_decide_eq_false e; omega
      walk_at "go"
      exact k lev ⟨by omega, hne, fun q => absurd q e'⟩


end
end Lk

namespace Lk
open PySem PySem.Spec PyProof.Rows L2
section
variable {P : Program} {w : World} {K : PySem.W.Frag} {mg : Str → Option Value} {base : Heap} {A : Ads}
def sp_need (O : Addr) : Sp := fun vs H Q E => ∃ (p : Addr) (n m : Int), vs = [.ref p, .int n, .int m] ∧ (0 ≤ n → n ≤ m → Q .non H) ∧ (¬ (0 ≤ n ∧ n ≤ m) → E (.ref O) none H)
theorem ok_need (T : Txt K mg A) : FO P w K mg base 2 A.need ["self", "number", "most"] (sp_need A.OutOfRange) := by
  have S := sc_need
  refine FO.mk' T.f_need S b_need (fun vs H Q E h => by obtain ⟨_, _, _, rfl, _⟩ := h; rfl) (fun cdv Ar outer s H vs Q E hr h => ?_)
  have hu := hu_of hr
  obtain ⟨p, n, m, rfl, k1, k2⟩ := h
  refine ⟨_, (pss_one (ps_if (PW.pt (pw_or (pt_cmpR o_lt (pv 1) pe_int (nomark _)) (pw_or1 (pt_cmpR o_gt (pv 1) (pv 2) (nomark _)))))
    (pss_one (ps_raise rfl (takes_of rfl rfl rfl rfl) (pmk_own PySem.F.excBase_ValueError T.x_OutOfRange.x T.x_OutOfRange.g T.x_OutOfRange.k (raises_own T.x_OutOfRange.b T.x_OutOfRange.t) rfl)))
    pss_nil)), ?_⟩
  walk_at "go"
  refine g_ite (fun e => ?_) (fun e => ?_)
  · walk_at "go"
    exact k2 (by have := of_decide_eq_true e; omega)
  · walk_at "go"
    refine g_ite (fun e2 => ?_) (fun e2 => ?_)
    · exact k2 (by have := of_decide_eq_true e2; omega)
    · walk_at "go"
      have := of_decide_eq_false e
      have := of_decide_eq_false e2
      exact k1 (by omega) (by omega)

def sp_need_level (C O : Addr) : Sp := fun vs H Q E => ∃ (p : Addr) (n : Int) (L : LS) (S : List Int), vs = [.ref p, .int n] ∧ Lad C H p L S ∧ (∀ l : Nat, n = (l : Int) → l ≤ L.h → Q .non H) ∧ (¬ (0 ≤ n ∧ n ≤ (L.h : Int)) → E (.ref O) none H)
theorem ok_need_level (T : Txt K mg A) : FO P w K mg base 2 A.need_level ["self", "level"] (sp_need_level A.Ladder A.NoLevel) := by
  have S := sc_need_level
  refine FO.mk' T.f_need_level S b_need_level (fun vs H Q E h => by obtain ⟨_, _, _, _, rfl, _⟩ := h; rfl) (fun cdv Ar outer s H vs Q E hr h => ?_)
  have hu := hu_of hr
  obtain ⟨p, n, L, S0, rfl, Ld, k1, k2⟩ := h
  have X := Ld.toLadX
  have lt := T.lt
  refine ⟨_, (pss_one (ps_if (PW.pt (pw_or (pt_cmpR o_lt (pv 1) pe_int (nomark _)) (pw_or1 (pt_cmpR o_gt (pv 1) (k_fld (K := K) rfl (pv 0) rfl) (nomark _)))))
    (pss_one (ps_raise rfl (takes_of rfl rfl rfl rfl) (pmk_own PySem.F.excBase_ValueError T.x_NoLevel.x T.x_NoLevel.g T.x_NoLevel.k (raises_own T.x_NoLevel.b T.x_NoLevel.t) rfl)))
    pss_nil)), ?_⟩
  walk_at "go"
  refine g_ite (fun e => ?_) (fun e => ?_)
  · walk_at "go"
    exact k2 (by have := of_decide_eq_true e; omega)
  · walk_at "go"
    refine g_ite (fun e2 => ?_) (fun e2 => ?_)
    · exact k2 (by have := of_decide_eq_true e2; omega)
    · walk_at "go"
      have := of_decide_eq_false e
      have := of_decide_eq_false e2
      exact k1 n.toNat (by omega) (by omega)

def sp_has (C O : Addr) : Sp := fun vs H Q E => ∃ (p : Addr) (n : Int) (L : LS) (S : List Int), vs = [.ref p, .int n] ∧ Lad C H p L S ∧ (0 ≤ n → n < L.w ^ L.h → Q (.bl (decide (n ∈ S))) H) ∧ (¬ (0 ≤ n ∧ n < L.w ^ L.h) → E (.ref O) none H)
theorem ok_has (T : Txt K mg A) : FO P w K mg base 3 A.has ["self", "number"] (sp_has A.Ladder A.OutOfRange) := by
  obtain ⟨fd_need, G_need, B_need⟩ := ok_need (P := P) (w := w) (base := base) T
  have S := sc_has
  refine FO.mk' T.f_has S b_has (fun vs H Q E h => by obtain ⟨_, _, _, _, rfl, _⟩ := h; rfl) (fun cdv Ar outer s H vs Q E hr h => ?_)
  have hu := hu_of hr
  obtain ⟨p, n, L, S0, rfl, Ld, k1, k2⟩ := h
  have X := Ld.toLadX
  have lt := T.lt
  refine ⟨_, (pss_cons (ps_expr (pe_meth (pv 0) T.lt.cl T.m_need G_need (hr.mono (by decide)) B_need .nil (passes_call (takes_of rfl rfl rfl rfl) (fun _ _ _ _ z => z)) (pa_cons (pv 1) (pa_cons (pe_op o_sub (k_fld (K := K) rfl (pv 0) rfl) pe_int) pa_nil))))
  (pss_one (ps_ret (pe_cmp (pc_din hu (pv 1) (pe_ix (k_ixL (K := K) rfl) (k_fld (K := K) rfl (pv 0) rfl) pe_int (fun _ _ => rfl))))))), ?_⟩
  walk_at "go"
  refine ⟨p, n, _, rfl, fun h1 h2 => ?_, fun q => k2 (by omega)⟩
  walk_at "go"
  refine g_diIn (X.dn 0 (Nat.zero_le _)) ?_
  rw [nV_some, Int.pow_zero, decide_eq_decide.mpr st_one]
  exact k1 h1 (by omega)

def sp_level_row (C : Addr) : Sp := fun vs H Q _ => ∃ (p : Addr) (l : Nat) (L : LS) (S : List Int), vs = [.ref p, .int (l : Int)] ∧ Lad C H p L S ∧ l ≤ L.h ∧ ∀ q H', H q = none → Same H H' → H' q = some (.lst ((Sk.lv (L.w ^ l) S).map V.int)) → Q (.ref q) H'
theorem ok_level_row (T : Txt K mg A) : FO P w K mg base 2 A.level_row ["ladder", "level"] (sp_level_row A.Ladder) := by
  have S := sc_level_row
  refine FO.mk' T.f_level_row S b_level_row (fun vs H Q E h => by obtain ⟨_, _, _, _, rfl, _⟩ := h; rfl) (fun cdv Ar outer s H vs Q E hr h => ?_)
  have hu := hu_of hr
  obtain ⟨p, l, L, S0, rfl, Ld, hl, k⟩ := h
  have lt := T.lt
  have hp := (pow_ok Ld.ok hl).1
  refine ⟨_, (pss_cons (ps_set (i := 2) S.nd rfl (Or.inl rfl) (pe_lst pa_nil))
  (pss_cons (ps_set (i := 3) S.nd rfl (Or.inl rfl) (k_fld (K := K) rfl (pv 0) rfl))
  (pss_cons (ps_while (passes_of rfl) (pt_cmpR o_notN (pv 3) pe_non (nomark _))
    (pss_cons (ps_expr (pe_bm PySem.F.plainAttrs_list PySem.F.slot_list_append PySem.F.type_list_append mt_append (pv 2) (pa_cons (pv 3) pa_nil)))
    (pss_one (ps_set (i := 3) S.nd rfl (Or.inl rfl) (pe_dget hu (pe_ix (k_ixL (K := K) rfl) (k_fld (K := K) rfl (pv 0) rfl) (pv 1) (fun _ _ => rfl)) (pv 3) (fun _ _ => rfl))))))
  (pss_one (ps_ret (pv 2)))))), ?_⟩
  walk_at "go"
  refine g_newL (by decide) fun q H1 nq s1 e1 => ?_
  have X1 := (Ld.same s1).toLadX
  walk_at "go"
  refine g_while (fun m σ H' => Same H H' ∧ ∃ o : Option Int, σ = [some (.ref p), some (.int (l : Int)), some (.ref q), some (ov o)] ∧ (match o with
      | some x => Sk.St (L.w ^ l) S0 x ∧ m = Sk.up S0 x + 1 ∧ H' q = some (.lst (((Sk.lv (L.w ^ l) S0).filter fun z => decide (z < x)).map V.int))
      | none => m = 0 ∧ H' q = some (.lst ((Sk.lv (L.w ^ l) S0).map V.int)))) (match S0.head? with | some x => Sk.up S0 x + 1 | none => 0) ⟨s1, S0.head?, rfl, ?_⟩ ?_
  · cases e : S0.head? with
    | none =>
      have := Sk.head_nil e
      subst this
      exact ⟨rfl, e1⟩
    | some x => exact ⟨Sk.st_least Ld.srt e, rfl, by rw [Sk.lv_first Ld.srt e]; exact e1⟩
  · rintro m σ H' ⟨s2, o, rfl, ho⟩
    have X2 := (Ld.same s2).toLadX
    walk_at "go"
    cases o with
    | none =>
      refine g_iteF rfl ?_
      walk_at "go"
      exact k q H' nq s2 ho.2
    | some x =>
      obtain ⟨hx, rfl, e2⟩ := ho
      have hlen : ((Sk.lv (L.w ^ l) S0).filter fun z => decide (z < x)).length ≤ 100 := Nat.le_trans (List.length_filter_le _ _) (Nat.le_trans Sk.lv_len Ld.len)
      refine g_iteT rfl ?_
      refine g_body ?_
      walk_at "go"
      refine ⟨ty_lst e2, ?_⟩
      walk_at "go"
      refine g_app e2 (by rw [List.length_map]; omega) ?_
      have s3 := same_mut (o := .lst (((Sk.lv (L.w ^ l) S0).filter fun z => decide (z < x)).map V.int ++ [ov (some x)])) s2 nq
      have X3 := (Ld.same s3).toLadX
      walk_at "go"
      refine lad_dn X3 hl (nA_of hx) ?_
      walk_at "go"
      cases e : Sk.nx (L.w ^ l) S0 x with
      | none =>
        refine ⟨0, by omega, s3, none, rfl, rfl, ?_⟩
        have q2 := congrArg (List.map V.int) (Sk.lv_stop hp Ld.srt hx e)
        rw [List.map_append] at q2
        rw [upd_same, q2]
        rfl
      | some y =>
        have hy := Sk.st_nx hp Ld.srt e
        refine ⟨Sk.up S0 y + 1, by have := Sk.up_lt hy.1 (Sk.nx_lt hp Ld.srt e); omega, s3, some y, rfl, hy, rfl, ?_⟩
        rw [upd_same, Sk.lv_step hp Ld.srt hx e, List.map_append] <;> rfl

def sp_level (C O : Addr) : Sp := fun vs H Q E => ∃ (p : Addr) (n : Int) (L : LS) (S : List Int), vs = [.ref p, .int n] ∧ Lad C H p L S ∧ (∀ l : Nat, n = (l : Int) → l ≤ L.h → ∀ q H', H q = none → Same H H' → H' q = some (.lst ((Sk.lv (L.w ^ l) S).map V.int)) → Q (.ref q) H') ∧ (¬ (0 ≤ n ∧ n ≤ (L.h : Int)) → E (.ref O) none H)
theorem ok_level (T : Txt K mg A) : FO P w K mg base 3 A.level ["self", "level"] (sp_level A.Ladder A.NoLevel) := by
  obtain ⟨fd_need_level, G_need_level, B_need_level⟩ := ok_need_level (P := P) (w := w) (base := base) T
  obtain ⟨fd_level_row, G_level_row, B_level_row⟩ := ok_level_row (P := P) (w := w) (base := base) T
  have S := sc_level
  refine FO.mk' T.f_level S b_level (fun vs H Q E h => by obtain ⟨_, _, _, _, rfl, _⟩ := h; rfl) (fun cdv Ar outer s H vs Q E hr h => ?_)
  have hu := hu_of hr
  obtain ⟨p, n, L, S0, rfl, Ld, k1, k2⟩ := h
  have X := Ld.toLadX
  have lt := T.lt
  refine ⟨_, (pss_cons (ps_expr (pe_meth (pv 0) T.lt.cl T.m_need_level G_need_level (hr.mono (by decide)) B_need_level .nil (passes_call (takes_of rfl rfl rfl rfl) (fun _ _ _ _ z => z)) (pa_cons (pv 1) pa_nil)))
  (pss_one (ps_ret (pe_call G_level_row (hr.mono (by decide)) rfl T.g_level_row T.k_level_row B_level_row .nil passL (pa_cons (pv 0) (pa_cons (pv 1) pa_nil)))))), ?_⟩
  walk_at "go"
  refine ⟨p, n, L, S0, rfl, Ld, fun l e hl => ?_, k2⟩
  subst e
  walk_at "go"
  exact ⟨p, l, L, S0, rfl, Ld, hl, k1 l rfl hl⟩

theorem lv_one {S : List Int} : Sk.lv 1 S = S := by
  unfold Sk.lv
  rw [List.filter_eq_self]
  intro z hz
  exact decide_eq_true (st_one.mpr hz)
def sp_row (C : Addr) : Sp := fun vs H Q _ => ∃ (p : Addr) (L : LS) (S : List Int), vs = [.ref p] ∧ Lad C H p L S ∧ ∀ q H', H q = none → Same H H' → H' q = some (.lst (S.map V.int)) → Q (.ref q) H'
theorem ok_row (T : Txt K mg A) : FO P w K mg base 3 A.row ["self"] (sp_row A.Ladder) := by
  obtain ⟨fd_level_row, G_level_row, B_level_row⟩ := ok_level_row (P := P) (w := w) (base := base) T
  have S := sc_row
  refine FO.mk' T.f_row S b_row (fun vs H Q E h => by obtain ⟨_, _, _, rfl, _⟩ := h; rfl) (fun cdv Ar outer s H vs Q E hr h => ?_)
  have hu := hu_of hr
  obtain ⟨p, L, S0, rfl, Ld, k⟩ := h
  have X := Ld.toLadX
  have lt := T.lt
  refine ⟨_, (pss_one (ps_ret (pe_call G_level_row (hr.mono (by decide)) rfl T.g_level_row T.k_level_row B_level_row .nil passL (pa_cons (pv 0) (pa_cons pe_int pa_nil))))), ?_⟩
  walk_at "go"
  refine ⟨p, 0, L, S0, rfl, Ld, Nat.zero_le _, fun q H' hq s e => ?_⟩
  rw [Int.pow_zero, lv_one] at e
  exact k q H' hq s e

def sp_ahead (C ON OM : Addr) : Sp := fun vs H Q E => ∃ (p : Addr) (n k : Int) (L : LS) (S : List Int), vs = [.ref p, .int n, .int k] ∧ Lad C H p L S ∧
  (∀ l : Nat, n = (l : Int) → l ≤ L.h → Sk.St (L.w ^ l) S k → ∀ t H', H t = none → Same H H' → H' t = some (.tup [ov (Sk.nx (L.w ^ l) S k), .int (Sk.gp (L.w ^ l) S k)]) → Q (.ref t) H') ∧
  (∀ l : Nat, n = (l : Int) → l ≤ L.h → ¬ Sk.St (L.w ^ l) S k → E (.ref OM) none H) ∧ (¬ (0 ≤ n ∧ n ≤ (L.h : Int)) → E (.ref ON) none H)
theorem ok_ahead (T : Txt K mg A) : FO P w K mg base 3 A.ahead ["self", "level", "number"] (sp_ahead A.Ladder A.NoLevel A.Missing) := by
  obtain ⟨fd_need_level, G_need_level, B_need_level⟩ := ok_need_level (P := P) (w := w) (base := base) T
  have S := sc_ahead
  refine FO.mk' T.f_ahead S b_ahead (fun vs H Q E h => by obtain ⟨_, _, _, _, _, rfl, _⟩ := h; rfl) (fun cdv Ar outer s H vs Q E hr h => ?_)
  have hu := hu_of hr
  obtain ⟨p, n, x, L, S0, rfl, Ld, k1, k2, k3⟩ := h
  have X := Ld.toLadX
  have lt := T.lt
  refine ⟨_, (pss_cons (ps_expr (pe_meth (pv 0) T.lt.cl T.m_need_level G_need_level (hr.mono (by decide)) B_need_level .nil (passes_call (takes_of rfl rfl rfl rfl) (fun _ _ _ _ z => z)) (pa_cons (pv 1) pa_nil)))
  (pss_cons (ps_if (pt_cmp (pc_dnotin hu (pv 2) (pe_ix (k_ixL (K := K) rfl) (k_fld (K := K) rfl (pv 0) rfl) (pv 1) (fun _ _ => rfl))))
    (pss_one (ps_raise rfl (takes_of rfl rfl rfl rfl) (pmk_own PySem.F.excBase_ValueError T.x_Missing.x T.x_Missing.g T.x_Missing.k (raises_own T.x_Missing.b T.x_Missing.t) rfl)))
    pss_nil)
  (pss_one (ps_ret (pe_tup (pa_cons (pe_dget hu (pe_ix (k_ixL (K := K) rfl) (k_fld (K := K) rfl (pv 0) rfl) (pv 1) (fun _ _ => rfl)) (pv 2) (fun _ _ => rfl)) (pa_cons (pe_dget hu (pe_ix (k_ixL (K := K) rfl) (k_fld (K := K) rfl (pv 0) rfl) (pv 1) (fun _ _ => rfl)) (pv 2) (fun _ _ => rfl)) pa_nil))))))), ?_⟩
  walk_at "go"
  refine ⟨p, n, L, S0, rfl, Ld, fun l e hl => ?_, k3⟩
  subst e
  walk_at "go"
  refine g_diNin (X.dn l hl) ?_
  rw [nV_some]
  walk_at "go"
  refine g_ite (fun e => ?_) (fun e => ?_)
  · walk_at "go"
    exact k2 l rfl hl (by simpa using e)
  · have hx : Sk.St (L.w ^ l) S0 x := by simpa using e
    walk_at "go"
    refine lad_dn X hl (nA_of hx) ?_
    walk_at "go"
    refine lad_dg X hl (gA_of hx) ?_
    walk_at "go"
    exact g_newT (by show 2 ≤ 1000; decide) fun t H' ht s e => k1 l rfl hl hx t H' ht s e

def bfL (L : LS) (S : List Int) (n : Int) : List V := (List.range (L.h + 1)).map fun j => ov (Sk.bf (L.w ^ j) S n)
def plL (L : LS) (S : List Int) (n : Int) : List V := (List.range (L.h + 1)).map fun j => V.int (Sk.pl (L.w ^ j) S n : Nat)
def bfR (L : LS) (S : List Int) (n : Int) (r : Nat) : List V := (List.range (L.h + 1)).map fun j => if r ≤ j then ov (Sk.bf (L.w ^ j) S n) else .non
def plR (L : LS) (S : List Int) (n : Int) (r : Nat) : List V := (List.range (L.h + 1)).map fun j => if r ≤ j then V.int (Sk.pl (L.w ^ j) S n : Nat) else .int 0
def sp_nearest (C : Addr) : Sp := fun vs H Q _ => ∃ (p : Addr) (n : Int) (L : LS) (S : List Int), vs = [.ref p, .int n] ∧ Lad C H p L S ∧
  ∀ t b q H', Same H H' → H t = none → H b = none → H q = none → H' t = some (.tup [.ref b, .ref q]) → H' b = some (.lst (bfL L S n)) → H' q = some (.lst (plL L S n)) → Q (.ref t) H'
theorem bfR_set {L : LS} {S : List Int} {n : Int} {r : Nat} (h : r ≤ L.h) : (bfR L S n (r + 1)).set r (ov (Sk.bf (L.w ^ r) S n)) = bfR L S n r := by
  unfold bfR
  rw [set_map (by omega)]
  refine List.map_congr_left fun j hj => ?_
  by_cases e : j = r
  · subst e; rw [if_pos rfl, if_pos (Nat.le_refl _)]
  · rw [if_neg e]
    by_cases q : r ≤ j
    · rw [if_pos (by omega), if_pos q]
    · rw [if_neg (by omega), if_neg q]
theorem plR_set {L : LS} {S : List Int} {n : Int} {r : Nat} (h : r ≤ L.h) : (plR L S n (r + 1)).set r (.int (Sk.pl (L.w ^ r) S n : Nat)) = plR L S n r := by
  unfold plR
  rw [set_map (by omega)]
  refine List.map_congr_left fun j hj => ?_
  by_cases e : j = r
  · subst e; rw [if_pos rfl, if_pos (Nat.le_refl _)]
  · rw [if_neg e]
    by_cases q : r ≤ j
    · rw [if_pos (by omega), if_pos q]
    · rw [if_neg (by omega), if_neg q]
theorem ok_nearest (T : Txt K mg A) : FO P w K mg base 2 A.nearest ["ladder", "number"] (sp_nearest A.Ladder) := by
  have S := sc_nearest
  refine FO.mk' T.f_nearest S b_nearest (fun vs H Q E h => by obtain ⟨_, _, _, _, rfl, _⟩ := h; rfl) (fun cdv Ar outer s H vs Q E hr h => ?_)
  have hu := hu_of hr
  obtain ⟨p, n, L, S0, rfl, Ld, k⟩ := h
  have X := Ld.toLadX
  have lt := T.lt
  have hh := Ld.ok.h2
  have hs := Ld.srt
  refine ⟨_, (pss_cons (ps_setLc (i := 2) (own := [("level", 6)]) (g := gName 6) (tt := tYes) rfl S.nd rfl rfl (sw_true rfl rfl rfl (by decide +kernel)) (pi_range1 rfl T.z_range (pa_cons (pe_op o_add (k_fld (K := K) rfl (pv 0) rfl) pe_int) pa_nil)) (blkOk_by (N := N_nearest) (sc := defScope s_nearest) (by decide +kernel)) (fun _ _ _ _ _ => pg_name (i := 6) S.nd rfl (Or.inl rfl)) (fun _ _ _ _ _ => pts_nil) (fun _ _ _ _ _ => pe_non))
  (pss_cons (ps_setLc (i := 3) (own := [("level", 6)]) (g := gName 6) (tt := tYes) rfl S.nd rfl rfl (sw_true rfl rfl rfl (by decide +kernel)) (pi_range1 rfl T.z_range (pa_cons (pe_op o_add (k_fld (K := K) rfl (pv 0) rfl) pe_int) pa_nil)) (blkOk_by (N := N_nearest) (sc := defScope s_nearest) (by decide +kernel)) (fun _ _ _ _ _ => pg_name (i := 6) S.nd rfl (Or.inl rfl)) (fun _ _ _ _ _ => pts_nil) (fun _ _ _ _ _ => pe_int))
  (pss_cons (ps_if (PW.pt (pw_or (pt_cmpR o_isN (k_fld (K := K) rfl (pv 0) rfl) pe_non (nomark _)) (pw_or1 (pt_cmpR o_ge (k_fld (K := K) rfl (pv 0) rfl) (pv 1) (nomark _)))))
    (pss_one (ps_ret (pe_tup (pa_cons (pv 2) (pa_cons (pv 3) pa_nil)))))
    pss_nil)
  (pss_cons (ps_set (i := 4) S.nd rfl (Or.inl rfl) (k_fld (K := K) rfl (pv 0) rfl))
  (pss_cons (ps_set (i := 5) S.nd rfl (Or.inl rfl) pe_int)
  (pss_cons (ps_set (i := 6) S.nd rfl (Or.inl rfl) (k_fld (K := K) rfl (pv 0) rfl))
  (pss_cons (ps_while (passes_of rfl) (pt_cmpR o_ge (pv 6) pe_int (nomark _))
    (pss_cons (ps_set (i := 7) S.nd rfl (Or.inl rfl) (pe_dget hu (pe_ix (k_ixL (K := K) rfl) (k_fld (K := K) rfl (pv 0) rfl) (pv 6) (fun _ _ => rfl)) (pv 4) (fun _ _ => rfl)))
    (pss_one (ps_if (PW.pt (pw_and (pt_cmpR o_notN (pv 7) pe_non (nomark _)) (pw_and1 (pt_cmpR o_lt (pv 7) (pv 1) (nomark _)))))
      (pss_cons (ps_set (i := 5) S.nd rfl (Or.inl rfl) (pe_op o_add (pv 5) (pe_dget hu (pe_ix (k_ixL (K := K) rfl) (k_fld (K := K) rfl (pv 0) rfl) (pv 6) (fun _ _ => rfl)) (pv 4) (fun _ _ => rfl))))
      (pss_one (ps_set (i := 4) S.nd rfl (Or.inl rfl) (pv 7))))
      (pss_cons (ps_asg (pv 4) (pg_sub (pv 2) (pv 6) set_list))
      (pss_cons (ps_asg (pv 5) (pg_sub (pv 3) (pv 6) set_list))
      (pss_one (ps_set (i := 6) S.nd rfl (Or.inl rfl) (pe_op o_sub (pv 6) pe_int)))))))))
  (pss_one (ps_ret (pe_tup (pa_cons (pv 2) (pa_cons (pv 3) pa_nil)))))))))))), ?_⟩
  walk_at "go"
  refine g_rng (by omega) (by omega) ?_
  rw [show ((L.h : Int) + 1).toNat = L.h + 1 by omega]
  refine g_lcR (fun i => (List.range i).map fun _ => V.non) rfl ?_ ?_
  · intro D i H' hD hi s e
    walk_at "go"
    refine ⟨rfl, ?_⟩
    walk_at "go"
    exact g_add1 hD s e (by simp; omega) (by rw [List.range_succ, List.map_append]; rfl)
  intro b H1 nb s1 e1
  have X1 := (Ld.same s1).toLadX
  walk_at "go"
  refine g_rng (by omega) (by omega) ?_
  rw [show ((L.h : Int) + 1).toNat = L.h + 1 by omega]
  refine g_lcR (fun i => (List.range i).map fun _ => V.int 0) rfl ?_ ?_
  · intro D i H' hD hi s e
    walk_at "go"
    refine ⟨rfl, ?_⟩
    walk_at "go"
    exact g_add1 hD s e (by simp; omega) (by rw [List.range_succ, List.map_append]; rfl)
  intro q H2 nq1 s2' e2
  have nq := s1.free nq1
  have s2 : Same H H2 := s1.trans s2'
  have X2 := (Ld.same s2).toLadX
  have e1' := s2' _ _ e1
  have nbq : b ≠ q := ne_of_none e1 nq1
  have E1 : H2 b = some (.lst (bfR L S0 n (L.h + 1))) := by
    rw [e1']
    refine congrArg (fun z => some (HO.lst z)) (List.map_congr_left fun j hj => ?_)
    have := List.mem_range.mp hj
    rw [if_neg (by omega)]
  have E2 : H2 q = some (.lst (plR L S0 n (L.h + 1))) := by
    rw [e2]
    refine congrArg (fun z => some (HO.lst z)) (List.map_congr_left fun j hj => ?_)
    have := List.mem_range.mp hj
    rw [if_neg (by omega)]
  have none_ : (∀ z ∈ S0, n ≤ z) → dNewT [.ref b, .ref q] H2 Q := fun hz =>
    g_newT (by show 2 ≤ 1000; decide) fun t H' ht s e => k t b q H' (s2.trans s) (s2.free ht) nb nq e (by
      rw [s _ _ e1']
      refine congrArg (fun z => some (HO.lst z)) (List.map_congr_left fun j hj => ?_)
      rw [Sk.bf_empty hz]
      rfl) (by
      rw [s _ _ e2]
      refine congrArg (fun z => some (HO.lst z)) (List.map_congr_left fun j hj => ?_)
      unfold Sk.pl
      rw [Sk.bf_empty hz]
      rfl)
  walk_at "go"
  cases eh : S0.head? with
  | none =>
    have := Sk.head_nil eh
    subst this
    refine g_iteT rfl ?_
    walk_at "go"
    exact none_ fun z hz => nomatch hz
  | some a =>
    rw [eh] at X2
    refine g_iteF rfl ?_
    walk_at "go"
    refine g_ge ?_
    walk_at "go"
    refine g_ite (fun e => ?_) (fun e => ?_)
    · have e' := of_decide_eq_true e
      walk_at "go"
      exact none_ fun z hz => by have := Sk.head_le hs eh z hz; omega
    have an : a < n := by have := of_decide_eq_false e; omega
    walk_at "go"
    refine g_while (fun m σ H' => ∃ (r : Nat) (at_ pl_ : Int) (lt_ : Option V), σ = [some (.ref p), some (.int n), some (.ref b), some (.ref q), some (.int at_), some (.int pl_), some (.int ((r : Int) - 1)), lt_] ∧ r ≤ L.h + 1 ∧ Same H H' ∧
        H' b = some (.lst (bfR L S0 n r)) ∧ H' q = some (.lst (plR L S0 n r)) ∧ (0 < r → Sk.St (L.w ^ (r - 1)) S0 at_ ∧ at_ < n ∧ pl_ = (Sk.rk S0 at_ : Int)) ∧ m = r + Sk.up S0 at_)
      (L.h + 1 + Sk.up S0 a) ⟨L.h + 1, a, 0, none, ?_, Nat.le_refl _, s2, E1, E2, fun _ => ⟨Sk.st_least hs eh, an, by rw [Sk.rk_least hs eh]; rfl⟩, rfl⟩ ?_
    · rw [show ((L.h + 1 : Nat) : Int) - 1 = (L.h : Int) by omega]
      rfl
    rintro m σ H' ⟨r, at_, pl_, lt_, rfl, hr1, s3, eb, eq, hat, rfl⟩
    have X3 := (Ld.same s3).toLadX
    walk_at "go"
    cases r with
    | zero =>
      refine g_iteF (by simp) ?_
      walk_at "go"
      exact g_newT (by show 2 ≤ 1000; decide) fun t H4 ht s e => k t b q H4 (s3.trans s) (s3.free ht) nb nq e (by
        rw [s _ _ eb]
        exact congrArg (fun z => some (HO.lst z)) (List.map_congr_left fun j hj => if_pos (Nat.zero_le _))) (by
        rw [s _ _ eq]
        exact congrArg (fun z => some (HO.lst z)) (List.map_congr_left fun j hj => if_pos (Nat.zero_le _)))
    | succ l =>
      obtain ⟨hst, hlt, rfl⟩ := hat (Nat.succ_pos _)
      rw [Nat.add_sub_cancel] at hst
      have hl : l ≤ L.h := by omega
      have hp := (pow_ok Ld.ok hl).1
      rw [show ((l + 1 : Nat) : Int) - 1 = (l : Int) by omega]
      refine g_iteT (decide_eq_true (by omega)) ?_
      refine g_body ?_
      walk_at "go"
      refine lad_dn X3 hl (nA_of hst) ?_
      walk_at "go"
      have down : (∀ y, Sk.nx (L.w ^ l) S0 at_ = some y → n ≤ y) → ∀ lv : Option V, ∃ m', m' < l + 1 + Sk.up S0 at_ ∧ ∃ (r : Nat) (at2 pl2 : Int) (lt2 : Option V), ([some (.ref p), some (.int n), some (.ref b), some (.ref q), some (.int at_), some (.int (Sk.rk S0 at_ : Int)), some (.int ((l : Int) - 1)), lv] : L2.St) = [some (.ref p), some (.int n), some (.ref b), some (.ref q), some (.int at2), some (.int pl2), some (.int ((r : Int) - 1)), lt2] ∧ r ≤ L.h + 1 ∧
          Same H (upd (upd H' b (.lst ((bfR L S0 n (l + 1)).set l (.int at_)))) q (.lst ((plR L S0 n (l + 1)).set l (.int (Sk.rk S0 at_ : Int))))) ∧
          (upd (upd H' b (.lst ((bfR L S0 n (l + 1)).set l (.int at_)))) q (.lst ((plR L S0 n (l + 1)).set l (.int (Sk.rk S0 at_ : Int))))) b = some (.lst (bfR L S0 n r)) ∧
          (upd (upd H' b (.lst ((bfR L S0 n (l + 1)).set l (.int at_)))) q (.lst ((plR L S0 n (l + 1)).set l (.int (Sk.rk S0 at_ : Int))))) q = some (.lst (plR L S0 n r)) ∧ (0 < r → Sk.St (L.w ^ (r - 1)) S0 at2 ∧ at2 < n ∧ pl2 = (Sk.rk S0 at2 : Int)) ∧ m' = r + Sk.up S0 at2 := fun hn lv => by
        have hb := Sk.bf_of hp hs hst hlt hn
        refine ⟨l + Sk.up S0 at_, by omega, l, at_, _, lv, rfl, by omega, same_mut (same_mut s3 nb) nq, ?_, ?_, fun h0 => ⟨?_, hlt, rfl⟩, rfl⟩
        · rw [upd_ne nbq, upd_same, ← bfR_set hl, hb]
          rfl
        · rw [upd_same, ← plR_set hl]
          unfold Sk.pl
          rw [hb]
        · have e5 : L.w ^ l = L.w ^ (l - 1) * L.w := by
            obtain ⟨d, rfl⟩ : ∃ d, l = d + 1 := ⟨l - 1, by omega⟩
            rw [Nat.add_sub_cancel, Int.pow_succ]
          rw [e5] at hst
          exact Sk.st_down (pow_ok Ld.ok (l := l - 1) (by omega)).1 hst
      cases enx : Sk.nx (L.w ^ l) S0 at_ with
      | none =>
        refine g_iteF rfl ?_
        walk_at "go"
        refine g_setL eb (by unfold bfR; simp; omega) ?_
        walk_at "go"
        refine g_setL (by rw [upd_ne (Ne.symm nbq)]; exact eq) (by unfold plR; simp; omega) ?_
        walk_at "go"
        exact down (fun y hy => by rw [enx] at hy; cases hy) _
      | some y =>
        refine g_iteT rfl ?_
        walk_at "go"
        refine g_lt ?_
        walk_at "go"
        refine g_ite (fun e => ?_) (fun e => ?_)
        · have yn : y < n := of_decide_eq_true e
          walk_at "go"
          refine lad_dg X3 hl (gA_of hst) ?_
          walk_at "go"
          have hy := Sk.st_nx hp hs enx
          refine ⟨l + 1 + Sk.up S0 y, by have := Sk.up_lt hy.1 (Sk.nx_lt hp hs enx); omega, l + 1, y, _, some (.int y), by rw [show ((l + 1 : Nat) : Int) - 1 = (l : Int) by omega]; rfl, hr1, s3, eb, eq, fun _ => ⟨hy, yn, ?_⟩, rfl⟩
          rw [Sk.rk_nx hp hs hst enx]
          omega
        · have yn : ¬ y < n := of_decide_eq_false e
          walk_at "go"
          refine g_setL eb (by unfold bfR; simp; omega) ?_
          walk_at "go"
          refine g_setL (by rw [upd_ne (Ne.symm nbq)]; exact eq) (by unfold plR; simp; omega) ?_
          walk_at "go"
          exact down (fun z hz => by rw [enx] at hz; cases hz; omega) _

end
end Lk

namespace Lk
open PySem PySem.Spec PyProof.Rows L2
/-- a place of a trail, as a tuple -/
def sV (s : Nat × Int) : List V := [.int (s.1 : Int), .int s.2]
section
variable {P : Program} {w : World} {K : PySem.W.Frag} {mg : Str → Option Value} {base : Heap} {A : Ads}
theorem same_but {H H' H'' : Hp} {q : Addr} (s : Same H H') (n : H q = none) (b : But' q H' H'') : Same H H'' := fun c o e => by
  rw [b c (ne_of_none e n)]
  exact s c o e
def sp_steps (C : Addr) : Sp := fun vs H Q _ => ∃ (p : Addr) (n : Int) (L : LS) (S : List Int), vs = [.ref p, .int n] ∧ Lad C H p L S ∧
  ∀ q H', Same H H' → H q = none → TupL H' q ((Sk.trail L.w L.h S n).map sV) → Q (.ref q) H'
theorem ok_steps (T : Txt K mg A) : FO P w K mg base 2 A.steps ["ladder", "number"] (sp_steps A.Ladder) := by
  have S := sc_steps
  refine FO.mk' T.f_steps S b_steps (fun vs H Q E h => by obtain ⟨_, _, _, _, rfl, _⟩ := h; rfl) (fun cdv Ar outer s H vs Q E hr h => ?_)
  have hu := hu_of hr
  obtain ⟨p, n, L, S0, rfl, Ld, k⟩ := h
  have X := Ld.toLadX
  have lt := T.lt
  have hs := Ld.srt
  have hw : 0 < L.w := by have := Ld.ok.w1; omega
  have hh := Ld.ok.h2
  have hlen := Ld.len
  refine ⟨_, (pss_cons (ps_if (PW.pt (pw_or (pt_cmpR o_isN (k_fld (K := K) rfl (pv 0) rfl) pe_non (nomark _)) (pw_or1 (pt_cmpR o_gt (k_fld (K := K) rfl (pv 0) rfl) (pv 1) (nomark _)))))
    (pss_one (ps_ret (pe_lst pa_nil)))
    pss_nil)
  (pss_cons (ps_set (i := 2) S.nd rfl (Or.inl rfl) (k_fld (K := K) rfl (pv 0) rfl))
  (pss_cons (ps_set (i := 3) S.nd rfl (Or.inl rfl) (k_fld (K := K) rfl (pv 0) rfl))
  (pss_cons (ps_set (i := 4) S.nd rfl (Or.inl rfl) (pe_lst (pa_cons (pe_tup (pa_cons (pv 3) (pa_cons (pv 2) pa_nil))) pa_nil)))
  (pss_one (ps_while (passes_of rfl) (pt_val pe_bl)
    (pss_cons (ps_set (i := 5) S.nd rfl (Or.inl rfl) (pe_dget hu (pe_ix (k_ixL (K := K) rfl) (k_fld (K := K) rfl (pv 0) rfl) (pv 3) (fun _ _ => rfl)) (pv 2) (fun _ _ => rfl)))
    (pss_consC (ps_if (PW.pt (pw_and (pt_cmpR o_notN (pv 5) pe_non (nomark _)) (pw_and1 (pt_cmpR o_le (pv 5) (pv 1) (nomark _)))))
      (pss_one (ps_set (i := 2) S.nd rfl (Or.inl rfl) (pv 5)))
      (pss_one (ps_if (pt_cmpR o_gt (pv 3) pe_int (nomark _))
        (pss_one (ps_set (i := 3) S.nd rfl (Or.inl rfl) (pe_op o_sub (pv 3) pe_int)))
        (pss_one (ps_ret (pv 4))))))
    (pss_one (ps_expr (pe_bm PySem.F.plainAttrs_list PySem.F.slot_list_append PySem.F.type_list_append mt_append (pv 4) (pa_cons (pe_tup (pa_cons (pv 3) (pa_cons (pv 2) pa_nil))) pa_nil)))))))))))), ?_⟩
  walk_at "go"
  cases eh : S0.head? with
  | none =>
    refine g_iteT rfl ?_
    walk_at "go"
    refine g_newL (by decide) fun q H1 nq s1 e1 => k q H1 s1 nq ?_
    have e0 : Sk.trail L.w L.h S0 n = [] := by unfold Sk.trail; rw [eh]
    rw [e0]
    exact tupl_nil e1
  | some a =>
    rw [eh] at X
    refine g_iteF rfl ?_
    walk_at "go"
    refine g_gt ?_
    walk_at "go"
    refine g_ite (fun e => ?_) (fun e => ?_)
    · have e' := of_decide_eq_true e
      walk_at "go"
      refine g_newL (by decide) fun q H1 nq s1 e1 => k q H1 s1 nq ?_
      have e0 : Sk.trail L.w L.h S0 n = [] := by
        unfold Sk.trail
        simp only [eh]
        rw [if_neg (by omega)]
      rw [e0]
      exact tupl_nil e1
    have an : a ≤ n := by have := of_decide_eq_false e; omega
    have etr : Sk.trail L.w L.h S0 n = Sk.tr L.w S0 n (L.h, a) := by
      unfold Sk.trail
      simp only [eh]
      rw [if_pos an]
    walk_at "go"
    refine g_newT (by show 2 ≤ 1000; decide) fun t H1 nt s1 e1 => ?_
    walk_at "go"
    refine g_newL (by show 1 ≤ 1000; decide) fun q H2 nq1 s2 e2 => ?_
    have nq := s1.free nq1
    walk_at "go"
    refine g_while (fun m σ H' => ∃ (l : Nat) (c : Int) (done : List (Nat × Int)) (lt_ : Option V), σ = [some (.ref p), some (.int n), some (.int c), some (.int (l : Int)), some (.ref q), lt_] ∧ Same H H' ∧ TupL H' q ((done ++ [(l, c)]).map sV) ∧
        Sk.St (L.w ^ l) S0 c ∧ c ≤ n ∧ l ≤ L.h ∧ done ++ Sk.tr L.w S0 n (l, c) = Sk.trail L.w L.h S0 n ∧ m = Sk.mu S0 (l, c) ∧ done.length + m ≤ 200) (Sk.mu S0 (L.h, a))
      ⟨L.h, a, [], none, rfl, s1.trans s2, ⟨[t], e2, .cons (s2 _ _ e1) .nil⟩, Sk.st_least hs eh, an, Nat.le_refl _, etr.symm, rfl, ?_⟩ ?_
    · have h1 : Sk.mu S0 (L.h, a) = L.h + Sk.up S0 a := rfl
      have h2 := Sk.up_le (S := S0) (x := a)
      simp only [List.length_nil]
      omega
    rintro m σ H' ⟨l, c, done, lt_, rfl, s3, tq, hst, hcn, hl, hd, rfl, hb⟩
    have X3 := (Ld.same s3).toLadX
    walk_at "go"
    refine g_body ?_
    walk_at "go"
    refine lad_dn X3 hl (nA_of hst) ?_
    walk_at "go"
    refine g_cut (fun σ' H4 => H4 = H' ∧ ∃ (l' : Nat) (c' : Int) (lv : Option V), Sk.stp L.w S0 n (l, c) = some (l', c') ∧ σ' = [some (.ref p), some (.int n), some (.int c'), some (.int (l' : Int)), some (.ref q), lv]) (fun N hN => ?_) ?_
    · have zero : (∀ y, Sk.nx (L.w ^ l) S0 c = some y → ¬ y ≤ n) → l = 0 → Q (.ref q) H' := fun hn e => by
        subst e
        refine k q H' s3 nq ?_
        rw [← hd, Sk.tr_stop hw hs (Sk.stp_end hn)]
        exact tq
      have succ : (∀ y, Sk.nx (L.w ^ l) S0 c = some y → ¬ y ≤ n) → 0 < l → ∀ lv : V, N [some (.ref p), some (.int n), some (.int c), some (.int ((l : Int) - 1)), some (.ref q), some lv] H' := fun hn e lv => by
        obtain ⟨d, rfl⟩ : ∃ d, l = d + 1 := ⟨l - 1, by omega⟩
        refine hN _ _ ⟨rfl, d, c, some lv, Sk.stp_down hn, ?_⟩
        rw [show ((d + 1 : Nat) : Int) - 1 = (d : Int) by omega]
      walk_at "go"
      cases enx : Sk.nx (L.w ^ l) S0 c with
      | none =>
        have hn : ∀ y, Sk.nx (L.w ^ l) S0 c = some y → ¬ y ≤ n := fun y hy => by rw [enx] at hy; cases hy
        refine g_iteF rfl ?_
        walk_at "go"
        refine g_ite (fun e => ?_) (fun e => ?_)
        · walk_at "go"
          exact succ hn (by have := of_decide_eq_true e; omega) _
        · walk_at "go"
          exact zero hn (by have := of_decide_eq_false e; omega)
      | some y =>
        refine g_iteT rfl ?_
        walk_at "go"
        refine g_le ?_
        walk_at "go"
        refine g_ite (fun e => ?_) (fun e => ?_)
        · walk_at "go"
          exact hN _ _ ⟨rfl, l, y, some (.int y), Sk.stp_right enx (of_decide_eq_true e), rfl⟩
        · have hn : ∀ z, Sk.nx (L.w ^ l) S0 c = some z → ¬ z ≤ n := fun z hz => by rw [enx] at hz; cases hz; exact of_decide_eq_false e
          walk_at "go"
          refine g_ite (fun e => ?_) (fun e => ?_)
          · walk_at "go"
            exact succ hn (by have := of_decide_eq_true e; omega) _
          · walk_at "go"
            exact zero hn (by have := of_decide_eq_false e; omega)
    · rintro σ' H4 ⟨rfl, l', c', lv, est, rfl⟩
      obtain ⟨g1, g2, g3⟩ := Sk.stp_st hw hs hst hcn est
      have gm := Sk.stp_lt hw hs est
      have q1 : tyV K "list" (.ref q) H4 := by obtain ⟨as, h1, _⟩ := tq; exact ty_lst h1
      walk_at "go"
      refine ⟨q1, ?_⟩
      walk_at "go"
      refine g_newT (by show 2 ≤ 1000; decide) fun t2 H5 nt2 s5 e5 => ?_
      walk_at "go"
      refine g_appT (tq.same s5) e5 (by rw [List.length_map, List.length_append]; simp only [List.length_cons, List.length_nil]; omega) fun H6 b6 tq6 => ?_
      refine ⟨Sk.mu S0 (l', c'), gm, l', c', done ++ [(l, c)], lv, rfl, same_but (s3.trans s5) nq b6, ?_, g1, g2, by omega, ?_, rfl, ?_⟩
      · rw [List.map_append]
        exact tq6
      · rw [← hd, Sk.tr_go hw hs est, List.append_assoc]
        rfl
      · rw [List.length_append]
        simp only [List.length_cons, List.length_nil]
        omega

def sp_trail (C O : Addr) : Sp := fun vs H Q E => ∃ (p : Addr) (n : Int) (L : LS) (S : List Int), vs = [.ref p, .int n] ∧ Lad C H p L S ∧
  (0 ≤ n → n < L.w ^ L.h → ∀ q H', Same H H' → H q = none → TupL H' q ((Sk.trail L.w L.h S n).map sV) → Q (.ref q) H') ∧ (¬ (0 ≤ n ∧ n < L.w ^ L.h) → E (.ref O) none H)
theorem ok_trail (T : Txt K mg A) : FO P w K mg base 3 A.trail ["self", "number"] (sp_trail A.Ladder A.OutOfRange) := by
  obtain ⟨fd_need, G_need, B_need⟩ := ok_need (P := P) (w := w) (base := base) T
  obtain ⟨fd_steps, G_steps, B_steps⟩ := ok_steps (P := P) (w := w) (base := base) T
  have S := sc_trail
  refine FO.mk' T.f_trail S b_trail (fun vs H Q E h => by obtain ⟨_, _, _, _, rfl, _⟩ := h; rfl) (fun cdv Ar outer s H vs Q E hr h => ?_)
  have hu := hu_of hr
  obtain ⟨p, n, L, S0, rfl, Ld, k1, k2⟩ := h
  have X := Ld.toLadX
  have lt := T.lt
  refine ⟨_, (pss_cons (ps_expr (pe_meth (pv 0) T.lt.cl T.m_need G_need (hr.mono (by decide)) B_need .nil (passes_call (takes_of rfl rfl rfl rfl) (fun _ _ _ _ z => z)) (pa_cons (pv 1) (pa_cons (pe_op o_sub (k_fld (K := K) rfl (pv 0) rfl) pe_int) pa_nil))))
  (pss_one (ps_ret (pe_call G_steps (hr.mono (by decide)) rfl T.g_steps T.k_steps B_steps .nil passL (pa_cons (pv 0) (pa_cons (pv 1) pa_nil)))))), ?_⟩
  walk_at "go"
  refine ⟨p, n, _, rfl, fun h1 h2 => ?_, fun q => k2 (by omega)⟩
  walk_at "go"
  exact ⟨p, n, L, S0, rfl, Ld, k1 h1 (by omega)⟩

def sp_below (C O : Addr) : Sp := fun vs H Q E => ∃ (p : Addr) (n : Int) (L : LS) (S : List Int), vs = [.ref p, .int n] ∧ Lad C H p L S ∧
  (0 ≤ n → n < L.w ^ L.h → ∀ H', Same H H' → Q (ov (Sk.bel S (n + 1))) H') ∧ (¬ (0 ≤ n ∧ n < L.w ^ L.h) → E (.ref O) none H)
theorem ok_below (T : Txt K mg A) : FO P w K mg base 4 A.below ["self", "number"] (sp_below A.Ladder A.OutOfRange) := by
  obtain ⟨fd_trail, G_trail, B_trail⟩ := ok_trail (P := P) (w := w) (base := base) T
  have S := sc_below
  refine FO.mk' T.f_below S b_below (fun vs H Q E h => by obtain ⟨_, _, _, _, rfl, _⟩ := h; rfl) (fun cdv Ar outer s H vs Q E hr h => ?_)
  have hu := hu_of hr
  obtain ⟨p, n, L, S0, rfl, Ld, k1, k2⟩ := h
  have X := Ld.toLadX
  have lt := T.lt
  have hs := Ld.srt
  have hw : 0 < L.w := by have := Ld.ok.w1; omega
  refine ⟨_, (pss_cons (ps_set (i := 2) S.nd rfl (Or.inl rfl) (pe_meth (pv 0) T.lt.cl T.m_trail G_trail (hr.mono (by decide)) B_trail .nil (passes_call (takes_of rfl rfl rfl rfl) (fun _ _ _ _ z => z)) (pa_cons (pv 1) pa_nil)))
  (pss_cons (ps_if (pt_cmpR (k_eqD (K := K) rfl hr.units) (pv 2) (pe_lst pa_nil) (nomark _))
    (pss_one (ps_ret pe_non))
    pss_nil)
  (pss_one (ps_ret (pe_ix (k_ixT (K := K) rfl) (pe_ix (k_ixL (K := K) rfl) (pv 2) (pe_un un_neg pe_int) (fun _ _ => rfl)) pe_int (fun _ _ => rfl)))))), ?_⟩
  walk_at "go"
  refine ⟨p, n, L, S0, rfl, Ld, fun h1 h2 q H1 s1 nq tq => ?_, k2⟩
  walk_at "go"
  refine g_newL (by decide) fun r H2 nr s2 e2 => ?_
  have tq2 := tq.same s2
  refine g_eqNil (tq2.dp sV_plain) (dp_nil (.of e2)) (sh_tups (k := 0) _) ?_
  walk_at "go"
  have tl := Sk.trail_last (h := L.h) hw hs (n := n)
  cases eb : Sk.bel S0 (n + 1) with
  | none =>
    have e0 := (Sk.trail_nil (h := L.h) hw hs (n := n)).mpr eb
    rw [e0]
    walk_at "go"
    have := k1 h1 h2 H2 (s1.trans s2)
    rw [eb] at this
    refine g_iteT rfl ?_
    walk_at "go"
    exact this
  | some b =>
    rw [eb] at tl
    have ne : Sk.trail L.w L.h S0 n ≠ [] := fun e0 => by rw [e0] at tl; cases tl
    refine g_iteF ?_ ?_
    · cases et : Sk.trail L.w L.h S0 n with
      | nil => exact absurd et ne
      | cons x r => rfl
    walk_at "go"
    have tl2 : ((Sk.trail L.w L.h S0 n).map sV).getLast? = some (sV (0, b)) := by
      rw [List.getLast?_map, tl]
      rfl
    obtain ⟨vs, t, q1, q2, q3⟩ := tq2.last tl2
    refine g_ixL (.of q1) q2 ?_
    walk_at "go"
    refine g_ixT (.of q3) (atI_c1 rfl) ?_
    walk_at "go"
    have := k1 h1 h2 H2 (s1.trans s2)
    rw [eb] at this
    exact this

def sp_behind (C : Addr) : Sp := fun vs H Q _ => ∃ (p : Addr) (o : Option Int) (L : LS) (S : List Int), vs = [.ref p, ov o] ∧ Lad C H p L S ∧
  (o = none → Q (ov S.head?) H) ∧ (∀ b, o = some b → b ∈ S ∧ Q (ov (Sk.abv S b)) H)
theorem ok_behind (T : Txt K mg A) : FO P w K mg base 2 A.behind ["self", "before"] (sp_behind A.Ladder) := by
  have S := sc_behind
  refine FO.mk' T.f_behind S b_behind (fun vs H Q E h => by obtain ⟨_, _, _, _, rfl, _⟩ := h; rfl) (fun cdv Ar outer s H vs Q E hr h => ?_)
  have hu := hu_of hr
  obtain ⟨p, o, L, S0, rfl, Ld, k1, k2⟩ := h
  have X := Ld.toLadX
  have lt := T.lt
  refine ⟨_, (pss_cons (ps_if (pt_cmpR o_isN (pv 1) pe_non (nomark _))
    (pss_one (ps_ret (k_fld (K := K) rfl (pv 0) rfl)))
    pss_nil)
  (pss_one (ps_ret (pe_dget hu (pe_ix (k_ixL (K := K) rfl) (k_fld (K := K) rfl (pv 0) rfl) pe_int (fun _ _ => rfl)) (pv 1) (fun _ _ => rfl))))), ?_⟩
  walk_at "go"
  cases o with
  | none =>
    refine g_iteT rfl ?_
    walk_at "go"
    exact k1 rfl
  | some b =>
    obtain ⟨hb, k2⟩ := k2 b rfl
    refine g_iteF rfl ?_
    walk_at "go"
    refine lad_dn X (Nat.zero_le _) (o := Sk.abv S0 b) ?_ k2
    rw [Int.pow_zero, nA_of (st_one.mpr hb), Sk.nx_one]

def sp_above (C O : Addr) : Sp := fun vs H Q E => ∃ (p : Addr) (n : Int) (L : LS) (S : List Int), vs = [.ref p, .int n] ∧ Lad C H p L S ∧
  (0 ≤ n → n < L.w ^ L.h → ∀ H', Same H H' → Q (ov (Sk.abv S (n - 1))) H') ∧ (¬ (0 ≤ n ∧ n < L.w ^ L.h) → E (.ref O) none H)
theorem ok_above (T : Txt K mg A) : FO P w K mg base 5 A.above ["self", "number"] (sp_above A.Ladder A.OutOfRange) := by
  obtain ⟨fd_below, G_below, B_below⟩ := ok_below (P := P) (w := w) (base := base) T
  obtain ⟨fd_behind, G_behind, B_behind⟩ := ok_behind (P := P) (w := w) (base := base) T
  have S := sc_above
  refine FO.mk' T.f_above S b_above (fun vs H Q E h => by obtain ⟨_, _, _, _, rfl, _⟩ := h; rfl) (fun cdv Ar outer s H vs Q E hr h => ?_)
  have hu := hu_of hr
  obtain ⟨p, n, L, S0, rfl, Ld, k1, k2⟩ := h
  have X := Ld.toLadX
  have lt := T.lt
  have hs := Ld.srt
  refine ⟨_, (pss_cons (ps_set (i := 2) S.nd rfl (Or.inl rfl) (pe_meth (pv 0) T.lt.cl T.m_below G_below (hr.mono (by decide)) B_below .nil (passes_call (takes_of rfl rfl rfl rfl) (fun _ _ _ _ z => z)) (pa_cons (pv 1) pa_nil)))
  (pss_cons (ps_if (pt_cmpR op_eq (pv 2) (pv 1) (nomark _))
    (pss_one (ps_ret (pv 1)))
    pss_nil)
  (pss_one (ps_ret (pe_meth (pv 0) T.lt.cl T.m_behind G_behind (hr.mono (by decide)) B_behind .nil passL (pa_cons (pv 2) pa_nil)))))), ?_⟩
  walk_at "go"
  refine ⟨p, n, L, S0, rfl, Ld, fun h1 h2 H1 s1 => ?_, k2⟩
  have k3 := k1 h1 h2 H1 s1
  have Ld1 := Ld.same s1
  have X1 := Ld1.toLadX
  walk_at "go"
  cases eb : Sk.bel S0 (n + 1) with
  | none =>
    refine ⟨rfl, ?_⟩
    walk_at "go"
    refine g_iteF rfl ?_
    walk_at "go"
    rw [Sk.abv_head hs eb] at k3
    exact ⟨p, none, L, S0, rfl, Ld1, fun _ => k3, fun b hb => nomatch hb⟩
  | some b =>
    refine g_eqI ?_
    walk_at "go"
    refine g_ite (fun e => ?_) (fun e => ?_)
    · have e' := of_decide_eq_true e
      subst e'
      walk_at "go"
      rw [Sk.abv_self hs eb] at k3
      exact k3
    · have e' := of_decide_eq_false e
      walk_at "go"
      refine ⟨p, some b, L, S0, rfl, Ld1, (fun q => nomatch q), fun c hc => ?_⟩
      cases hc
      exact ⟨((Sk.bel_some hs).mp eb).1, by rw [Sk.abv_bel hs eb e']; exact k3⟩

def sp_place (C O : Addr) : Sp := fun vs H Q E => ∃ (p : Addr) (n : Int) (L : LS) (S : List Int), vs = [.ref p, .int n] ∧ Lad C H p L S ∧
  (0 ≤ n → n ≤ L.w ^ L.h → ∀ H', Same H H' → Q (.int (Sk.rk S n : Nat)) H') ∧ (¬ (0 ≤ n ∧ n ≤ L.w ^ L.h) → E (.ref O) none H)
theorem ok_place (T : Txt K mg A) : FO P w K mg base 3 A.place ["self", "number"] (sp_place A.Ladder A.OutOfRange) := by
  obtain ⟨fd_need, G_need, B_need⟩ := ok_need (P := P) (w := w) (base := base) T
  obtain ⟨fd_nearest, G_nearest, B_nearest⟩ := ok_nearest (P := P) (w := w) (base := base) T
  have S := sc_place
  refine FO.mk' T.f_place S b_place (fun vs H Q E h => by obtain ⟨_, _, _, _, rfl, _⟩ := h; rfl) (fun cdv Ar outer s H vs Q E hr h => ?_)
  have hu := hu_of hr
  obtain ⟨p, n, L, S0, rfl, Ld, k1, k2⟩ := h
  have X := Ld.toLadX
  have lt := T.lt
  have hs := Ld.srt
  refine ⟨_, (pss_cons (ps_expr (pe_meth (pv 0) T.lt.cl T.m_need G_need (hr.mono (by decide)) B_need .nil (passes_call (takes_of rfl rfl rfl rfl) (fun _ _ _ _ z => z)) (pa_cons (pv 1) (pa_cons (k_fld (K := K) rfl (pv 0) rfl) pa_nil))))
  (pss_cons (ps_asg (pe_call G_nearest (hr.mono (by decide)) rfl T.g_nearest T.k_nearest B_nearest .nil passL (pa_cons (pv 0) (pa_cons (pv 1) pa_nil))) (pg_tup (by rfl) (pgs_cons (pg_name (i := 2) S.nd rfl (Or.inl rfl)) (pgs_cons (pg_name (i := 3) S.nd rfl (Or.inl rfl)) pgs_nil))))
  (pss_cons (ps_if (pt_cmpR o_isN (pe_ix (k_ixL (K := K) rfl) (pv 2) pe_int (fun _ _ => rfl)) pe_non (nomark _))
    (pss_one (ps_ret pe_int))
    pss_nil)
  (pss_one (ps_ret (pe_op o_add (pe_ix (k_ixL (K := K) rfl) (pv 3) pe_int (fun _ _ => rfl)) pe_int)))))), ?_⟩
  walk_at "go"
  refine ⟨p, n, _, rfl, fun h1 h2 => ?_, fun q => k2 (by omega)⟩
  walk_at "go"
  refine ⟨p, n, L, S0, rfl, Ld, fun t b q H1 s1 nt nb nq et eb eq => ?_⟩
  have k3 := k1 h1 h2 H1 s1
  have e0 : Sk.bf (L.w ^ 0) S0 n = Sk.bel S0 n := by rw [Int.pow_zero]; exact Sk.bf_one hs
  walk_at "go"
  refine g_gtup (.of et) rfl ?_
  walk_at "go"
  refine g_ixL (.of eb) (v := ov (Sk.bel S0 n)) (atI_c0 ?_) ?_
  · unfold bfL
    rw [List.getElem?_map, List.getElem?_range (by omega), ← e0]
    rfl
  walk_at "go"
  cases ebb : Sk.bel S0 n with
  | none =>
    refine g_iteT rfl ?_
    walk_at "go"
    rw [Sk.bel_none_rk ebb] at k3
    exact k3
  | some c =>
    refine g_iteF rfl ?_
    walk_at "go"
    refine g_ixL (.of eq) (v := .int (Sk.rk S0 c : Nat)) (atI_c0 ?_) ?_
    · unfold plL
      rw [List.getElem?_map, List.getElem?_range (by omega)]
      show some (V.int (Sk.pl (L.w ^ 0) S0 n : Nat)) = _
      unfold Sk.pl
      rw [e0, ebb]
    walk_at "go"
    rw [Sk.bel_rk hs ebb] at k3
    exact k3

def sp_steps_by_gaps (C : Addr) : Sp := fun vs H Q _ => ∃ (p : Addr) (i : Nat) (x : Int) (L : LS) (S : List Int), vs = [.ref p, .int (i : Int)] ∧ Lad C H p L S ∧ S[i]? = some x ∧
  ∀ q H', Same H H' → H q = none → TupL H' q ((Sk.trail L.w L.h S x).map sV) → Q (.ref q) H'
theorem ok_steps_by_gaps (T : Txt K mg A) : FO P w K mg base 2 A.steps_by_gaps ["ladder", "place"] (sp_steps_by_gaps A.Ladder) := by
  have S := sc_steps_by_gaps
  refine FO.mk' T.f_steps_by_gaps S b_steps_by_gaps (fun vs H Q E h => by obtain ⟨_, _, _, _, _, rfl, _⟩ := h; rfl) (fun cdv Ar outer s H vs Q E hr h => ?_)
  have hu := hu_of hr
  obtain ⟨p, i, n, L, S0, rfl, Ld, hi, k⟩ := h
  have X := Ld.toLadX
  have lt := T.lt
  have hs := Ld.srt
  have hw : 0 < L.w := by have := Ld.ok.w1; omega
  have hh := Ld.ok.h2
  have hlen := Ld.len
  have hn : n ∈ S0 := List.mem_of_getElem? hi
  have hrk := Sk.rk_get hs hi
  refine ⟨_, (pss_cons (ps_set (i := 2) S.nd rfl (Or.inl rfl) (k_fld (K := K) rfl (pv 0) rfl))
  (pss_cons (ps_set (i := 3) S.nd rfl (Or.inl rfl) (k_fld (K := K) rfl (pv 0) rfl))
  (pss_cons (ps_set (i := 4) S.nd rfl (Or.inl rfl) (pv 1))
  (pss_cons (ps_set (i := 5) S.nd rfl (Or.inl rfl) (pe_lst (pa_cons (pe_tup (pa_cons (pv 3) (pa_cons (pv 2) pa_nil))) pa_nil)))
  (pss_one (ps_while (passes_of rfl) (pt_val pe_bl)
    (pss_cons (ps_set (i := 6) S.nd rfl (Or.inl rfl) (pe_dget hu (pe_ix (k_ixL (K := K) rfl) (k_fld (K := K) rfl (pv 0) rfl) (pv 3) (fun _ _ => rfl)) (pv 2) (fun _ _ => rfl)))
    (pss_cons (ps_set (i := 7) S.nd rfl (Or.inl rfl) (pe_dget hu (pe_ix (k_ixL (K := K) rfl) (k_fld (K := K) rfl (pv 0) rfl) (pv 3) (fun _ _ => rfl)) (pv 2) (fun _ _ => rfl)))
    (pss_consC (ps_if (PW.pt (pw_and (pt_cmpR o_notN (pv 6) pe_non (nomark _)) (pw_and1 (pt_cmpR o_le (pv 7) (pv 4) (nomark _)))))
      (pss_cons (ps_set (i := 2) S.nd rfl (Or.inl rfl) (pv 6))
      (pss_one (ps_set (i := 4) S.nd rfl (Or.inl rfl) (pe_op o_sub (pv 4) (pv 7)))))
      (pss_one (ps_if (pt_cmpR o_gt (pv 3) pe_int (nomark _))
        (pss_one (ps_set (i := 3) S.nd rfl (Or.inl rfl) (pe_op o_sub (pv 3) pe_int)))
        (pss_one (ps_ret (pv 5))))))
    (pss_one (ps_expr (pe_bm PySem.F.plainAttrs_list PySem.F.slot_list_append PySem.F.type_list_append mt_append (pv 5) (pa_cons (pe_tup (pa_cons (pv 3) (pa_cons (pv 2) pa_nil))) pa_nil))))))))))))), ?_⟩
  walk_at "go"
  cases eh : S0.head? with
  | none => rw [Sk.head_nil eh] at hi; cases hi
  | some a =>
    rw [eh] at X
    have an : a ≤ n := Sk.head_le hs eh n hn
    have etr : Sk.trail L.w L.h S0 n = Sk.tr L.w S0 n (L.h, a) := by
      unfold Sk.trail
      simp only [eh]
      rw [if_pos an]
    refine g_newT (by show 2 ≤ 1000; decide) fun t H1 nt s1 e1 => ?_
    walk_at "go"
    refine g_newL (by show 1 ≤ 1000; decide) fun q H2 nq1 s2 e2 => ?_
    have nq := s1.free nq1
    walk_at "go"
    refine g_while (fun m σ H' => ∃ (l : Nat) (c : Int) (done : List (Nat × Int)) (lt_ gt_ : Option V), σ = [some (.ref p), some (.int (i : Int)), some (.int c), some (.int (l : Int)), some (.int ((i : Int) - Sk.rk S0 c)), some (.ref q), lt_, gt_] ∧ Same H H' ∧ TupL H' q ((done ++ [(l, c)]).map sV) ∧
        Sk.St (L.w ^ l) S0 c ∧ c ≤ n ∧ l ≤ L.h ∧ done ++ Sk.tr L.w S0 n (l, c) = Sk.trail L.w L.h S0 n ∧ m = Sk.mu S0 (l, c) ∧ done.length + m ≤ 200) (Sk.mu S0 (L.h, a))
      ⟨L.h, a, [], none, none, ?_, s1.trans s2, ⟨[t], e2, .cons (s2 _ _ e1) .nil⟩, Sk.st_least hs eh, an, Nat.le_refl _, etr.symm, rfl, ?_⟩ ?_
    · rw [Sk.rk_least hs eh, show (i : Int) - ((0 : Nat) : Int) = (i : Int) by omega]
      rfl
    · have h1 : Sk.mu S0 (L.h, a) = L.h + Sk.up S0 a := rfl
      have h2 := Sk.up_le (S := S0) (x := a)
      simp only [List.length_nil]
      omega
    rintro m σ H' ⟨l, c, done, lt_, gt_, rfl, s3, tq, hst, hcn, hl, hd, rfl, hb⟩
    have X3 := (Ld.same s3).toLadX
    have hp := (pow_ok Ld.ok hl).1
    walk_at "go"
    refine g_body ?_
    walk_at "go"
    refine lad_dn X3 hl (nA_of hst) ?_
    walk_at "go"
    refine lad_dg X3 hl (gA_of hst) ?_
    walk_at "go"
    refine g_cut (fun σ' H4 => H4 = H' ∧ ∃ (l' : Nat) (c' : Int) (lv gv : Option V), Sk.stp L.w S0 n (l, c) = some (l', c') ∧ σ' = [some (.ref p), some (.int (i : Int)), some (.int c'), some (.int (l' : Int)), some (.int ((i : Int) - Sk.rk S0 c')), some (.ref q), lv, gv]) (fun N hN => ?_) ?_
    · have zero : (∀ y, Sk.nx (L.w ^ l) S0 c = some y → ¬ y ≤ n) → l = 0 → Q (.ref q) H' := fun hn e => by
        subst e
        refine k q H' s3 nq ?_
        rw [← hd, Sk.tr_stop hw hs (Sk.stp_end hn)]
        exact tq
      have succ : (∀ y, Sk.nx (L.w ^ l) S0 c = some y → ¬ y ≤ n) → 0 < l → ∀ lv gv : V, N [some (.ref p), some (.int (i : Int)), some (.int c), some (.int ((l : Int) - 1)), some (.int ((i : Int) - Sk.rk S0 c)), some (.ref q), some lv, some gv] H' := fun hn e lv gv => by
        obtain ⟨d, rfl⟩ : ∃ d, l = d + 1 := ⟨l - 1, by omega⟩
        refine hN _ _ ⟨rfl, d, c, some lv, some gv, Sk.stp_down hn, ?_⟩
        rw [show ((d + 1 : Nat) : Int) - 1 = (d : Int) by omega]
      walk_at "go"
      cases enx : Sk.nx (L.w ^ l) S0 c with
      | none =>
        have hn : ∀ y, Sk.nx (L.w ^ l) S0 c = some y → ¬ y ≤ n := fun y hy => by rw [enx] at hy; cases hy
        refine g_iteF rfl ?_
        walk_at "go"
        refine g_ite (fun e => ?_) (fun e => ?_)
        · walk_at "go"
          exact succ hn (by have := of_decide_eq_true e; omega) _ _
        · walk_at "go"
          exact zero hn (by have := of_decide_eq_false e; omega)
      | some y =>
        have hrn := Sk.rk_nx hp hs hst enx
        have hyS := ((Sk.nx_some hs).mp enx).1
        have hiff := Sk.rk_le_iff (S := S0) (x := y) hn
        refine g_iteT rfl ?_
        walk_at "go"
        refine g_ite (fun e => ?_) (fun e => ?_)
        · have hyn : y ≤ n := hiff.mp (by have := of_decide_eq_true e; omega)
          walk_at "go"
          refine hN _ _ ⟨rfl, l, y, some (.int y), some (.int (Sk.gp (L.w ^ l) S0 c : Nat)), Sk.stp_right enx hyn, ?_⟩
          rw [show (i : Int) - Sk.rk S0 y = (i : Int) - Sk.rk S0 c - (Sk.gp (L.w ^ l) S0 c : Nat) by omega]
          rfl
        · have hn : ∀ z, Sk.nx (L.w ^ l) S0 c = some z → ¬ z ≤ n := fun z hz => by
            rw [enx] at hz
            cases hz
            intro q
            have := hiff.mpr q
            have := of_decide_eq_false e
            omega
          walk_at "go"
          refine g_ite (fun e => ?_) (fun e => ?_)
          · walk_at "go"
            exact succ hn (by have := of_decide_eq_true e; omega) _ _
          · walk_at "go"
            exact zero hn (by have := of_decide_eq_false e; omega)
    · rintro σ' H4 ⟨rfl, l', c', lv, gv, est, rfl⟩
      obtain ⟨g1, g2, g3⟩ := Sk.stp_st hw hs hst hcn est
      have gm := Sk.stp_lt hw hs est
      have q1 : tyV K "list" (.ref q) H4 := by obtain ⟨as, h1, _⟩ := tq; exact ty_lst h1
      walk_at "go"
      refine ⟨q1, ?_⟩
      walk_at "go"
      refine g_newT (by show 2 ≤ 1000; decide) fun t2 H5 nt2 s5 e5 => ?_
      walk_at "go"
      refine g_appT (tq.same s5) e5 (by rw [List.length_map, List.length_append]; simp only [List.length_cons, List.length_nil]; omega) fun H6 b6 tq6 => ?_
      refine ⟨Sk.mu S0 (l', c'), gm, l', c', done ++ [(l, c)], lv, gv, rfl, same_but (s3.trans s5) nq b6, ?_, g1, g2, by omega, ?_, rfl, ?_⟩
      · rw [List.map_append]
        exact tq6
      · rw [← hd, Sk.tr_go hw hs est, List.append_assoc]
        rfl
      · rw [List.length_append]
        simp only [List.length_cons, List.length_nil]
        omega

def sp_way (C O : Addr) : Sp := fun vs H Q E => ∃ (p : Addr) (n : Int) (L : LS) (S : List Int), vs = [.ref p, .int n] ∧ Lad C H p L S ∧
  (∀ (i : Nat) (x : Int), n = (i : Int) → S[i]? = some x → ∀ q H', Same H H' → H q = none → TupL H' q ((Sk.trail L.w L.h S x).map sV) → Q (.ref q) H') ∧ (¬ (0 ≤ n ∧ n < (S.length : Int)) → E (.ref O) none H)
theorem ok_way (T : Txt K mg A) : FO P w K mg base 3 A.way ["self", "place"] (sp_way A.Ladder A.NoPlace) := by
  obtain ⟨fd_steps_by_gaps, G_steps_by_gaps, B_steps_by_gaps⟩ := ok_steps_by_gaps (P := P) (w := w) (base := base) T
  have S := sc_way
  refine FO.mk' T.f_way S b_way (fun vs H Q E h => by obtain ⟨_, _, _, _, rfl, _⟩ := h; rfl) (fun cdv Ar outer s H vs Q E hr h => ?_)
  have hu := hu_of hr
  obtain ⟨p, n, L, S0, rfl, Ld, k1, k2⟩ := h
  have X := Ld.toLadX
  have lt := T.lt
  refine ⟨_, (pss_cons (ps_if (PW.pt (pw_or (pt_cmpR o_lt (pv 1) pe_int (nomark _)) (pw_or1 (pt_cmpR o_ge (pv 1) (k_fld (K := K) rfl (pv 0) rfl) (nomark _)))))
    (pss_one (ps_raise rfl (takes_of rfl rfl rfl rfl) (pmk_own PySem.F.excBase_ValueError T.x_NoPlace.x T.x_NoPlace.g T.x_NoPlace.k (raises_own T.x_NoPlace.b T.x_NoPlace.t) rfl)))
    pss_nil)
  (pss_one (ps_ret (pe_call G_steps_by_gaps (hr.mono (by decide)) rfl T.g_steps_by_gaps T.k_steps_by_gaps B_steps_by_gaps .nil passL (pa_cons (pv 0) (pa_cons (pv 1) pa_nil)))))), ?_⟩
  walk_at "go"
  refine g_ite (fun e => ?_) (fun e => ?_)
  · walk_at "go"
    exact k2 (by have := of_decide_eq_true e; omega)
  · walk_at "go"
    refine g_ite (fun e2 => ?_) (fun e2 => ?_)
    · exact k2 (by have := of_decide_eq_true e2; omega)
    · walk_at "go"
      have h1 := of_decide_eq_false e
      have h2 := of_decide_eq_false e2
      have hn : n.toNat < S0.length := by omega
      have en : n = (n.toNat : Int) := by omega
      have hx := List.getElem?_eq_getElem hn
      exact ⟨p, n.toNat, _, L, S0, by rw [← en], Ld, hx, k1 n.toNat _ en hx⟩

def sp_at (C O : Addr) : Sp := fun vs H Q E => ∃ (p : Addr) (n : Int) (L : LS) (S : List Int), vs = [.ref p, .int n] ∧ Lad C H p L S ∧
  (∀ (i : Nat) (x : Int), n = (i : Int) → S[i]? = some x → ∀ H', Same H H' → Q (.int x) H') ∧ (¬ (0 ≤ n ∧ n < (S.length : Int)) → E (.ref O) none H)
theorem ok_at (T : Txt K mg A) : FO P w K mg base 4 A.a_at ["self", "place"] (sp_at A.Ladder A.NoPlace) := by
  obtain ⟨fd_way, G_way, B_way⟩ := ok_way (P := P) (w := w) (base := base) T
  have S := sc_at
  refine FO.mk' T.f_at S b_at (fun vs H Q E h => by obtain ⟨_, _, _, _, rfl, _⟩ := h; rfl) (fun cdv Ar outer s H vs Q E hr h => ?_)
  have hu := hu_of hr
  obtain ⟨p, n, L, S0, rfl, Ld, k1, k2⟩ := h
  have X := Ld.toLadX
  have lt := T.lt
  have hs := Ld.srt
  have hw : 0 < L.w := by have := Ld.ok.w1; omega
  refine ⟨_, (pss_one (ps_ret (pe_ix (k_ixT (K := K) rfl) (pe_ix (k_ixL (K := K) rfl) (pe_meth (pv 0) T.lt.cl T.m_way G_way (hr.mono (by decide)) B_way .nil (passes_call (takes_of rfl rfl rfl rfl) (fun _ _ _ _ z => z)) (pa_cons (pv 1) pa_nil)) (pe_un un_neg pe_int) (fun _ _ => rfl)) pe_int (fun _ _ => rfl)))), ?_⟩
  walk_at "go"
  refine ⟨p, n, L, S0, rfl, Ld, fun i x en hx q H1 s1 nq tq => ?_, k2⟩
  have tl : ((Sk.trail L.w L.h S0 x).map sV).getLast? = some (sV (0, x)) := by
    have hb : Sk.bel S0 (x + 1) = some x := (Sk.bel_some hs).mpr ⟨List.mem_of_getElem? hx, by omega, fun z _ _ => by omega⟩
    rw [List.getLast?_map, Sk.trail_last hw hs, hb]
    rfl
  obtain ⟨vs, t, q1, q2, q3⟩ := tq.last tl
  walk_at "go"
  refine g_ixL (.of q1) q2 ?_
  walk_at "go"
  refine g_ixT (.of q3) (atI_c1 rfl) ?_
  exact k1 i x en hx H1 s1

def sp_counted (C O : Addr) : Sp := fun vs H Q E => ∃ (p : Addr) (lo hi : Int) (L : LS) (S : List Int), vs = [.ref p, .int lo, .int hi] ∧ Lad C H p L S ∧
  (0 ≤ lo → lo ≤ L.w ^ L.h → 0 ≤ hi → hi ≤ L.w ^ L.h → ∀ H', Same H H' → Q (.int ((Sk.mid S lo hi).length : Nat)) H') ∧ (¬ (0 ≤ lo ∧ lo ≤ L.w ^ L.h ∧ 0 ≤ hi ∧ hi ≤ L.w ^ L.h) → ∀ H', Same H H' → E (.ref O) none H')
theorem ok_counted (T : Txt K mg A) : FO P w K mg base 4 A.counted ["self", "low", "high"] (sp_counted A.Ladder A.OutOfRange) := by
  obtain ⟨fd_place, G_place, B_place⟩ := ok_place (P := P) (w := w) (base := base) T
  have S := sc_counted
  refine FO.mk' T.f_counted S b_counted (fun vs H Q E h => by obtain ⟨_, _, _, _, _, rfl, _⟩ := h; rfl) (fun cdv Ar outer s H vs Q E hr h => ?_)
  have hu := hu_of hr
  obtain ⟨p, lo, hi, L, S0, rfl, Ld, k1, k2⟩ := h
  have X := Ld.toLadX
  have lt := T.lt
  refine ⟨_, (pss_one (ps_ret (pe_callB (c_max2 rfl) (by rfl) T.z_max (by decide +kernel) (pa_cons pe_int (pa_cons (pe_op o_sub (pe_meth (pv 0) T.lt.cl T.m_place G_place (hr.mono (by decide)) B_place .nil (passes_call (takes_of rfl rfl rfl rfl) (fun _ _ _ _ z => z)) (pa_cons (pv 2) pa_nil)) (pe_meth (pv 0) T.lt.cl T.m_place G_place (hr.mono (by decide)) B_place .nil (passes_call (takes_of rfl rfl rfl rfl) (fun _ _ _ _ z => z)) (pa_cons (pv 1) pa_nil))) pa_nil))))), ?_⟩
  walk_at "go"
  refine ⟨p, hi, L, S0, rfl, Ld, fun h1 h2 H1 s1 => ?_, fun q => k2 (by omega) H (Same.refl H)⟩
  have Ld1 := Ld.same s1
  have X1 := Ld1.toLadX
  walk_at "go"
  refine ⟨p, lo, L, S0, rfl, Ld1, fun h3 h4 H2 s2 => ?_, fun q => k2 (by omega) H1 s1⟩
  have k3 := k1 h3 h4 h1 h2 H2 (s1.trans s2)
  walk_at "go"
  rw [Sk.mid_len Ld.srt] at k3
  rw [show max 0 ((Sk.rk S0 hi : Int) - Sk.rk S0 lo) = ((Sk.rk S0 hi - Sk.rk S0 lo : Nat) : Int) by omega]
  exact k3

def sp_stretch (C O : Addr) : Sp := fun vs H Q E => ∃ (p : Addr) (lo hi : Int) (L : LS) (S : List Int), vs = [.ref p, .int lo, .int hi] ∧ Lad C H p L S ∧
  (0 ≤ lo → lo ≤ L.w ^ L.h → 0 ≤ hi → hi ≤ L.w ^ L.h → ∀ q H', Same H H' → H q = none → H' q = some (.lst ((Sk.mid S lo hi).map V.int)) → Q (.ref q) H') ∧ (¬ (0 ≤ lo ∧ lo ≤ L.w ^ L.h ∧ 0 ≤ hi ∧ hi ≤ L.w ^ L.h) → ∀ H', Same H H' → E (.ref O) none H')
theorem ok_stretch (T : Txt K mg A) : FO P w K mg base 5 A.stretch ["self", "low", "high"] (sp_stretch A.Ladder A.OutOfRange) := by
  obtain ⟨fd_place, G_place, B_place⟩ := ok_place (P := P) (w := w) (base := base) T
  obtain ⟨fd_at, G_at, B_at⟩ := ok_at (P := P) (w := w) (base := base) T
  obtain ⟨fd_counted, G_counted, B_counted⟩ := ok_counted (P := P) (w := w) (base := base) T
  have S := sc_stretch
  refine FO.mk' T.f_stretch S b_stretch (fun vs H Q E h => by obtain ⟨_, _, _, _, _, rfl, _⟩ := h; rfl) (fun cdv Ar outer s H vs Q E hr h => ?_)
  have hu := hu_of hr
  obtain ⟨p, lo, hi, L, S0, rfl, Ld, k1, k2⟩ := h
  have X := Ld.toLadX
  have lt := T.lt
  have hs := Ld.srt
  have hlen := Ld.len
  refine ⟨_, (pss_cons (ps_set (i := 3) S.nd rfl (Or.inr rfl) (pe_meth (pv 0) T.lt.cl T.m_place G_place (hr.mono (by decide)) B_place .nil (passes_call (takes_of rfl rfl rfl rfl) (fun _ _ _ _ z => z)) (pa_cons (pv 1) pa_nil)))
  (pss_one (ps_ret (pe_lc (own := [("turn", 4)]) (g := gName 4) (tt := tYes) (by rfl) S.nd (pi_range1 rfl T.z_range (pa_cons (pe_meth (pv 0) T.lt.cl T.m_counted G_counted (hr.mono (by decide)) B_counted .nil (passes_call (takes_of rfl rfl rfl rfl) (fun _ _ _ _ z => z)) (pa_cons (pv 1) (pa_cons (pv 2) pa_nil))) pa_nil)) (blkOk_by (N := N_stretch) (sc := defScope s_stretch) (by decide +kernel)) (fun _ _ _ _ _ => pg_name (i := 4) S.nd rfl (Or.inl rfl)) (fun _ _ _ _ _ => pts_nil) (fun _ _ _ _ _ => (pe_meth (pv 0) T.lt.cl T.m_at G_at (hr.mono (by decide)) B_at .nil passL (pa_cons (pe_op o_add (pv 3) (pv 4)) pa_nil))))))), ?_⟩
  walk_at "go"
  refine ⟨p, lo, L, S0, rfl, Ld, fun h1 h2 H1 s1 => ?_, fun q => k2 (by omega) H (Same.refl H)⟩
  have Ld1 := Ld.same s1
  have X1 := Ld1.toLadX
  walk_at "go"
  refine ⟨p, lo, hi, L, S0, rfl, Ld1, fun _ _ h3 h4 H2 s2 => ?_, fun q H2 s2 => k2 (by omega) H2 (s1.trans s2)⟩
  have Ld2 := Ld1.same s2
  have hm := Sk.mid_len hs lo hi
  have hr2 := Sk.rk_le (S := S0) (n := hi)
  walk_at "go"
  refine g_rng (by omega) (by omega) ?_
  rw [show (((Sk.mid S0 lo hi).length : Nat) : Int).toNat = (Sk.mid S0 lo hi).length by omega]
  refine g_lcR (fun i => ((Sk.mid S0 lo hi).take i).map V.int) rfl ?_ ?_
  · intro D i H' hD hi2 s e
    have Ld3 := Ld2.same s
    have X3 := Ld3.toLadX
    have hlt : Sk.rk S0 lo + i < S0.length := by omega
    have hx : S0[Sk.rk S0 lo + i]? = some S0[Sk.rk S0 lo + i] := List.getElem?_eq_getElem hlt
    have hx2 : (Sk.mid S0 lo hi)[i]? = some S0[Sk.rk S0 lo + i] := by
      rw [Sk.mid_eq hs, List.getElem?_take_of_lt (by omega), List.getElem?_drop]
      exact hx
    walk_at "go"
    refine ⟨rfl, ?_⟩
    walk_at "go"
    refine ⟨p, _, L, S0, rfl, Ld3, fun j x ej hj H4 s4 => ?_, fun q => absurd (by omega) q⟩
    have ej2 : j = Sk.rk S0 lo + i := by omega
    subst ej2
    rw [hx] at hj
    cases hj
    refine g_add1 hD (s.trans s4) (s4 _ _ e) (by rw [List.length_map, List.length_take]; omega) ?_
    show ((Sk.mid S0 lo hi).take (i + 1)).map V.int = _
    rw [Sk.take_snoc hx2, List.map_append]
    rfl
  · intro D H' hD s e
    rw [List.take_length] at e
    exact k1 h1 h2 h3 h4 D H' ((s1.trans s2).trans s) ((s1.trans s2).free hD) e

end
end Lk

namespace Lk
open PySem PySem.Spec PyProof.Rows L2
section
variable {P : Program} {w : World} {K : PySem.W.Frag} {mg : Str → Option Value} {base : Heap} {A : Ads}
def sp_alike (C : Addr) : Sp := fun vs H Q _ => ∃ (p : Addr) (l : Nat) (n : Int) (o : Option Int) (L : LS) (le : Option Int) (many : Int) (T : Nat → List Int), vs = [.ref p, .int (l : Int), .int n, ov o] ∧ LadX C H p L le many T ∧ l ≤ L.h ∧ Q (ov (alk (L.w ^ l) n o)) H
theorem ok_alike (T : Txt K mg A) : FO P w K mg base 4 A.alike ["self", "level", "number", "behind"] (sp_alike A.Ladder) := by
  obtain ⟨fd_block, G_block, B_block⟩ := ok_block (P := P) (w := w) (base := base) T
  have S := sc_alike
  refine FO.mk' T.f_alike S b_alike (fun vs H Q E h => by obtain ⟨_, _, _, _, _, _, _, _, rfl, _⟩ := h; rfl) (fun cdv Ar outer s H vs Q E hr h => ?_)
  have hu := hu_of hr
  obtain ⟨p, l, n, o, L, le, many, T0, rfl, X, hl, k⟩ := h
  have lt := T.lt
  have w1 := X.ok.w1
  have w2 := X.ok.w2
  have hh := X.ok.h2
  refine ⟨_, (pss_cons (ps_if (PW.pt (pw_or (pt_cmpR o_isN (pv 3) pe_non (nomark _)) (pw_or1 (pt_cmpR op_ne (pe_call G_block (hr.mono (by decide)) rfl T.g_block T.k_block B_block .nil passL (pa_cons (k_fld (K := K) rfl (pv 0) rfl) (pa_cons (pv 1) (pa_cons (pv 2) pa_nil)))) (pe_call G_block (hr.mono (by decide)) rfl T.g_block T.k_block B_block .nil passL (pa_cons (k_fld (K := K) rfl (pv 0) rfl) (pa_cons (pv 1) (pa_cons (pv 3) pa_nil)))) (nomark _)))))
    (pss_one (ps_ret pe_non))
    pss_nil)
  (pss_one (ps_ret (pv 3)))), ?_⟩
  walk_at "go"
  cases o with
  | none =>
    refine g_iteT rfl ?_
    walk_at "go"
    exact k
  | some a =>
    refine g_iteF rfl ?_
    walk_at "go"
    refine ⟨L.w, l, n, rfl, w1, w2, by omega, ?_⟩
    walk_at "go"
    refine ⟨L.w, l, a, rfl, w1, w2, by omega, ?_⟩
    walk_at "go"
    unfold alk at k
    refine g_ite (fun e => ?_) (fun e => ?_)
    · have e' : ¬ n / L.w ^ l = a / L.w ^ l := by simpa using e
      walk_at "go"
      simp only [e', if_false] at k
      exact k
    · have e' : n / L.w ^ l = a / L.w ^ l := by simpa using e
      walk_at "go"
      simp only [e', if_true] at k
      exact k

def sp_stand_in (C : Addr) : Sp := fun vs H Q _ => ∃ (p : Addr) (l : Nat) (n : Int) (b : Option Int) (pl : Int) (old : Option Int) (L : LS) (S : List Int) (many : Int) (T : Nat → List Int),
  vs = [.ref p, .int (l : Int), .int n, ov b, .int pl, ov old] ∧ LadX C H p L S.head? many T ∧ l ≤ L.h ∧ T l = S ∧ Sk.Srt S ∧ n ∉ S ∧ S.length ≤ 100 ∧ Sk.St (L.w ^ l) (Sk.ins S n) n ∧ b = Sk.bf (L.w ^ l) S n ∧
  (∀ c, b = some c → pl = (Sk.rk S n : Int) - Sk.rk S c) ∧ old = alk (L.w ^ l) n (Sk.abv S n) ∧
  ∀ H', (∀ c, c ≠ L.ds l → c ≠ L.gs l → H' c = H c) → DI 200 H' (L.ds l) (nV (L.w ^ l) (Sk.ins S n)) → DI 200 H' (L.gs l) (gV (L.w ^ l) (Sk.ins S n)) → Q .non H'
theorem ok_stand_in (T : Txt K mg A) : FO P w K mg base 2 A.stand_in ["self", "level", "number", "before", "place", "old"] (sp_stand_in A.Ladder) := by
  have S := sc_stand_in
  refine FO.mk' T.f_stand_in S b_stand_in (fun vs H Q E h => by obtain ⟨_, _, _, _, _, _, _, _, _, _, rfl, _⟩ := h; rfl) (fun cdv Ar outer s H vs Q E hr h => ?_)
  have hu := hu_of hr
  obtain ⟨p, l, n, b, pl, old, L, S0, many, T0, rfl, X, hl, hT, hs, hn, hlen, hst, hb, hpl, hold, k⟩ := h
  have lt := T.lt
  have hp := (pow_ok X.ok hl).1
  have ndg : L.ds l ≠ L.gs l := X.ok.dg l l hl hl
  have dn := X.dn l hl
  have dg := X.dg l hl
  rw [hT] at dn dg
  generalize hc : L.w ^ l = c at *
  have hli := Sk.len_ins hs hn
  refine ⟨_, (pss_cons (ps_set (i := 6) S.nd rfl (Or.inl rfl) (pe_ix (k_ixL (K := K) rfl) (k_fld (K := K) rfl (pv 0) rfl) (pv 1) (fun _ _ => rfl)))
  (pss_cons (ps_set (i := 7) S.nd rfl (Or.inl rfl) (pe_ix (k_ixL (K := K) rfl) (k_fld (K := K) rfl (pv 0) rfl) (pv 1) (fun _ _ => rfl)))
  (pss_consC (ps_if (pt_cmpR o_notN (pv 5) pe_non (nomark _))
    (pss_cons (ps_dput hu (pv 6) (pv 2) (pe_dpop1 (pv 6) (pv 5) ⟨rfl, rfl, rfl, rfl⟩) rfl)
    (pss_one (ps_dput hu (pv 7) (pv 2) (pe_op o_add (pe_dpop1 (pv 7) (pv 5) ⟨rfl, rfl, rfl, rfl⟩) pe_int) rfl)))
    (pss_one (ps_if (pt_cmpR o_isN (pv 3) pe_non (nomark _))
      (pss_cons (ps_dput hu (pv 6) (pv 2) (k_fld (K := K) rfl (pv 0) rfl) rfl)
      (pss_one (ps_dput hu (pv 7) (pv 2) pe_int rfl)))
      (pss_cons (ps_dput hu (pv 6) (pv 2) (pe_dget hu (pv 6) (pv 3) (fun _ _ => rfl)) rfl)
      (pss_cons (ps_dput hu (pv 7) (pv 2) (pe_op o_add (pe_op o_sub (pe_dget hu (pv 7) (pv 3) (fun _ _ => rfl)) (pv 4)) pe_int) rfl)
      (pss_one (ps_dput hu (pv 7) (pv 3) (pv 4) rfl)))))))
  (pss_one (ps_if (pt_cmpR o_notN (pv 3) pe_non (nomark _))
    (pss_one (ps_dput hu (pv 6) (pv 3) (pv 2) rfl))
    pss_nil))))), ?_⟩
  walk_at "go"
  refine g_cut (fun σ' H1 => σ' = [some (.ref p), some (.int (l : Int)), some (.int n), some (ov b), some (.int pl), some (ov old), some (.ref (L.ds l)), some (.ref (L.gs l))] ∧ (∀ c, c ≠ L.ds l → c ≠ L.gs l → H1 c = H c) ∧
      (∃ f, DI 203 H1 (L.ds l) f ∧ ∀ j, b ≠ some j → f j = nV c (Sk.ins S0 n) j) ∧ DI 203 H1 (L.gs l) (gV c (Sk.ins S0 n))) (fun N hN => ?_) ?_
  · walk_at "go"
    cases ho : old with
    | some a =>
      have hab : Sk.abv S0 n = some a ∧ n / c = a / c := by
        rw [hold] at ho
        unfold alk at ho
        cases e : Sk.abv S0 n with
        | none => rw [e] at ho; cases ho
        | some x =>
          rw [e] at ho
          simp only at ho
          split at ho
          · cases ho; exact ⟨rfl, by assumption⟩
          · cases ho
      obtain ⟨hab, ea⟩ := hab
      subst ho
      obtain ⟨sa, f1, f2, f3⟩ := Sk.put_old hp hs hn hst hab ea.symm
      have na : n ≠ a := by have := ((Sk.abv_some hs).mp hab).2.1; omega
      refine g_iteT rfl ?_
      walk_at "go"
      refine g_diPop dn (k := a) rfl (v := ov (Sk.nx c S0 a)) (by unfold nV; rw [nA_of sa]; rfl) fun H1 b1 d1 => ?_
      walk_at "go"
      refine g_diPut (d1.mono (show 200 ≤ 201 by decide)) (by decide) fun H2 b2 d2 => ?_
      walk_at "go"
      have dg2 : DI 200 H2 (L.gs l) (gV c S0) := dg.at ((b2 _ (Ne.symm ndg)).trans (b1 _ (Ne.symm ndg)))
      refine g_diPop dg2 (k := a) rfl (v := .int (Sk.gp c S0 a : Nat)) (by unfold gV; rw [gA_of sa]; rfl) fun H3 b3 d3 => ?_
      walk_at "go"
      refine g_diPut (d3.mono (show 200 ≤ 202 by decide)) (by decide) fun H4 b4 d4 => ?_
      refine hN _ _ ⟨rfl, fun x h1 h2 => ?_, ⟨_, (d2.at ((b4 _ ndg).trans (b3 _ ndg))).mono (by decide), fun j hj => ?_⟩, d4.to fun j => ?_⟩
      · exact (b4 x h2).trans ((b3 x h2).trans ((b2 x h1).trans (b1 x h1)))
      · have hbj : ¬ Sk.bf c S0 n = some j := by rw [← hb]; exact hj
        show (if j = n then some (ov (Sk.nx c S0 a)) else if j = a then none else nV c S0 j) = _
        unfold nV
        rw [f1 j]
        simp only [hbj, if_false]
        by_cases e1 : j = n
        · rw [if_pos e1, if_pos e1]; rfl
        · rw [if_neg e1, if_neg e1]
          by_cases e2 : j = a
          · rw [if_pos e2, if_pos e2]; rfl
          · rw [if_neg e2, if_neg e2]
      · show (if j = n then some (V.int ((Sk.gp c S0 a : Nat) + 1)) else if j = a then none else gV c S0 j) = _
        unfold gV
        rw [f2 j]
        by_cases e1 : j = n
        · rw [if_pos e1, if_pos e1]; rfl
        · rw [if_neg e1, if_neg e1]
          by_cases e2 : j = a
          · rw [if_pos e2, if_pos e2]; rfl
          · rw [if_neg e2, if_neg e2]
    | none =>
      have hna : ∀ a, Sk.abv S0 n = some a → a / c ≠ n / c := fun a ha q => by
        rw [hold] at ho
        unfold alk at ho
        rw [ha] at ho
        simp only [q.symm, if_true] at ho
        cases ho
      obtain ⟨f1, f2, f3⟩ := Sk.put_new hp hs hn hst hna
      refine g_iteF rfl ?_
      walk_at "go"
      cases b with
      | none =>
        refine g_iteT rfl ?_
        walk_at "go"
        refine g_diPut (dn.mono (show 200 ≤ 201 by decide)) (by decide) fun H1 b1 d1 => ?_
        walk_at "go"
        refine g_diPut ((dg.at (b1 _ (Ne.symm ndg))).mono (show 200 ≤ 201 by decide)) (by decide) fun H2 b2 d2 => ?_
        refine hN _ _ ⟨by rw [ho]; rfl, fun x h1 h2 => (b2 x h2).trans (b1 x h1), ⟨_, (d1.at (b2 _ ndg)).mono (by decide), fun j hj => ?_⟩, (d2.mono (by decide)).to fun j => ?_⟩
        · show (if j = n then some (ov S0.head?) else nV c S0 j) = _
          unfold nV
          rw [f1 j, ← hb]
          by_cases e1 : j = n
          · rw [if_pos e1, if_pos e1]; rfl
          · rw [if_neg e1, if_neg e1]; rfl
        · show (if j = n then some (V.int 1) else gV c S0 j) = _
          unfold gV
          rw [f2 j]
          by_cases e1 : j = n
          · rw [if_pos e1, if_pos e1]; rfl
          · rw [if_neg e1, if_neg e1]
      | some b0 =>
        obtain ⟨sb, hgap⟩ := f3 b0 hb.symm
        have hpl2 := hpl b0 rfl
        have nb : b0 ≠ n := fun q => hn (q ▸ sb.1)
        refine g_iteF rfl ?_
        walk_at "go"
        refine g_diGet dn (v := ov (Sk.nx c S0 b0)) (by unfold nV; rw [nA_of sb]; rfl) ?_
        walk_at "go"
        refine g_diPut (dn.mono (show 200 ≤ 201 by decide)) (by decide) fun H1 b1 d1 => ?_
        have dg1 := dg.at (b1 _ (Ne.symm ndg))
        walk_at "go"
        refine g_diGet dg1 (v := .int (Sk.gp c S0 b0 : Nat)) (by unfold gV; rw [gA_of sb]; rfl) ?_
        walk_at "go"
        refine g_diPut (dg1.mono (show 200 ≤ 201 by decide)) (by decide) fun H2 b2 d2 => ?_
        walk_at "go"
        refine g_diPut d2 (by decide) fun H3 b3 d3 => ?_
        refine hN _ _ ⟨by rw [ho]; rfl, fun x h1 h2 => (b3 x h2).trans ((b2 x h2).trans (b1 x h1)), ⟨_, (d1.at ((b3 _ ndg).trans (b2 _ ndg))).mono (by decide), fun j hj => ?_⟩, (d3.mono (by decide)).to fun j => ?_⟩
        · have hbj : ¬ Sk.bf c S0 n = some j := by rw [← hb]; exact hj
          show (if j = n then some (ov (Sk.nx c S0 b0)) else nV c S0 j) = _
          unfold nV
          rw [f1 j]
          simp only [hbj, if_false]
          by_cases e1 : j = n
          · rw [if_pos e1, if_pos e1, ← hb]; rfl
          · rw [if_neg e1, if_neg e1]
        · show (if j = b0 then some (V.int pl) else if j = n then some (V.int ((Sk.gp c S0 b0 : Nat) - pl + 1)) else gV c S0 j) = _
          unfold gV
          rw [f2 j]
          by_cases e0 : j = b0
          · rw [if_pos e0, if_neg (by rw [e0]; exact nb), e0, gA_of sb, hpl2, hgap]
            rfl
          · rw [if_neg e0]
            by_cases e1 : j = n
            · rw [if_pos e1, if_pos e1, hpl2, hgap]
              show some (V.int _) = some (V.int 1)
              congr 2
              omega
            · rw [if_neg e1, if_neg e1]
  · rintro σ' H1 ⟨rfl, hk, ⟨f, df, hf⟩, dg1⟩
    walk_at "go"
    have fin : ∀ H2, (∀ c, c ≠ L.ds l → c ≠ L.gs l → H2 c = H c) → DI 204 H2 (L.ds l) (nV c (Sk.ins S0 n)) → DI 204 H2 (L.gs l) (gV c (Sk.ins S0 n)) → Q .non H2 := fun H2 h1 h2 h3 =>
      k H2 h1 ((h2.tight fun j v e => nV_mem e).mono (by omega)) ((h3.tight fun j v e => gV_mem e).mono (by omega))
    cases b with
    | none =>
      refine g_iteF rfl ?_
      walk_at "go"
      exact fin H1 hk ((df.mono (by decide)).to fun j => hf j (by simp)) (dg1.mono (by decide))
    | some b0 =>
      refine g_iteT rfl ?_
      walk_at "go"
      refine g_diPut df (by decide) fun H2 b2 d2 => ?_
      walk_at "go"
      refine fin H2 (fun x h1 h2 => (b2 x h1).trans (hk x h1 h2)) (d2.to fun j => ?_) ((dg1.at (b2 _ (Ne.symm ndg))).mono (by decide))
      by_cases e1 : j = b0
      · subst e1
        rw [if_pos rfl]
        have hz : Sk.nA c (Sk.ins S0 n) j = some (some n) := Sk.nA_bf hp hs hn hst hb.symm
        unfold nV
        rw [hz]
        rfl
      · rw [if_neg e1]
        exact hf j fun q => e1 (Option.some.inj q).symm

end
end Lk

namespace Lk
open PySem PySem.Spec PyProof.Rows L2
/-- what a put tells of the levels below i -/
def putT (L : LS) (S : List Int) (n : Int) (i : Nat) : List (List V) := ((List.range i).filter fun l : Nat => decide (Sk.St (L.w ^ l) (Sk.ins S n) n)).map fun l : Nat => [V.int (l : Int), .int n, ov (alk (L.w ^ l) n (Sk.abv S n))]
/-- .. a take -/
def takeT (L : LS) (S : List Int) (n : Int) (i : Nat) : List (List V) := ((List.range i).filter fun l : Nat => decide (Sk.St (L.w ^ l) S n)).map fun l : Nat => [V.int (l : Int), ov (alk (L.w ^ l) n (Sk.abv S n)), .int n]
theorem putT_yes {L : LS} {S : List Int} {n : Int} {i : Nat} (h : Sk.St (L.w ^ i) (Sk.ins S n) n) : putT L S n (i + 1) = putT L S n i ++ [[V.int (i : Int), .int n, ov (alk (L.w ^ i) n (Sk.abv S n))]] := by
  unfold putT
  rw [List.range_succ, List.filter_append, List.map_append, List.filter_cons, if_pos (decide_eq_true h)]
  rfl
theorem putT_no {L : LS} {S : List Int} {n : Int} {i : Nat} (h : ¬ Sk.St (L.w ^ i) (Sk.ins S n) n) : putT L S n (i + 1) = putT L S n i := by
  unfold putT
  rw [List.range_succ, List.filter_append, List.map_append, List.filter_cons, if_neg (by simpa using h)]
  simp
theorem takeT_yes {L : LS} {S : List Int} {n : Int} {i : Nat} (h : Sk.St (L.w ^ i) S n) : takeT L S n (i + 1) = takeT L S n i ++ [[V.int (i : Int), ov (alk (L.w ^ i) n (Sk.abv S n)), .int n]] := by
  unfold takeT
  rw [List.range_succ, List.filter_append, List.map_append, List.filter_cons, if_pos (decide_eq_true h)]
  rfl
theorem takeT_no {L : LS} {S : List Int} {n : Int} {i : Nat} (h : ¬ Sk.St (L.w ^ i) S n) : takeT L S n (i + 1) = takeT L S n i := by
  unfold takeT
  rw [List.range_succ, List.filter_append, List.map_append, List.filter_cons, if_neg (by simpa using h)]
  simp
theorem putT_len {L : LS} {S : List Int} {n : Int} {i : Nat} : (putT L S n i).length ≤ i := by
  unfold putT
  rw [List.length_map]
  refine Nat.le_trans (List.length_filter_le _ _) ?_
  rw [List.length_range]
  exact Nat.le_refl _
theorem takeT_len {L : LS} {S : List Int} {n : Int} {i : Nat} : (takeT L S n i).length ≤ i := by
  unfold takeT
  rw [List.length_map]
  refine Nat.le_trans (List.length_filter_le _ _) ?_
  rw [List.length_range]
  exact Nat.le_refl _
theorem bfL_at {L : LS} {S : List Int} {n : Int} {i : Nat} (h : i ≤ L.h) : atI (bfL L S n) (i : Int) = some (ov (Sk.bf (L.w ^ i) S n)) := by
  refine atI_nat ?_
  unfold bfL
  rw [List.getElem?_map, List.getElem?_range (by omega)]
  rfl
theorem plL_at {L : LS} {S : List Int} {n : Int} {i : Nat} (h : i ≤ L.h) : atI (plL L S n) (i : Int) = some (.int (Sk.pl (L.w ^ i) S n : Nat)) := by
  refine atI_nat ?_
  unfold plL
  rw [List.getElem?_map, List.getElem?_range (by omega)]
  rfl
theorem tall_st {L : LS} (o : LOk L) {S : List Int} (hs : Sk.Srt S) {n : Int} (hn : n ∉ S) {t : Nat} (ht : IsTall L.w L.h (Sk.bel S n) n t) {l : Nat} (hl : l ≤ L.h) : l < t ↔ Sk.St (L.w ^ l) (Sk.ins S n) n := by
  have hp := (pow_ok o hl).1
  rw [Sk.st_ins_n hp hs hn]
  cases e : Sk.bel S n with
  | none =>
    rw [e] at ht
    have : t = L.h + 1 := ht
    constructor
    · intro _ z hz; cases hz
    · intro _; omega
  | some b =>
    rw [e] at ht
    obtain ⟨t1, t2, t3⟩ := ht
    constructor
    · intro q z hz
      cases hz
      exact t2 l q
    · intro q
      rcases Nat.lt_or_ge l t with q2 | q2
      · exact q2
      · have h3 := t3 (by omega)
        obtain ⟨d, rfl⟩ : ∃ d, l = t + d := ⟨l - t, by omega⟩
        exact absurd (by rw [Int.pow_add, Sk.div_mul (pow_ok o (l := t) (by omega)).1, Sk.div_mul (pow_ok o (l := t) (by omega)).1, h3]) (q b rfl)
section
variable {P : Program} {w : World} {K : PySem.W.Frag} {mg : Str → Option Value} {base : Heap} {A : Ads}
def sp_put (C O1 O2 : Addr) : Sp := fun vs H Q E => ∃ (p : Addr) (n : Int) (L : LS) (S : List Int), vs = [.ref p, .int n] ∧ Lad C H p L S ∧
  (0 ≤ n → n < L.w ^ L.h → n ∉ S → S.length ≤ 99 ∧ ∀ t H', Keeps L p H H' → H t = none → TupL H' t (putT L S n (L.h + 1)) → Lad C H' p L (Sk.ins S n) → Q (.ref t) H') ∧
  (¬ (0 ≤ n ∧ n < L.w ^ L.h) → E (.ref O1) none H) ∧ (0 ≤ n → n < L.w ^ L.h → n ∈ S → E (.ref O2) none H)
theorem ins_head {S : List Int} (hs : Sk.Srt S) {n : Int} : (Sk.ins S n).head? = match Sk.bel S n with | none => some n | some _ => S.head? := by
  cases e : Sk.bel S n with
  | none =>
    have e' := Sk.bel_none.mp e
    show ((S.filter fun z => decide (z < n)) ++ n :: _).head? = some n
    rw [List.filter_eq_nil_iff.mpr fun z hz => by have := e' z hz; simp; omega]
    rfl
  | some b =>
    obtain ⟨b1, b2, _⟩ := (Sk.bel_some hs).mp e
    cases eh : S.head? with
    | none => rw [Sk.head_nil eh] at b1; cases b1
    | some a =>
      have ab := Sk.head_le hs eh b b1
      cases S with
      | nil => cases eh
      | cons x r =>
        have : x = a := Option.some.inj eh
        subst this
        unfold Sk.ins
        rw [List.filter_cons, if_pos (decide_eq_true (by omega))]
        rfl
theorem behind_use {C p : Addr} {H : Hp} {L : LS} {S0 : List Int} {n : Int} {Q : VK} {E : XK} (Ld : Lad C H p L S0) (hn : n ∉ S0) (h : Q (ov (Sk.abv S0 n)) H) : sp_behind C [.ref p, ov (Sk.bel S0 n)] H Q E :=
  ⟨p, Sk.bel S0 n, L, S0, rfl, Ld, fun hb => by rw [Sk.abv_head2 Ld.srt hn hb]; exact h, fun b hb => ⟨((Sk.bel_some Ld.srt).mp hb).1, by rw [Sk.abv_bel2 Ld.srt hn hb]; exact h⟩⟩
theorem ok_put (T : Txt K mg A) : FO P w K mg base 5 A.put ["self", "number"] (sp_put A.Ladder A.OutOfRange A.Present) := by
  obtain ⟨fd_has, G_has, B_has⟩ := ok_has (P := P) (w := w) (base := base) T
  obtain ⟨fd_nearest, G_nearest, B_nearest⟩ := ok_nearest (P := P) (w := w) (base := base) T
  obtain ⟨fd_behind, G_behind, B_behind⟩ := ok_behind (P := P) (w := w) (base := base) T
  obtain ⟨fd_tall, G_tall, B_tall⟩ := ok_tall (P := P) (w := w) (base := base) T
  obtain ⟨fd_alike, G_alike, B_alike⟩ := ok_alike (P := P) (w := w) (base := base) T
  obtain ⟨fd_stand_in, G_stand_in, B_stand_in⟩ := ok_stand_in (P := P) (w := w) (base := base) T
  have S := sc_put
  refine FO.mk' T.f_put S b_put (fun vs H Q E h => by obtain ⟨_, _, _, _, rfl, _⟩ := h; rfl) (fun cdv Ar outer s H vs Q E hr h => ?_)
  have hu := hu_of hr
  obtain ⟨p, n, L, S0, rfl, Ld, k1, k2, k3⟩ := h
  have X := Ld.toLadX
  have lt := T.lt
  have hs := Ld.srt
  have ok := Ld.ok
  have hh := ok.h2
  refine ⟨_, (pss_cons (ps_if (pt_val (pe_meth (pv 0) T.lt.cl T.m_has G_has (hr.mono (by decide)) B_has .nil (passes_call (takes_of rfl rfl rfl rfl) (fun _ _ _ _ z => z)) (pa_cons (pv 1) pa_nil)))
    (pss_one (ps_raise rfl (takes_of rfl rfl rfl rfl) (pmk_own PySem.F.excBase_ValueError T.x_Present.x T.x_Present.g T.x_Present.k (raises_own T.x_Present.b T.x_Present.t) rfl)))
    pss_nil)
  (pss_cons (ps_asg (pe_call G_nearest (hr.mono (by decide)) rfl T.g_nearest T.k_nearest B_nearest .nil passL (pa_cons (pv 0) (pa_cons (pv 1) pa_nil))) (pg_tup (by rfl) (pgs_cons (pg_name (i := 2) S.nd rfl (Or.inl rfl)) (pgs_cons (pg_name (i := 3) S.nd rfl (Or.inl rfl)) pgs_nil))))
  (pss_cons (ps_set (i := 4) S.nd rfl (Or.inl rfl) (pe_ix (k_ixL (K := K) rfl) (pv 2) pe_int (fun _ _ => rfl)))
  (pss_cons (ps_set (i := 5) S.nd rfl (Or.inl rfl) (pe_meth (pv 0) T.lt.cl T.m_behind G_behind (hr.mono (by decide)) B_behind .nil passL (pa_cons (pv 4) pa_nil)))
  (pss_consC (ps_set (i := 6) S.nd rfl (Or.inl rfl) (pe_ifExp (pt_cmpR o_isN (pv 4) pe_non (nomark _)) pe_int (pe_op o_add (pe_ix (k_ixL (K := K) rfl) (pv 3) pe_int (fun _ _ => rfl)) pe_int)))
  (pss_cons (ps_set (i := 7) S.nd rfl (Or.inl rfl) (pe_call G_tall (hr.mono (by decide)) rfl T.g_tall T.k_tall B_tall .nil passL (pa_cons (k_fld (K := K) rfl (pv 0) rfl) (pa_cons (k_fld (K := K) rfl (pv 0) rfl) (pa_cons (pv 4) (pa_cons (pv 1) pa_nil))))))
  (pss_cons (ps_set (i := 8) S.nd rfl (Or.inl rfl) (pe_lst pa_nil))
  (pss_cons (ps_for (passes_of rfl) rfl (pi_range1 rfl T.z_range (pa_cons (pe_op o_add (k_fld (K := K) rfl (pv 0) rfl) pe_int) pa_nil)) (pg_name (i := 9) S.nd rfl (Or.inl rfl))
    (pss_one (ps_if (pt_cmpR o_lt (pv 9) (pv 7) (nomark _))
      (pss_cons (ps_set (i := 10) S.nd rfl (Or.inl rfl) (pe_meth (pv 0) T.lt.cl T.m_alike G_alike (hr.mono (by decide)) B_alike .nil passL (pa_cons (pv 9) (pa_cons (pv 1) (pa_cons (pv 5) pa_nil)))))
      (pss_cons (ps_expr (pe_meth (pv 0) T.lt.cl T.m_stand_in G_stand_in (hr.mono (by decide)) B_stand_in .nil passL (pa_cons (pv 9) (pa_cons (pv 1) (pa_cons (pe_ix (k_ixL (K := K) rfl) (pv 2) (pv 9) (fun _ _ => rfl)) (pa_cons (pe_op o_sub (pv 6) (pe_ix (k_ixL (K := K) rfl) (pv 3) (pv 9) (fun _ _ => rfl))) (pa_cons (pv 10) pa_nil)))))))
      (pss_one (ps_expr (pe_bm PySem.F.plainAttrs_list PySem.F.slot_list_append PySem.F.type_list_append mt_append (pv 8) (pa_cons (pe_tup (pa_cons (pv 9) (pa_cons (pv 1) (pa_cons (pv 10) pa_nil)))) pa_nil))))))
      (pss_one (ps_daug hu (pe_ix (k_ixL (K := K) rfl) (k_fld (K := K) rfl (pv 0) rfl) (pv 9) (fun _ _ => rfl)) (pe_ix (k_ixL (K := K) rfl) (pv 2) (pv 9) (fun _ _ => rfl)) pe_int in_add (fun _ _ _ => rfl))))))
  (pss_consC (ps_if (pt_cmpR o_isN (pv 4) pe_non (nomark _))
    (pss_one (ps_fld (pv 0) (pv 1) rfl))
    pss_nil)
  (pss_cons (ps_fld (pv 0) (pe_op o_add (k_fld (K := K) rfl (pv 0) rfl) pe_int) rfl)
  (pss_one (ps_ret (pv 8))))))))))))), ?_⟩
  walk_at "go"
  refine ⟨p, n, L, S0, rfl, Ld, fun r1 r2 => ?_, k2⟩
  walk_at "go"
  refine g_ite (fun e => ?_) (fun e => ?_)
  · exact k3 r1 r2 (of_decide_eq_true e)
  have hn := of_decide_eq_false e
  obtain ⟨hlen, k1⟩ := k1 r1 r2 hn
  walk_at "go"
  refine ⟨p, n, L, S0, rfl, Ld, fun tt bq qq H1 s1 nt nb nq et eb eq => ?_⟩
  have Ld1 := Ld.same s1
  have X1 := Ld1.toLadX
  walk_at "go"
  refine g_gtup (.of et) rfl ?_
  walk_at "go"
  have b0 := bfL_at (L := L) (S := S0) (n := n) (Nat.zero_le _)
  rw [Int.pow_zero, Sk.bf_one hs] at b0
  have p0 := plL_at (L := L) (S := S0) (n := n) (Nat.zero_le _)
  refine g_ixL (.of eb) b0 ?_
  walk_at "go"
  refine behind_use Ld1 hn ?_
  walk_at "go"
  refine g_cut (fun σ' H2 => H2 = H1 ∧ σ' = [some (.ref p), some (.int n), some (.ref bq), some (.ref qq), some (ov (Sk.bel S0 n)), some (ov (Sk.abv S0 n)), some (.int (Sk.rk S0 n : Nat)), none, none, none, none]) (fun N hN => ?_) ?_
  · walk_at "go"
    cases ebb : Sk.bel S0 n with
    | none =>
      rw [ebb] at hN
      refine g_iteT rfl ?_
      walk_at "go"
      exact hN _ _ ⟨rfl, by rw [Sk.bel_none_rk ebb]; rfl⟩
    | some c =>
      rw [ebb] at hN
      refine g_iteF rfl ?_
      walk_at "go"
      refine g_ixL (.of eq) p0 ?_
      walk_at "go"
      refine hN _ _ ⟨rfl, ?_⟩
      have : Sk.pl (L.w ^ 0) S0 n = Sk.rk S0 c := by
        unfold Sk.pl
        rw [Int.pow_zero, Sk.bf_one hs, ebb]
      rw [this, Sk.bel_rk hs ebb]
      rfl
  rintro σ' H2 ⟨rfl, rfl⟩
  walk_at "go"
  refine ⟨L.w, L.h, Sk.bel S0 n, n, rfl, ok.w1, ok.w2, hh, fun t ht => ?_⟩
  have hst := fun {l : Nat} (hl : l ≤ L.h) => tall_st ok hs hn ht hl
  walk_at "go"
  refine g_newL (by decide) fun told H3 ntold1 s3 e3 => ?_
  have ntold := s1.free ntold1
  have s13 := s1.trans s3
  have X3 := (Ld.same s13).toLadX
  walk_at "go"
  refine g_rng (by omega) (by omega) ?_
  rw [show ((L.h : Int) + 1).toNat = L.h + 1 by omega]
  have nob := own_no X nb
  have noq := own_no X nq
  have not_ := own_no X ntold
  have neb : bq ≠ told := ne_of_none eb ntold1
  have neq : qq ≠ told := ne_of_none eq ntold1
  refine for_range (lo := 0) (fun i σ H' => ∃ v9 v10 : Option V, σ = [some (.ref p), some (.int n), some (.ref bq), some (.ref qq), some (ov (Sk.bel S0 n)), some (ov (Sk.abv S0 n)), some (.int (Sk.rk S0 n : Nat)), some (.int (t : Int)), some (.ref told), v9, v10] ∧
      LadX A.Ladder H' p L S0.head? (S0.length : Int) (fun l => if l < i then Sk.ins S0 n else S0) ∧ TupL H' told (putT L S0 n i) ∧ Keeps L p H H' ∧ H' bq = some (.lst (bfL L S0 n)) ∧ H' qq = some (.lst (plL L S0 n)))
    ⟨none, none, rfl, X3.congr fun l _ => by rw [if_neg (Nat.not_lt_zero l)], tupl_nil e3, Same.keeps (L := L) (p := p) s13, s3 _ _ eb, s3 _ _ eq⟩ ?_ ?_
  · rintro i σ H' hi ⟨v9, v10, rfl, X', tq, kp, eb', eq'⟩
    have hi' : i ≤ L.h := by omega
    have nxt : ∀ {H5 : Hp}, LadX A.Ladder H5 p L S0.head? (S0.length : Int) (fun j => if j = i then Sk.ins S0 n else if j < i then Sk.ins S0 n else S0) → LadX A.Ladder H5 p L S0.head? (S0.length : Int) (fun l => if l < i + 1 then Sk.ins S0 n else S0) := fun x => x.congr fun l _ => by
      by_cases q : l = i
      · rw [if_pos q, if_pos (by omega)]
      · rw [if_neg q]
        by_cases q2 : l < i
        · rw [if_pos q2, if_pos (by omega)]
        · rw [if_neg q2, if_neg (by omega)]
    have eTi : (fun l => if l < i then Sk.ins S0 n else S0) i = S0 := if_neg (Nat.lt_irrefl i)
    have dni := X'.dn i hi'
    have dgi := X'.dg i hi'
    have off : ∀ {c : Addr}, ¬ L.own p c → c ≠ L.ds i ∧ c ≠ L.gs i := fun h => ⟨fun q => h (q ▸ own_ds hi'), fun q => h (q ▸ own_gs hi')⟩
    have zi : (0 : Int) + (i : Int) = (i : Int) := Int.zero_add _
    rw [zi]
    walk_at "go"
    refine g_ite (fun e => ?_) (fun e => ?_)
    · have hstI := (hst hi').mp (by have := of_decide_eq_true e; omega)
      walk_at "go"
      refine ⟨p, i, n, Sk.abv S0 n, L, _, _, _, rfl, X', hi', ?_⟩
      walk_at "go"
      refine g_ixL (.of eb') (bfL_at hi') ?_
      walk_at "go"
      refine g_ixL (.of eq') (plL_at hi') ?_
      walk_at "go"
      refine ⟨p, i, n, _, _, _, L, S0, _, _, rfl, X', hi', eTi, hs, hn, by omega, hstI, rfl, fun c hc => ?_, rfl, fun H4 b4 dn4 dg4 => ?_⟩
      · show (Sk.rk S0 n : Int) - (Sk.pl (L.w ^ i) S0 n : Nat) = _
        unfold Sk.pl
        rw [hc]
      have X4 := X'.lev hi' b4 dn4 dg4
      have tq4 := tq.dicts dni dgi b4
      have kp4 : Keeps L p H H4 := kp.step fun c hc => b4 c (off hc).1 (off hc).2
      walk_at "go"
      refine ⟨by obtain ⟨as, h1, _⟩ := tq4; exact ty_lst h1, ?_⟩
      walk_at "go"
      refine g_newT (by show 3 ≤ 1000; decide) fun tu H5 ntu s5 e5 => ?_
      walk_at "go"
      refine g_appT (tq4.same s5) e5 (by have := putT_len (L := L) (S := S0) (n := n) (i := i); omega) fun H6 b6 tq6 => ?_
      have X6 := (X4.same s5).at fun c hc => b6 c fun q => not_ (q ▸ hc)
      have kp6 : Keeps L p H H6 := (kp4.same s5).but (s1.free ntold1) b6
      refine ⟨_, _, rfl, nxt X6, by rw [putT_yes hstI]; exact tq6, kp6, ?_, ?_⟩
      · exact (b6 _ neb).trans (s5 _ _ ((b4 _ (off nob).1 (off nob).2).trans eb'))
      · exact (b6 _ neq).trans (s5 _ _ ((b4 _ (off noq).1 (off noq).2).trans eq'))
    · have hns : ¬ Sk.St (L.w ^ i) (Sk.ins S0 n) n := fun q => by
        have h1 := (hst hi').mpr q
        have h2 := of_decide_eq_false e
        omega
      have hc := (pow_ok ok hi').1
      obtain ⟨b, hb⟩ : ∃ b, Sk.bf (L.w ^ i) S0 n = some b := by
        cases q : Sk.bf (L.w ^ i) S0 n with
        | some b => exact ⟨b, rfl⟩
        | none =>
          refine absurd ((Sk.st_ins_n hc hs hn).mpr fun z hz => ?_) hns
          rw [Sk.bf_none.mp q] at hz; cases hz
      obtain ⟨u1, u2, u3⟩ := Sk.put_stay hc hs hn hb hns
      simp only [if_neg (Nat.lt_irrefl i)] at dni dgi
      walk_at "go"
      refine g_ixL (.of eb') (bfL_at hi') ?_
      rw [hb]
      walk_at "go"
      refine g_diAugA (z := (Sk.gp (L.w ^ i) S0 b : Int)) dgi (by decide) (by unfold gV; rw [gA_of u3]; rfl) fun H4 b4 dg4 => ?_
      have dn4 : DI 200 H4 (L.ds i) (nV (L.w ^ i) (Sk.ins S0 n)) := (dni.at (b4 _ (ok.dg i i hi' hi'))).to fun k => by unfold nV; rw [u1]
      have dg4' : DI 200 H4 (L.gs i) (gV (L.w ^ i) (Sk.ins S0 n)) := (((dg4.to (g := gV (L.w ^ i) (Sk.ins S0 n)) fun k => by
        unfold gV
        rw [u2]
        by_cases q : k = b
        · rw [if_pos q, if_pos q]; rfl
        · rw [if_neg q, if_neg q]).tight fun k v => gV_mem).mono (by rw [Sk.len_ins hs hn]; omega))
      have b4' : ∀ c, c ≠ L.ds i → c ≠ L.gs i → H4 c = H' c := fun c _ h => b4 c h
      refine ⟨_, _, rfl, nxt (X'.lev hi' b4' dn4 dg4'), by rw [putT_no hns]; exact tq.dicts dni dgi b4', kp.step fun c hc => b4' c (off hc).1 (off hc).2, ?_, ?_⟩
      · exact (b4 _ (off nob).2).trans eb'
      · exact (b4 _ (off noq).2).trans eq'
  · rintro σ H' ⟨v9, v10, rfl, X', tq, kp, eb', eq'⟩
    have X5 : LadX A.Ladder H' p L S0.head? (S0.length : Int) (fun _ => Sk.ins S0 n) := X'.congr fun l hl => if_pos (by omega)
    have fin : ∀ {H5 H6 : Hp} {le : Option Int} {m : Int}, LadX A.Ladder H5 p L le m (fun _ => Sk.ins S0 n) → le = (Sk.ins S0 n).head? → m = ((Sk.ins S0 n).length : Int) → Lad A.Ladder H5 p L (Sk.ins S0 n) := fun x e1 e2 => by
      subst e1; subst e2
      exact { x with
        srt := Sk.srt_ins hs n
        lo := fun z hz => (Sk.mem_ins.mp hz).elim (fun e => e ▸ r1) (Ld.lo z)
        hi := fun z hz => (Sk.mem_ins.mp hz).elim (fun e => e ▸ r2) (Ld.hi z)
        len := by rw [Sk.len_ins hs hn]; omega }
    walk_at "go"
    refine g_cut (fun σ' H2 => ∃ v9 v10 : Option V, σ' = [some (.ref p), some (.int n), some (.ref bq), some (.ref qq), some (ov (Sk.bel S0 n)), some (ov (Sk.abv S0 n)), some (.int (Sk.rk S0 n : Nat)), some (.int (t : Int)), some (.ref told), v9, v10] ∧ 
        LadX A.Ladder H2 p L (Sk.ins S0 n).head? (S0.length : Int) (fun _ => Sk.ins S0 n) ∧ TupL H2 told (putT L S0 n (L.h + 1)) ∧ Keeps L p H H2) (fun N hN => ?_) ?_
    · walk_at "go"
      cases ebb : Sk.bel S0 n with
      | none =>
        rw [ebb] at hN
        refine g_iteT rfl ?_
        walk_at "go"
        refine lad_setLeast lt X5 (some n) fun H4 b4 X6 => ?_
        refine hN _ _ ⟨_, _, rfl, by rw [ins_head hs, ebb]; exact X6, tq.inst X5.ob b4, kp.step fun c hc => b4 c fun q => hc (.inl q)⟩
      | some c =>
        rw [ebb] at hN
        refine g_iteF rfl ?_
        walk_at "go"
        refine hN _ _ ⟨_, _, rfl, by rw [ins_head hs, ebb]; exact X5, tq, kp⟩
    rintro σ' H2 ⟨v9, v10, rfl, X6, tq6, kp6⟩
    walk_at "go"
    refine lad_setMany lt X6 ((S0.length : Int) + 1) fun H4 b4 X7 => ?_
    walk_at "go"
    exact k1 told H4 (kp6.step fun c hc => b4 c fun q => hc (.inl q)) ntold (tq6.inst X6.ob b4) (fin (H6 := H4) X7 rfl (by rw [Sk.len_ins hs hn]; rfl))

end
end Lk

namespace Lk
open PySem PySem.Spec PyProof.Rows L2
section
variable {H H' : Hp} {Q : VK} {K : PySem.W.Frag}
theorem di_new {d : Addr} {n : Nat} (e : H d = some (.dK [])) : DI n H d fun _ => none := ⟨[], e, .nil, Nat.zero_le _, fun _ => rfl, fun _ => rfl⟩
theorem g_lcD {i : Nat} {vs : List Nat} {σ : L2.St} {H1 : Hp} {n : Nat} (hn : n ≤ 1000) (hw : ∀ x : V, wipe ((wipe σ vs).set i (some x)) vs = wipe σ vs)
    (h : ∀ (D : Addr) (f : Nat → Addr) (H' : Hp), H1 D = none → Same H1 H' → H' D = some (.lst ((List.range n).map fun l => V.ref (f l))) → (∀ l, l < n → H1 (f l) = none ∧ H' (f l) = some (.dK [])) → (∀ l m, l < n → m < n → f l = f m → l = m) → Q (.ref D) H') :
    dLc (gName i) tYes tDNewK vs σ (Itr 0 n) H1 Q := fun D hD =>
  lc_range (lo := 0) (n := n) (fun j H' => ∃ f : Nat → Addr, Same H1 H' ∧ H' D = some (.lst ((List.range j).map fun l => V.ref (f l))) ∧ (∀ l, l < j → H1 (f l) = none ∧ H' (f l) = some (.dK [])) ∧ (∀ l m, l < j → m < j → f l = f m → l = m))
    ⟨fun _ => 0, same_new hD, upd_same, fun l hl => absurd hl (Nat.not_lt_zero l), fun l m hl => absurd hl (Nat.not_lt_zero l)⟩
    (fun j H' hj ⟨f, s, e, h1, h2⟩ => ⟨hw _, g_yes (by
      rw [if_pos rfl]
      intro q nq
      have nqD : D ≠ q := ne_of_none e nq
      obtain ⟨g, g1, g2⟩ : ∃ g : Nat → Addr, (∀ l, l = j → g l = q) ∧ ∀ l, ¬ l = j → g l = f l := ⟨fun l => if l = j then q else f l, fun l c => if_pos c, fun l c => if_neg c⟩
      refine ⟨_, (upd_ne nqD).trans e, small1000 (by rw [List.length_map, List.length_range]; omega), g, same_mut (same_mut s (s.free nq)) hD, ?_, fun l hl => ?_, fun l m hl hm => ?_⟩
      · rw [upd_same, List.range_succ, List.map_append]
        refine congrArg (fun z => some (HO.lst z)) (congr (congrArg HAppend.hAppend (List.map_congr_left fun l hl => ?_)) ?_)
        · rw [g2 l (by have := List.mem_range.mp hl; omega)]
        · rw [List.map_singleton, g1 j rfl]
      · by_cases c : l = j
        · rw [g1 l c, upd_ne (Ne.symm nqD), upd_same]
          exact ⟨s.free nq, rfl⟩
        · rw [g2 l c]
          obtain ⟨a1, a2⟩ := h1 l (by omega)
          rw [upd_ne (ne_of a2 e (by intro z; cases z)), upd_ne (ne_of_none a2 nq)]
          exact ⟨a1, a2⟩
      · intro q2
        have nf : ∀ l, l < j → f l ≠ q := fun l hl => ne_of_none (h1 l hl).2 nq
        by_cases c : l = j
        · by_cases c2 : m = j
          · omega
          · rw [g1 l c, g2 m c2] at q2
            exact absurd q2.symm (nf m (by omega))
        · by_cases c2 : m = j
          · rw [g2 l c, g1 m c2] at q2
            exact absurd q2 (nf l (by omega))
          · rw [g2 l c, g2 m c2] at q2
            exact h2 l m (by omega) (by omega) q2)⟩)
    fun H' ⟨f, s, e, h1, h2⟩ => h D f H' hD s e h1 h2
theorem g_fsetN {D : Ends} {σ : L2.St} {f : Str} {y : V} {p C dx : Addr} {fs : List (Str × V)} (e : H p = some (.ins C dx fs)) (t : Cls K C) (n : NoAttr K C f) (hl : fs.length < 1000)
    (h : ∀ H', But p H H' → H' p = some (.ins C dx (putF f y fs)) → D.nx σ H') : dFset K f D σ y (.ref p) H := ⟨p, C, dx, fs, rfl, e, t, n, hl, h _ (fun b hb => upd_ne hb) upd_same⟩
theorem lf_build {w h lim many : Int} {le : Option Int} {nx gx : Addr} : putF "gaps" (.ref gx) (putF "nexts" (.ref nx) (putF "least" (ov le) (putF "many" (.int many) (putF "limit" (.int lim) (putF "high" (.int h) (putF "width" (.int w) [])))))) = lf w h lim many le nx gx := by
  rfl
end
section
variable {P : Program} {w : World} {K : PySem.W.Frag} {mg : Str → Option Value} {base : Heap} {A : Ads}
def sp_init (C O1 : Addr) : Sp := fun vs H Q E => ∃ (p dx : Addr) (w h : Int), vs = [.ref p, .int w, .int h] ∧ H p = some (.ins C dx []) ∧
  ((2 ≤ w ∧ w ≤ 9 ∧ 1 ≤ h ∧ h ≤ 12) → ∀ (L : LS) H', L.w = w → (L.h : Int) = h → Lad C H' p L [] → (∀ b o, H b = some o → b ≠ p → H' b = some o) → (∀ b, L.own p b → b ≠ p → H b = none) → Q .non H') ∧
  (¬ (2 ≤ w ∧ w ≤ 9 ∧ 1 ≤ h ∧ h ≤ 12) → E (.ref O1) none H)
theorem ok___init__ (T : Txt K mg A) : FO P w K mg base 3 A.init ["self", "width", "high"] (sp_init A.Ladder A.BadSize) := by
  obtain ⟨fd_power, G_power, B_power⟩ := ok_power (P := P) (w := w) (base := base) T
  have S := sc___init__
  refine FO.mk' T.f___init__ S b___init__ (fun vs H Q E h => by obtain ⟨_, _, _, _, rfl, _⟩ := h; rfl) (fun cdv Ar outer s H vs Q E hr h => ?_)
  have hu := hu_of hr
  obtain ⟨p, dx, wd, hh, rfl, ep, k1, k2⟩ := h
  have lt := T.lt
  refine ⟨_, (pss_cons (ps_if (PW.pt (pw_or (pt_cmpR o_lt (pv 1) pe_int (nomark _)) (pw_or (pt_cmpR o_gt (pv 1) pe_int (nomark _)) (pw_or (pt_cmpR o_lt (pv 2) pe_int (nomark _)) (pw_or1 (pt_cmpR o_gt (pv 2) pe_int (nomark _)))))))
    (pss_one (ps_raise rfl (takes_of rfl rfl rfl rfl) (pmk_own PySem.F.excBase_ValueError T.x_BadSize.x T.x_BadSize.g T.x_BadSize.k (raises_own T.x_BadSize.b T.x_BadSize.t) rfl)))
    pss_nil)
  (pss_cons (ps_fld (pv 0) (pv 1) rfl)
  (pss_cons (ps_fld (pv 0) (pv 2) rfl)
  (pss_cons (ps_fld (pv 0) (pe_call G_power (hr.mono (by decide)) rfl T.g_power T.k_power B_power .nil passL (pa_cons (pv 1) (pa_cons (pv 2) pa_nil))) rfl)
  (pss_cons (ps_fld (pv 0) pe_int rfl)
  (pss_cons (ps_fld (pv 0) pe_non rfl)
  (pss_cons (ps_fld (pv 0) (pe_lc (own := [("level", 3)]) (g := gName 3) (tt := tYes) (by rfl) S.nd (pi_range1 rfl T.z_range (pa_cons (pe_op o_add (pv 2) pe_int) pa_nil)) (blkOk_by (N := N___init__) (sc := defScope s___init__) (by decide +kernel)) (fun _ _ _ _ _ => pg_name (i := 3) S.nd rfl (Or.inl rfl)) (fun _ _ _ _ _ => pts_nil) (fun _ _ _ _ _ => pe_dnewK)) rfl)
  (pss_one (ps_fld (pv 0) (pe_lc (own := [("level", 3)]) (g := gName 3) (tt := tYes) (by rfl) S.nd (pi_range1 rfl T.z_range (pa_cons (pe_op o_add (pv 2) pe_int) pa_nil)) (blkOk_by (N := N___init__) (sc := defScope s___init__) (by decide +kernel)) (fun _ _ _ _ _ => pg_name (i := 3) S.nd rfl (Or.inl rfl)) (fun _ _ _ _ _ => pts_nil) (fun _ _ _ _ _ => pe_dnewK)) rfl))))))))), ?_⟩
  have bad : ¬ (2 ≤ wd ∧ wd ≤ 9 ∧ 1 ≤ hh ∧ hh ≤ 12) → E (.ref A.BadSize) none H := k2
  walk_at "go"
  refine g_ite (fun e => k2 fun q => by have := of_decide_eq_true e; omega) (fun e1 => ?_)
  walk_at "go"
  refine g_ite (fun e => k2 fun q => by have := of_decide_eq_true e; omega) (fun e2 => ?_)
  walk_at "go"
  refine g_ite (fun e => k2 fun q => by have := of_decide_eq_true e; omega) (fun e3 => ?_)
  walk_at "go"
  refine g_ite (fun e => k2 fun q => by have := of_decide_eq_true e; omega) (fun e4 => ?_)
  have c1 := of_decide_eq_false e1
  have c2 := of_decide_eq_false e2
  have c3 := of_decide_eq_false e3
  have c4 := of_decide_eq_false e4
  obtain ⟨h, rfl⟩ : ∃ h : Nat, hh = (h : Int) := ⟨hh.toNat, by omega⟩
  walk_at "go"
  refine g_fsetN ep lt.cl lt.width (by show 0 < 1000; decide) fun H1 b1 p1 => ?_
  walk_at "go"
  refine g_fsetN p1 lt.cl lt.high (by show 1 < 1000; decide) fun H2 b2 p2 => ?_
  walk_at "go"
  refine ⟨wd, h, rfl, by omega, by omega, by omega, ?_⟩
  walk_at "go"
  refine g_fsetN p2 lt.cl lt.limit (by show 2 < 1000; decide) fun H3 b3 p3 => ?_
  walk_at "go"
  refine g_fsetN p3 lt.cl lt.many (by show 3 < 1000; decide) fun H4 b4 p4 => ?_
  walk_at "go"
  refine g_fsetN p4 lt.cl lt.least (by show 4 < 1000; decide) fun H5 b5 p5 => ?_
  have np : ∀ b, b ≠ p → H5 b = H b := fun b hb => (b5 b hb).trans ((b4 b hb).trans ((b3 b hb).trans ((b2 b hb).trans (b1 b hb))))
  walk_at "go"
  refine g_rng (by omega) (by omega) ?_
  rw [show ((h : Int) + 1).toNat = h + 1 by omega]
  refine g_lcD (by omega) (fun _ => rfl) fun nx f H6 n6 s6 e6 h6 i6 => ?_
  walk_at "go"
  have pnx : nx ≠ p := Ne.symm (ne_of_none p5 n6)
  refine g_fsetN (s6 _ _ p5) lt.cl lt.nexts (by show 5 < 1000; decide) fun H7 b7 p7 => ?_
  walk_at "go"
  refine g_rng (by omega) (by omega) ?_
  rw [show ((h : Int) + 1).toNat = h + 1 by omega]
  refine g_lcD (by omega) (fun _ => rfl) fun gx g H8 n8 s8 e8 h8 i8 => ?_
  walk_at "go"
  refine g_fsetN (s8 _ _ p7) lt.cl lt.gaps (by show 6 < 1000; decide) fun H9 b9 p9 => ?_
  have pgx : gx ≠ p := Ne.symm (ne_of_none p7 n8)
  have e7 : H7 nx = some (.lst ((List.range (h + 1)).map fun l => V.ref (f l))) := (b7 _ pnx).trans e6
  have pf : ∀ l, l < h + 1 → f l ≠ p := fun l hl => Ne.symm (ne_of_none p5 (h6 l hl).1)
  have pg : ∀ l, l < h + 1 → g l ≠ p := fun l hl => Ne.symm (ne_of_none p7 (h8 l hl).1)
  have f7 : ∀ l, l < h + 1 → H7 (f l) = some (.dK []) := fun l hl => (b7 _ (pf l hl)).trans (h6 l hl).2
  have f9 : ∀ l, l < h + 1 → H9 (f l) = some (.dK []) := fun l hl => (b9 _ (pf l hl)).trans (s8 _ _ (f7 l hl))
  have g9 : ∀ l, l < h + 1 → H9 (g l) = some (.dK []) := fun l hl => (b9 _ (pg l hl)).trans (h8 l hl).2
  have nd : ∀ c : Int, ∀ k, nV c [] k = none := fun c k => by
    unfold nV Sk.nA
    rw [if_neg fun q => nomatch q.1]; rfl
  have gd : ∀ c : Int, ∀ k, gV c [] k = none := fun c k => by
    unfold gV Sk.gA
    rw [if_neg fun q => nomatch q.1]; rfl
  have free : ∀ {b : Addr}, H7 b = none → b ≠ p → H b = none := fun {b} q1 q2 => by
    cases e : H b with
    | none => rfl
    | some o => rw [(b7 b q2).trans (s6 b o ((np b q2).trans e))] at q1; cases q1
  have free5 : ∀ {b : Addr}, H5 b = none → b ≠ p → H b = none := fun {b} q1 q2 => (np b q2).symm.trans q1
  refine k1 ⟨by omega, by omega, by omega, by omega⟩ ⟨wd, h, dx, nx, gx, f, g⟩ H9 rfl rfl ?_ (fun b o e q => (b9 b q).trans (s8 _ _ ((b7 b q).trans (s6 _ _ ((np b q).trans e))))) ?_
  · exact {
      ok := ⟨by show 2 ≤ wd; omega, by show wd ≤ 9; omega, by show 1 ≤ h; omega, by show h ≤ 12; omega, ne_of_none e7 n8, fun i j hi hj => i6 i j (Nat.lt_succ_of_le hi) (Nat.lt_succ_of_le hj), fun i j hi hj => i8 i j (Nat.lt_succ_of_le hi) (Nat.lt_succ_of_le hj),
        fun i j hi hj => ne_of_none (f7 i (Nat.lt_succ_of_le hi)) (h8 j (Nat.lt_succ_of_le hj)).1⟩
      ob := p9.trans (by rw [show (V.non : V) = ov none from rfl, lf_build]; rfl)
      nl := (b9 _ pnx).trans (s8 _ _ e7)
      gl := (b9 _ pgx).trans e8
      dn := fun l hl => (di_new (f9 l (Nat.lt_succ_of_le hl))).to fun k => (nd _ k).symm
      dg := fun l hl => (di_new (g9 l (Nat.lt_succ_of_le hl))).to fun k => (gd _ k).symm
      srt := .nil
      lo := fun z hz => nomatch hz
      hi := fun z hz => nomatch hz
      len := Nat.zero_le _ }
  · rintro b (rfl | rfl | rfl | ⟨l, hl, rfl | rfl⟩) q
    · exact absurd rfl q
    · exact free5 n6 q
    · exact free n8 q
    · exact free5 (h6 l (Nat.lt_succ_of_le hl)).1 q
    · exact free (h8 l (Nat.lt_succ_of_le hl)).1 q

end
section
variable {H : Hp} {Q : VK}
/-- a new ladder -/
theorem g_ladder {C O : Addr} {E : XK} {w h : Int} (k : 2 ≤ w ∧ w ≤ 9 ∧ 1 ≤ h ∧ h ≤ 12)
    (q : ∀ (p : Addr) (L : LS) H', H p = none → L.w = w → (L.h : Int) = h → Lad C H' p L [] → Same H H' → (∀ b, L.own p b → H b = none) → Q (.ref p) H') : dMake C (sp_init C O) E [.int w, .int h] H Q := fun x dx hx hdx ne => by
  have e1 : ∀ b o, H b = some o → b ≠ x ∧ b ≠ dx := fun b o e => ⟨ne_of_none e hx, ne_of_none e hdx⟩
  refine ⟨x, dx, w, h, rfl, upd_same, fun _ L H' ew eh Ld kp fr => ⟨rfl, q x L H' hx ew eh Ld (fun b o e => ?_) fun b hb => ?_⟩, fun bad => absurd k bad⟩
  · obtain ⟨n1, n2⟩ := e1 b o e
    exact kp b o (by rw [upd_ne n1, upd_ne n2]; exact e) n1
  · by_cases hbx : b = x
    · rw [hbx]; exact hx
    · have := fr b hb hbx
      rw [upd_ne hbx] at this
      by_cases hbd : b = dx
      · rw [hbd, upd_same] at this; cases this
      · rw [upd_ne hbd] at this; exact this
theorem g_badLadder {C O : Addr} {E : XK} {w h : Int} (k : ¬ (2 ≤ w ∧ w ≤ 9 ∧ 1 ≤ h ∧ h ≤ 12)) (q : ∀ H', Same H H' → E (.ref O) none H') : dMake C (sp_init C O) E [.int w, .int h] H Q := fun x dx hx hdx ne =>
  ⟨x, dx, w, h, rfl, upd_same, fun k2 => absurd k2 k, fun _ => q _ (same_mut (same_new hdx) hx)⟩

end
end Lk

namespace Lk
open PySem PySem.Spec PyProof.Rows L2
section
variable {P : Program} {w : World} {K : PySem.W.Frag} {mg : Str → Option Value} {base : Heap} {A : Ads}
def sp_go_out (C : Addr) : Sp := fun vs H Q _ => ∃ (p : Addr) (l : Nat) (n : Int) (b : Option Int) (came : Option Int) (L : LS) (U : List Int) (le : Option Int) (many : Int) (T : Nat → List Int),
  vs = [.ref p, .int (l : Int), .int n, ov b, ov came] ∧ LadX C H p L le many T ∧ l ≤ L.h ∧ T l = Sk.ins U n ∧ Sk.Srt U ∧ n ∉ U ∧ U.length ≤ 100 ∧ Sk.St (L.w ^ l) (Sk.ins U n) n ∧ b = Sk.bf (L.w ^ l) U n ∧
  came = alk (L.w ^ l) n (Sk.abv U n) ∧
  ∀ H', (∀ c, c ≠ L.ds l → c ≠ L.gs l → H' c = H c) → DI 200 H' (L.ds l) (nV (L.w ^ l) U) → DI 200 H' (L.gs l) (gV (L.w ^ l) U) → Q .non H'
theorem nV_out {c : Int} {U : List Int} {n : Int} (h : n ∉ U) : nV c U n = none := by
  cases e : nV c U n with
  | none => rfl
  | some v => exact absurd (nV_mem e) h
theorem gV_out {c : Int} {U : List Int} {n : Int} (h : n ∉ U) : gV c U n = none := by
  cases e : gV c U n with
  | none => rfl
  | some v => exact absurd (gV_mem e) h
theorem ok_go_out (T : Txt K mg A) : FO P w K mg base 2 A.go_out ["self", "level", "number", "before", "came"] (sp_go_out A.Ladder) := by
  have S := sc_go_out
  refine FO.mk' T.f_go_out S b_go_out (fun vs H Q E h => by obtain ⟨_, _, _, _, _, _, _, _, _, _, rfl, _⟩ := h; rfl) (fun cdv Ar outer s H vs Q E hr h => ?_)
  have hu := hu_of hr
  obtain ⟨p, l, n, b, came, L, U, le, many, T0, rfl, X, hl, hT, hs, hn, hlen, hst, hb, hold, k⟩ := h
  have lt := T.lt
  have hp := (pow_ok X.ok hl).1
  have ndg : L.ds l ≠ L.gs l := X.ok.dg l l hl hl
  have dn := X.dn l hl
  have dg := X.dg l hl
  rw [hT] at dn dg
  generalize hc : L.w ^ l = c at *
  have bn : ∀ b0, b = some b0 → b0 ≠ n := fun b0 q q2 => by
    rw [q, q2] at hb
    have := ((Sk.bf_some hp hs).mp hb.symm).2.1
    omega
  refine ⟨_, (pss_cons (ps_set (i := 5) S.nd rfl (Or.inl rfl) (pe_ix (k_ixL (K := K) rfl) (k_fld (K := K) rfl (pv 0) rfl) (pv 1) (fun _ _ => rfl)))
  (pss_cons (ps_set (i := 6) S.nd rfl (Or.inl rfl) (pe_ix (k_ixL (K := K) rfl) (k_fld (K := K) rfl (pv 0) rfl) (pv 1) (fun _ _ => rfl)))
  (pss_cons (ps_set (i := 7) S.nd rfl (Or.inl rfl) (pe_dpop1 (pv 5) (pv 2) ⟨rfl, rfl, rfl, rfl⟩))
  (pss_cons (ps_set (i := 8) S.nd rfl (Or.inl rfl) (pe_dpop1 (pv 6) (pv 2) ⟨rfl, rfl, rfl, rfl⟩))
  (pss_consC (ps_if (pt_cmpR o_notN (pv 4) pe_non (nomark _))
    (pss_cons (ps_dput hu (pv 5) (pv 4) (pv 7) rfl)
    (pss_cons (ps_dput hu (pv 6) (pv 4) (pe_op o_sub (pv 8) pe_int) rfl)
    (pss_one (ps_set (i := 7) S.nd rfl (Or.inl rfl) (pv 4)))))
    (pss_one (ps_if (pt_cmpR o_notN (pv 3) pe_non (nomark _))
      (pss_one (ps_dput hu (pv 6) (pv 3) (pe_op o_sub (pe_op o_add (pe_dget hu (pv 6) (pv 3) (fun _ _ => rfl)) (pv 8)) pe_int) rfl))
      pss_nil)))
  (pss_one (ps_if (pt_cmpR o_notN (pv 3) pe_non (nomark _))
    (pss_one (ps_dput hu (pv 5) (pv 3) (pv 7) rfl))
    pss_nil))))))), ?_⟩
  walk_at "go"
  have enx := nA_of hst
  have egp := gA_of hst
  generalize e1 : Sk.nx c (Sk.ins U n) n = lat at enx
  generalize e2 : Sk.gp c (Sk.ins U n) n = gap at egp
  refine g_diPop dn (k := n) rfl (v := ov lat) (by unfold nV; rw [enx]; rfl) fun H1 b1 d1 => ?_
  walk_at "go"
  have dg1 := dg.at (b1 _ (Ne.symm ndg))
  refine g_diPop dg1 (k := n) rfl (v := .int (gap : Nat)) (by unfold gV; rw [egp]; rfl) fun H2 b2 d2 => ?_
  have d12 := d1.at (b2 _ ndg)
  have bb : ∀ c, c ≠ L.ds l → c ≠ L.gs l → H2 c = H c := fun x h1 h2 => (b2 x h2).trans (b1 x h1)
  walk_at "go"
  refine g_cut (fun σ' H3 => ∃ lt2 : Option Int, σ' = [some (.ref p), some (.int (l : Int)), some (.int n), some (ov b), some (ov came), some (.ref (L.ds l)), some (.ref (L.gs l)), some (ov lt2), some (.int (gap : Nat))] ∧ (∀ c, c ≠ L.ds l → c ≠ L.gs l → H3 c = H c) ∧
      (∃ f, DI 203 H3 (L.ds l) f ∧ ∀ j, b ≠ some j → f j = nV c U j) ∧ DI 203 H3 (L.gs l) (gV c U) ∧ ∀ b0, b = some b0 → Sk.nA c U b0 = some lt2) (fun N hN => ?_) ?_
  · walk_at "go"
    cases ho : came with
    | some a =>
      have hab : Sk.abv U n = some a ∧ n / c = a / c := by
        rw [hold] at ho
        unfold alk at ho
        cases e : Sk.abv U n with
        | none => rw [e] at ho; cases ho
        | some x =>
          rw [e] at ho
          simp only at ho
          split at ho
          · cases ho; exact ⟨rfl, by assumption⟩
          · cases ho
      obtain ⟨hab, ea⟩ := hab
      subst ho
      obtain ⟨sa, f1, f2, f3⟩ := Sk.put_old hp hs hn hst hab ea.symm
      have na : n ≠ a := by have := ((Sk.abv_some hs).mp hab).2.1; omega
      have bfn : ¬ Sk.bf c U n = some n := fun q => bn n (by rw [hb, q]) rfl
      have elat : lat = Sk.nx c U a := by
        have := f1 n
        rw [enx, if_neg bfn, if_pos rfl] at this
        exact Option.some.inj this
      have egap : (gap : Int) = Sk.gp c U a + 1 := by
        have := f2 n
        rw [egp, if_pos rfl] at this
        exact Option.some.inj this
      refine g_iteT rfl ?_
      walk_at "go"
      refine g_diPut (d12.mono (show 200 ≤ 201 by decide)) (by decide) fun H3 b3 d3 => ?_
      walk_at "go"
      have d23 := d2.at (b3 _ (Ne.symm ndg))
      refine g_diPut (d23.mono (show 200 ≤ 202 by decide)) (by decide) fun H4 b4 d4 => ?_
      walk_at "go"
      refine hN _ _ ⟨some a, rfl, fun x h1 h2 => (b4 x h2).trans ((b3 x h1).trans (bb x h1 h2)), ⟨_, (d3.at (b4 _ ndg)).mono (by decide), fun j hj => ?_⟩, d4.to fun j => ?_, fun b0 q => f3 b0 (by rw [← hb, q])⟩
      · have hbj : ¬ Sk.bf c U n = some j := by rw [← hb]; exact hj
        show (if j = a then some (ov lat) else if j = n then none else nV c (Sk.ins U n) j) = _
        by_cases e3 : j = a
        · rw [if_pos e3, e3, elat]
          unfold nV
          rw [nA_of sa]; rfl
        · rw [if_neg e3]
          by_cases e4 : j = n
          · rw [if_pos e4, e4, nV_out hn]
          · rw [if_neg e4]
            unfold nV
            rw [f1 j, if_neg hbj, if_neg e4, if_neg e3]
      · show (if j = a then some (V.int ((gap : Int) - 1)) else if j = n then none else gV c (Sk.ins U n) j) = _
        by_cases e3 : j = a
        · rw [if_pos e3, e3, egap]
          unfold gV
          rw [gA_of sa]
          show some (V.int _) = some (V.int _)
          congr 2
          omega
        · rw [if_neg e3]
          by_cases e4 : j = n
          · rw [if_pos e4, e4, gV_out hn]
          · rw [if_neg e4]
            unfold gV
            rw [f2 j, if_neg e4, if_neg e3]
    | none =>
      have hna : ∀ a, Sk.abv U n = some a → a / c ≠ n / c := fun a ha q => by
        rw [hold] at ho
        unfold alk at ho
        rw [ha] at ho
        simp only [q.symm, if_true] at ho
        cases ho
      obtain ⟨f1, f2, f3⟩ := Sk.put_new hp hs hn hst hna
      have bfn : ¬ Sk.bf c U n = some n := fun q => bn n (by rw [hb, q]) rfl
      have egap : (gap : Int) = 1 := by
        have := f2 n
        rw [egp, if_pos rfl] at this
        exact Option.some.inj this
      have fN : ∀ j, b ≠ some j → (if j = n then none else nV c (Sk.ins U n) j) = nV c U j := fun j hj => by
        have hbj : ¬ Sk.bf c U n = some j := by rw [← hb]; exact hj
        by_cases e4 : j = n
        · rw [if_pos e4, e4, nV_out hn]
        · rw [if_neg e4]
          unfold nV
          rw [f1 j, if_neg hbj, if_neg e4]
      have fG : ∀ j, (if j = n then none else gV c (Sk.ins U n) j) = gV c U j := fun j => by
        by_cases e4 : j = n
        · rw [if_pos e4, e4, gV_out hn]
        · rw [if_neg e4]
          unfold gV
          rw [f2 j, if_neg e4]
      refine g_iteF rfl ?_
      walk_at "go"
      cases b with
      | none =>
        refine g_iteF rfl ?_
        walk_at "go"
        exact hN _ _ ⟨lat, by rw [ho]; rfl, bb, ⟨_, d12.mono (by decide), fN⟩, (d2.to fG).mono (by decide), fun b0 q => nomatch q⟩
      | some b0 =>
        obtain ⟨sb, hgap⟩ := f3 b0 hb.symm
        have elat : lat = Sk.nx c U b0 := by
          have := f1 n
          rw [enx, if_neg bfn, if_pos rfl, ← hb] at this
          exact Option.some.inj this
        refine g_iteT rfl ?_
        walk_at "go"
        refine g_diGet d2 (v := .int (Sk.gp c U b0 : Nat)) (by
          show (if b0 = n then none else gV c (Sk.ins U n) b0) = _
          rw [fG b0]; unfold gV; rw [gA_of sb]; rfl) ?_
        walk_at "go"
        refine g_diPut (d2.mono (show 200 ≤ 201 by decide)) (by decide) fun H3 b3 d3 => ?_
        refine hN _ _ ⟨lat, by rw [ho]; rfl, fun x h1 h2 => (b3 x h2).trans (bb x h1 h2), ⟨_, (d12.at (b3 _ ndg)).mono (by decide), fN⟩, (d3.mono (by decide)).to fun j => ?_, fun b1 q => by cases q; rw [elat]; exact nA_of sb⟩
        show (if j = b0 then some (V.int ((Sk.gp c U b0 : Nat) + (gap : Int) - 1)) else if j = n then none else gV c (Sk.ins U n) j) = _
        by_cases e0 : j = b0
        · rw [if_pos e0, e0, egap]
          unfold gV
          rw [gA_of sb]
          show some (V.int _) = some (V.int _)
          congr 2
          omega
        · rw [if_neg e0]; exact fG j
  · rintro σ' H3 ⟨lt2, rfl, hk, ⟨f, df, hf⟩, dg3, hlt⟩
    walk_at "go"
    have fin : ∀ H2, (∀ c, c ≠ L.ds l → c ≠ L.gs l → H2 c = H c) → DI 204 H2 (L.ds l) (nV c U) → DI 204 H2 (L.gs l) (gV c U) → Q .non H2 := fun H2 h1 h2 h3 =>
      k H2 h1 ((h2.tight fun j v e => nV_mem e).mono (by omega)) ((h3.tight fun j v e => gV_mem e).mono (by omega))
    cases b with
    | none =>
      refine g_iteF rfl ?_
      walk_at "go"
      exact fin H3 hk ((df.mono (by decide)).to fun j => hf j (by simp)) (dg3.mono (by decide))
    | some b0 =>
      refine g_iteT rfl ?_
      walk_at "go"
      refine g_diPut df (by decide) fun H4 b4 d4 => ?_
      walk_at "go"
      refine fin H4 (fun x h1 h2 => (b4 x h1).trans (hk x h1 h2)) (d4.to fun j => ?_) ((dg3.at (b4 _ (Ne.symm ndg))).mono (by decide))
      by_cases e1 : j = b0
      · subst e1
        rw [if_pos rfl]
        unfold nV
        rw [hlt j rfl]
        rfl
      · rw [if_neg e1]
        exact hf j fun q => e1 (Option.some.inj q).symm

end
end Lk

namespace Lk
open PySem PySem.Spec PyProof.Rows L2
section
variable {P : Program} {w : World} {K : PySem.W.Frag} {mg : Str → Option Value} {base : Heap} {A : Ads}
def sp_take (C O1 O2 : Addr) : Sp := fun vs H Q E => ∃ (p : Addr) (n : Int) (L : LS) (S : List Int), vs = [.ref p, .int n] ∧ Lad C H p L S ∧
  (0 ≤ n → n < L.w ^ L.h → n ∈ S → ∀ t H', Keeps L p H H' → H t = none → TupL H' t (takeT L S n (L.h + 1)) → Lad C H' p L (Sk.del S n) → Q (.ref t) H') ∧
  (¬ (0 ≤ n ∧ n < L.w ^ L.h) → E (.ref O1) none H) ∧ (0 ≤ n → n < L.w ^ L.h → n ∉ S → E (.ref O2) none H)
theorem ok_take (T : Txt K mg A) : FO P w K mg base 5 A.take ["self", "number"] (sp_take A.Ladder A.OutOfRange A.Missing) := by
  obtain ⟨fd_nearest, G_nearest, B_nearest⟩ := ok_nearest (P := P) (w := w) (base := base) T
  obtain ⟨fd_has, G_has, B_has⟩ := ok_has (P := P) (w := w) (base := base) T
  obtain ⟨fd_alike, G_alike, B_alike⟩ := ok_alike (P := P) (w := w) (base := base) T
  obtain ⟨fd_go_out, G_go_out, B_go_out⟩ := ok_go_out (P := P) (w := w) (base := base) T
  have S := sc_take
  refine FO.mk' T.f_take S b_take (fun vs H Q E h => by obtain ⟨_, _, _, _, rfl, _⟩ := h; rfl) (fun cdv Ar outer s H vs Q E hr h => ?_)
  have hu := hu_of hr
  obtain ⟨p, n, L, S0, rfl, Ld, k1, k2, k3⟩ := h
  have X := Ld.toLadX
  have lt := T.lt
  have hs := Ld.srt
  have ok := Ld.ok
  have hh := ok.h2
  refine ⟨_, (pss_cons (ps_if (pt_not (pt_val (pe_meth (pv 0) T.lt.cl T.m_has G_has (hr.mono (by decide)) B_has .nil (passes_call (takes_of rfl rfl rfl rfl) (fun _ _ _ _ z => z)) (pa_cons (pv 1) pa_nil))))
    (pss_one (ps_raise rfl (takes_of rfl rfl rfl rfl) (pmk_own PySem.F.excBase_ValueError T.x_Missing.x T.x_Missing.g T.x_Missing.k (raises_own T.x_Missing.b T.x_Missing.t) rfl)))
    pss_nil)
  (pss_cons (ps_asg (pe_call G_nearest (hr.mono (by decide)) rfl T.g_nearest T.k_nearest B_nearest .nil passL (pa_cons (pv 0) (pa_cons (pv 1) pa_nil))) (pg_tup (by rfl) (pgs_cons (pg_name (i := 2) S.nd rfl (Or.inl rfl)) (pgs_cons (pg_name (i := 3) S.nd rfl (Or.inl rfl)) pgs_nil))))
  (pss_cons (ps_set (i := 4) S.nd rfl (Or.inl rfl) (pe_dget hu (pe_ix (k_ixL (K := K) rfl) (k_fld (K := K) rfl (pv 0) rfl) pe_int (fun _ _ => rfl)) (pv 1) (fun _ _ => rfl)))
  (pss_cons (ps_set (i := 5) S.nd rfl (Or.inl rfl) (pe_lst pa_nil))
  (pss_cons (ps_for (passes_of rfl) rfl (pi_range1 rfl T.z_range (pa_cons (pe_op o_add (k_fld (K := K) rfl (pv 0) rfl) pe_int) pa_nil)) (pg_name (i := 6) S.nd rfl (Or.inl rfl))
    (pss_one (ps_if (pt_cmp (pc_din hu (pv 1) (pe_ix (k_ixL (K := K) rfl) (k_fld (K := K) rfl (pv 0) rfl) (pv 6) (fun _ _ => rfl))))
      (pss_cons (ps_set (i := 7) S.nd rfl (Or.inl rfl) (pe_meth (pv 0) T.lt.cl T.m_alike G_alike (hr.mono (by decide)) B_alike .nil passL (pa_cons (pv 6) (pa_cons (pv 1) (pa_cons (pv 4) pa_nil)))))
      (pss_cons (ps_expr (pe_meth (pv 0) T.lt.cl T.m_go_out G_go_out (hr.mono (by decide)) B_go_out .nil passL (pa_cons (pv 6) (pa_cons (pv 1) (pa_cons (pe_ix (k_ixL (K := K) rfl) (pv 2) (pv 6) (fun _ _ => rfl)) (pa_cons (pv 7) pa_nil))))))
      (pss_one (ps_expr (pe_bm PySem.F.plainAttrs_list PySem.F.slot_list_append PySem.F.type_list_append mt_append (pv 5) (pa_cons (pe_tup (pa_cons (pv 6) (pa_cons (pv 7) (pa_cons (pv 1) pa_nil)))) pa_nil))))))
      (pss_one (ps_daug hu (pe_ix (k_ixL (K := K) rfl) (k_fld (K := K) rfl (pv 0) rfl) (pv 6) (fun _ _ => rfl)) (pe_ix (k_ixL (K := K) rfl) (pv 2) (pv 6) (fun _ _ => rfl)) pe_int in_sub (fun _ _ _ => rfl))))))
  (pss_consC (ps_if (pt_cmpR o_isN (pe_ix (k_ixL (K := K) rfl) (pv 2) pe_int (fun _ _ => rfl)) pe_non (nomark _))
    (pss_one (ps_fld (pv 0) (pv 4) rfl))
    pss_nil)
  (pss_cons (ps_fld (pv 0) (pe_op o_sub (k_fld (K := K) rfl (pv 0) rfl) pe_int) rfl)
  (pss_one (ps_ret (pv 5)))))))))), ?_⟩
  walk_at "go"
  refine ⟨p, n, L, S0, rfl, Ld, fun r1 r2 => ?_, k2⟩
  walk_at "go"
  refine g_ite (fun e => ?_) (fun e => ?_)
  · exact k3 r1 r2 (by simpa using e)
  have hn : n ∈ S0 := by simpa using e
  have k1 := k1 r1 r2 hn
  have hU := Sk.srt_del hs n
  have nU : n ∉ Sk.del S0 n := fun q => (Sk.mem_del.mp q).2 rfl
  have eS : Sk.ins (Sk.del S0 n) n = S0 := Sk.ins_del hs hn
  have lU := Sk.len_del hs hn
  generalize eU : Sk.del S0 n = U at *
  have hlen := Ld.len
  have eab : Sk.abv S0 n = Sk.abv U n := by rw [← eS]; exact Sk.abv_ins (c := 1) (by decide) hU nU
  have ebf : ∀ {c : Int}, 0 < c → Sk.bf c S0 n = Sk.bf c U n := fun hc => by rw [← eS]; exact Sk.bf_ins hc hU nU
  walk_at "go"
  refine ⟨p, n, L, S0, rfl, Ld, fun tt bq qq H1 s1 nt nb nq et eb eq => ?_⟩
  have Ld1 := Ld.same s1
  have X1 := Ld1.toLadX
  walk_at "go"
  refine g_gtup (.of et) rfl ?_
  walk_at "go"
  have b0 := bfL_at (L := L) (S := S0) (n := n) (Nat.zero_le _)
  rw [Int.pow_zero, Sk.bf_one hs] at b0
  refine lad_dn (l := 0) X1 (Nat.zero_le _) (o := Sk.abv S0 n) (by rw [Int.pow_zero, nA_of (st_one.mpr hn), Sk.nx_one]) ?_
  walk_at "go"
  refine g_newL (by decide) fun told H3 ntold1 s3 e3 => ?_
  have ntold := s1.free ntold1
  have s13 := s1.trans s3
  have X3 := (Ld.same s13).toLadX
  walk_at "go"
  refine g_rng (by omega) (by omega) ?_
  rw [show ((L.h : Int) + 1).toNat = L.h + 1 by omega]
  have nob := own_no X nb
  have noq := own_no X nq
  have not_ := own_no X ntold
  have neb : bq ≠ told := ne_of_none eb ntold1
  have neq : qq ≠ told := ne_of_none eq ntold1
  refine for_range (lo := 0) (fun i σ H' => ∃ v9 v10 : Option V, σ = [some (.ref p), some (.int n), some (.ref bq), some (.ref qq), some (ov (Sk.abv S0 n)), some (.ref told), v9, v10] ∧
      LadX A.Ladder H' p L S0.head? (S0.length : Int) (fun l => if l < i then U else S0) ∧ TupL H' told (takeT L S0 n i) ∧ Keeps L p H H' ∧ H' bq = some (.lst (bfL L S0 n)) ∧ H' qq = some (.lst (plL L S0 n)))
    ⟨none, none, rfl, X3.congr fun l _ => by rw [if_neg (Nat.not_lt_zero l)], tupl_nil e3, Same.keeps (L := L) (p := p) s13, s3 _ _ eb, s3 _ _ eq⟩ ?_ ?_
  · rintro i σ H' hi ⟨v9, v10, rfl, X', tq, kp, eb', eq'⟩
    have hi' : i ≤ L.h := by omega
    have nxt : ∀ {H5 : Hp}, LadX A.Ladder H5 p L S0.head? (S0.length : Int) (fun j => if j = i then U else if j < i then U else S0) → LadX A.Ladder H5 p L S0.head? (S0.length : Int) (fun l => if l < i + 1 then U else S0) := fun x => x.congr fun l _ => by
      by_cases q : l = i
      · rw [if_pos q, if_pos (by omega)]
      · rw [if_neg q]
        by_cases q2 : l < i
        · rw [if_pos q2, if_pos (by omega)]
        · rw [if_neg q2, if_neg (by omega)]
    have eTi : (fun l => if l < i then U else S0) i = S0 := if_neg (Nat.lt_irrefl i)
    have dni := X'.dn i hi'
    have dgi := X'.dg i hi'
    simp only [if_neg (Nat.lt_irrefl i)] at dni dgi
    have off : ∀ {c : Addr}, ¬ L.own p c → c ≠ L.ds i ∧ c ≠ L.gs i := fun h => ⟨fun q => h (q ▸ own_ds hi'), fun q => h (q ▸ own_gs hi')⟩
    have zi : (0 : Int) + (i : Int) = (i : Int) := Int.zero_add _
    have hc := (pow_ok ok hi').1
    rw [zi]
    walk_at "go"
    refine g_diIn dni ?_
    rw [nV_some]
    walk_at "go"
    refine g_ite (fun e => ?_) (fun e => ?_)
    · have hstI : Sk.St (L.w ^ i) S0 n := of_decide_eq_true e
      walk_at "go"
      refine ⟨p, i, n, Sk.abv S0 n, L, _, _, _, rfl, X', hi', ?_⟩
      walk_at "go"
      refine g_ixL (.of eb') (bfL_at hi') ?_
      walk_at "go"
      refine ⟨p, i, n, _, _, L, U, _, _, _, rfl, X', hi', (if_neg (Nat.lt_irrefl i)).trans eS.symm, hU, nU, by omega, by rw [eS]; exact hstI, ebf hc, by rw [eab], fun H4 b4 dn4 dg4 => ?_⟩
      have X4 := X'.lev hi' b4 dn4 dg4
      have tq4 := tq.dicts dni dgi b4
      have kp4 : Keeps L p H H4 := kp.step fun c hc => b4 c (off hc).1 (off hc).2
      walk_at "go"
      refine ⟨by obtain ⟨as, h1, _⟩ := tq4; exact ty_lst h1, ?_⟩
      walk_at "go"
      refine g_newT (by show 3 ≤ 1000; decide) fun tu H5 ntu s5 e5 => ?_
      walk_at "go"
      refine g_appT (tq4.same s5) e5 (by have := takeT_len (L := L) (S := S0) (n := n) (i := i); omega) fun H6 b6 tq6 => ?_
      have X6 := (X4.same s5).at fun c hc => b6 c fun q => not_ (q ▸ hc)
      have kp6 : Keeps L p H H6 := (kp4.same s5).but (s1.free ntold1) b6
      refine ⟨_, _, rfl, nxt X6, by rw [takeT_yes hstI]; exact tq6, kp6, ?_, ?_⟩
      · exact (b6 _ neb).trans (s5 _ _ ((b4 _ (off nob).1 (off nob).2).trans eb'))
      · exact (b6 _ neq).trans (s5 _ _ ((b4 _ (off noq).1 (off noq).2).trans eq'))
    · have hns : ¬ Sk.St (L.w ^ i) S0 n := of_decide_eq_false e
      have hns2 : ¬ Sk.St (L.w ^ i) (Sk.ins U n) n := by rw [eS]; exact hns
      obtain ⟨b, hb⟩ : ∃ b, Sk.bf (L.w ^ i) U n = some b := by
        cases q : Sk.bf (L.w ^ i) U n with
        | some b => exact ⟨b, rfl⟩
        | none =>
          refine absurd ((Sk.st_ins_n hc hU nU).mpr fun z hz => ?_) hns2
          rw [Sk.bf_none.mp q] at hz; cases hz
      obtain ⟨u1, u2, u3⟩ := Sk.put_stay hc hU nU hb hns2
      rw [eS] at u1 u2
      walk_at "go"
      refine g_ixL (.of eb') (bfL_at hi') ?_
      rw [ebf hc, hb]
      walk_at "go"
      refine g_diAugS (z := (Sk.gp (L.w ^ i) U b : Int) + 1) dgi (by decide) (by unfold gV; rw [u2, if_pos rfl]; rfl) fun H4 b4 dg4 => ?_
      have dn4 : DI 200 H4 (L.ds i) (nV (L.w ^ i) U) := (dni.at (b4 _ (ok.dg i i hi' hi'))).to fun k => by unfold nV; rw [u1]
      have dg4' : DI 200 H4 (L.gs i) (gV (L.w ^ i) U) := (((dg4.to (g := gV (L.w ^ i) U) fun k => by
        unfold gV
        rw [u2]
        by_cases q : k = b
        · rw [if_pos q, q, gA_of u3]
          show some (V.int _) = some (V.int _)
          congr 2
          omega
        · rw [if_neg q, if_neg q]).tight fun k v => gV_mem).mono (by omega))
      have b4' : ∀ c, c ≠ L.ds i → c ≠ L.gs i → H4 c = H' c := fun c _ h => b4 c h
      refine ⟨_, _, rfl, nxt (X'.lev hi' b4' dn4 dg4'), by rw [takeT_no hns]; exact tq.dicts dni dgi b4', kp.step fun c hc => b4' c (off hc).1 (off hc).2, ?_, ?_⟩
      · exact (b4 _ (off nob).2).trans eb'
      · exact (b4 _ (off noq).2).trans eq'
  · rintro σ H' ⟨v9, v10, rfl, X', tq, kp, eb', eq'⟩
    have X5 : LadX A.Ladder H' p L S0.head? (S0.length : Int) (fun _ => U) := X'.congr fun l hl => if_pos (by omega)
    have eb0 : Sk.bel S0 n = Sk.bel U n := by rw [← eS]; exact Sk.bel_ins (c := 1) (by decide) hU nU
    have hd : ∀ c, Sk.bel S0 n = some c → S0.head? = U.head? := fun c q => by
      have h1 := ins_head hU (n := n)
      rw [eS, ← eb0, q] at h1
      exact h1
    have fin : ∀ {H5 : Hp} {le : Option Int} {m : Int}, LadX A.Ladder H5 p L le m (fun _ => U) → le = U.head? → m = (U.length : Int) → Lad A.Ladder H5 p L U := fun x e1 e2 => by
      subst e1; subst e2
      have inS : ∀ z ∈ U, z ∈ S0 := fun z hz => by rw [← eU] at hz; exact (Sk.mem_del.mp hz).1
      exact { x with
        srt := hU
        lo := fun z hz => Ld.lo z (inS z hz)
        hi := fun z hz => Ld.hi z (inS z hz)
        len := by omega }
    walk_at "go"
    refine g_cut (fun σ' H2 => ∃ v9 v10 : Option V, σ' = [some (.ref p), some (.int n), some (.ref bq), some (.ref qq), some (ov (Sk.abv S0 n)), some (.ref told), v9, v10] ∧ 
        LadX A.Ladder H2 p L U.head? (S0.length : Int) (fun _ => U) ∧ TupL H2 told (takeT L S0 n (L.h + 1)) ∧ Keeps L p H H2) (fun N hN => ?_) ?_
    · walk_at "go"
      refine g_ixL (.of eb') b0 ?_
      walk_at "go"
      cases ebb : Sk.bel S0 n with
      | none =>
        refine g_iteT rfl ?_
        walk_at "go"
        refine lad_setLeast lt X5 (Sk.abv S0 n) fun H4 b4 X6 => ?_
        refine hN _ _ ⟨_, _, rfl, by rw [Sk.abv_head2 hU nU (eb0.symm.trans ebb), ← eab]; exact X6, tq.inst X5.ob b4, kp.step fun c hc => b4 c fun q => hc (.inl q)⟩
      | some c =>
        refine g_iteF rfl ?_
        walk_at "go"
        refine hN _ _ ⟨_, _, rfl, by rw [← hd c ebb]; exact X5, tq, kp⟩
    rintro σ' H2 ⟨v9, v10, rfl, X6, tq6, kp6⟩
    walk_at "go"
    refine lad_setMany lt X6 ((S0.length : Int) - 1) fun H4 b4 X7 => ?_
    walk_at "go"
    exact k1 told H4 (kp6.step fun c hc => b4 c fun q => hc (.inl q)) ntold (tq6.inst X6.ob b4) (fin X7 rfl (by omega))

end
end Lk

namespace Sk
/-- a row with another row's numbers put in -/
def uni (S T : List Int) : List Int := T.foldl ins S
theorem uni_snoc {S T : List Int} {x : Int} : uni S (T ++ [x]) = ins (uni S T) x := by unfold uni; rw [List.foldl_append]; rfl
theorem mem_uni {S T : List Int} {x : Int} : x ∈ uni S T ↔ x ∈ S ∨ x ∈ T := by
  unfold uni
  induction T generalizing S with
  | nil => simp
  | cons a r ih =>
    rw [List.foldl_cons, ih, mem_ins, List.mem_cons]
    constructor
    · rintro ((h | h) | h)
      · exact .inr (.inl h)
      · exact .inl h
      · exact .inr (.inr h)
    · rintro (h | h | h)
      · exact .inl (.inr h)
      · exact .inl (.inl h)
      · exact .inr h
theorem srt_uni {S T : List Int} (h : Srt S) : Srt (uni S T) := by
  unfold uni
  induction T generalizing S with
  | nil => exact h
  | cons a r ih => exact ih (srt_ins h a)
end Sk
namespace Lk
open PySem PySem.Spec PyProof.Rows L2
theorem Lad.keep {C p p2 : Addr} {L L2 : LS} {S : List Int} {H H' : Hp} (x : Lad C H p2 L2 S) (k : Keeps L p H H') (d : ∀ b, L2.own p2 b → ¬ L.own p b) : Lad C H' p2 L2 S := x.at fun b hb => by
  obtain ⟨o, e⟩ := x.toLadX.there hb
  rw [e]
  exact k b o e (d b hb)
section
variable {P : Program} {w : World} {K : PySem.W.Frag} {mg : Str → Option Value} {base : Heap} {A : Ads}
def sp_poured (C O1 O2 : Addr) : Sp := fun vs H Q E => ∃ (p p2 : Addr) (L M : LS) (S T : List Int), vs = [.ref p, .ref p2] ∧ Lad C H p L S ∧ Lad C H p2 M T ∧
  (¬ (L.w = M.w ∧ L.h = M.h) → E (.ref O1) none H) ∧
  (L.w = M.w → L.h = M.h → ∀ x, x ∈ S → x ∈ T → ∀ H', Same H H' → E (.ref O2) none H') ∧
  (L.w = M.w → L.h = M.h → (∀ x, x ∈ S → x ∉ T) → S.length + T.length ≤ 100 ∧ ∀ H', Keeps L p H H' → Lad C H' p L (Sk.uni S T) → Q .non H')
theorem ok_poured (T : Txt K mg A) : FO P w K mg base 6 A.poured ["ladder", "other"] (sp_poured A.Ladder A.OtherSize A.Present) := by
  obtain ⟨fd_row, G_row, B_row⟩ := ok_row (P := P) (w := w) (base := base) T
  obtain ⟨fd_has, G_has, B_has⟩ := ok_has (P := P) (w := w) (base := base) T
  obtain ⟨fd_put, G_put, B_put⟩ := ok_put (P := P) (w := w) (base := base) T
  have S := sc_poured
  refine FO.mk' T.f_poured S b_poured (fun vs H Q E h => by obtain ⟨_, _, _, _, _, _, rfl, _⟩ := h; rfl) (fun cdv Ar outer s H vs Q E hr h => ?_)
  have hu := hu_of hr
  obtain ⟨p, p2, L, M, S0, T0, rfl, Ld, Md, k1, k2, k3⟩ := h
  have X := Ld.toLadX
  have Y := Md.toLadX
  have lt := T.lt
  refine ⟨_, (pss_cons (ps_if (PW.pt (pw_or (pt_cmpR op_ne (k_fld (K := K) rfl (pv 0) rfl) (k_fld (K := K) rfl (pv 1) rfl) (nomark _)) (pw_or1 (pt_cmpR op_ne (k_fld (K := K) rfl (pv 0) rfl) (k_fld (K := K) rfl (pv 1) rfl) (nomark _)))))
    (pss_one (ps_raise rfl (takes_of rfl rfl rfl rfl) (pmk_own PySem.F.excBase_ValueError T.x_OtherSize.x T.x_OtherSize.g T.x_OtherSize.k (raises_own T.x_OtherSize.b T.x_OtherSize.t) rfl)))
    pss_nil)
  (pss_cons (ps_set (i := 2) S.nd rfl (Or.inl rfl) (pe_meth0 (pv 1) T.lt.cl T.m_row G_row (hr.mono (by decide)) B_row .nil passL))
  (pss_cons (ps_for (passes_of rfl) rfl (k_iL (K := K) rfl (pv 2)) (pg_name (i := 3) S.nd rfl (Or.inl rfl))
    (pss_one (ps_if (pt_val (pe_meth (pv 0) T.lt.cl T.m_has G_has (hr.mono (by decide)) B_has .nil (passes_call (takes_of rfl rfl rfl rfl) (fun _ _ _ _ z => z)) (pa_cons (pv 3) pa_nil)))
      (pss_one (ps_raise rfl (takes_of rfl rfl rfl rfl) (pmk_own PySem.F.excBase_ValueError T.x_Present.x T.x_Present.g T.x_Present.k (raises_own T.x_Present.b T.x_Present.t) rfl)))
      pss_nil)))
  (pss_one (ps_for (passes_of rfl) rfl (k_iL (K := K) rfl (pv 2)) (pg_name (i := 3) S.nd rfl (Or.inl rfl))
    (pss_one (ps_expr (pe_meth (pv 0) T.lt.cl T.m_put G_put (hr.mono (by decide)) B_put .nil (passes_call (takes_of rfl rfl rfl rfl) (fun _ _ _ _ z => z)) (pa_cons (pv 3) pa_nil))))))))), ?_⟩
  walk_at "gb"
  refine g_ite (fun e => ?_) (fun e => ?_)
  · have ne : ¬ L.w = M.w := fun q => by rw [decide_eq_true q] at e; cases e
    walk_at "gb"
    exact k1 fun q => ne q.1
  have ew : L.w = M.w := Decidable.byContradiction fun q => by rw [decide_eq_false q] at e; cases e
  walk_at "gb"
  refine g_ite (fun e => ?_) (fun e => ?_)
  · have ne : ¬ (L.h : Int) = (M.h : Int) := fun q => by rw [decide_eq_true q] at e; cases e
    exact k1 fun q => ne (by rw [q.2])
  have eh : L.h = M.h := by
    have : (L.h : Int) = (M.h : Int) := Decidable.byContradiction fun q => by rw [decide_eq_false q] at e; cases e
    omega
  have rng : ∀ x ∈ T0, 0 ≤ x ∧ x < L.w ^ L.h := fun x hx => ⟨Md.lo x hx, by rw [ew, eh]; exact Md.hi x hx⟩
  walk_at "gb"
  refine ⟨p2, M, T0, rfl, Md, fun q H1 nq s1 e1 => ?_⟩
  have Ld1 := Ld.same s1
  have X1 := Ld1.toLadX
  walk_at "gb"
  refine g_lit (.of e1) ?_
  refine for_list (K := K) (a := q) (xs := T0.map V.int) (fun i σ H' => H' = H1 ∧ (∀ j x, j < i → T0[j]? = some x → x ∉ S0) ∧ ∃ v3 : Option V, σ = [some (.ref p), some (.ref p2), some (.ref q), v3]) ⟨rfl, fun j x hj => absurd hj (Nat.not_lt_zero j), none, rfl⟩ (fun i σ H' _ ⟨e, _⟩ => by rw [e]; exact .of e1) ?_ ?_
  · rintro i v σ H' hi ⟨rfl, no, v3, rfl⟩
    rw [List.getElem?_map] at hi
    obtain ⟨x, hx, rfl⟩ := Option.map_eq_some_iff.mp hi
    have xm := List.mem_of_getElem? hx
    walk_at "gb"
    refine ⟨p, x, L, S0, rfl, Ld1, fun _ _ => ?_, fun q => absurd (rng x xm) q⟩
    walk_at "gb"
    refine g_ite (fun e => ?_) (fun e => ?_)
    · exact k2 ew eh x (of_decide_eq_true e) xm _ s1
    · have nx := of_decide_eq_false e
      walk_at "gb"
      refine ⟨rfl, fun j y hj hy => ?_, _, rfl⟩
      rcases Nat.lt_or_ge j i with q2 | q2
      · exact no j y q2 hy
      · obtain rfl : j = i := by omega
        rw [hx] at hy; cases hy; exact nx
  rintro σ H2 ⟨rfl, no, v3, rfl⟩
  have dis : ∀ x, x ∈ S0 → x ∉ T0 := fun x hx ht => by
    obtain ⟨j, hj, rfl⟩ := List.mem_iff_getElem.mp ht
    exact no j _ (by rw [List.length_map]; exact hj) (List.getElem?_eq_getElem hj) hx
  obtain ⟨hlen, k4⟩ := k3 ew eh dis
  have noq := own_no X nq
  walk_at "gb"
  refine g_lit (.of e1) ?_
  refine for_list (K := K) (a := q) (xs := T0.map V.int) (fun i σ H' => Lad A.Ladder H' p L (Sk.uni S0 (T0.take i)) ∧ (Sk.uni S0 (T0.take i)).length = S0.length + min i T0.length ∧ Keeps L p H2 H' ∧ H' q = some (.lst (T0.map V.int)) ∧ ∃ v3 : Option V, σ = [some (.ref p), some (.ref p2), some (.ref q), v3]) ⟨Ld1, rfl, .refl, e1, _, rfl⟩ (fun i σ H' _ ⟨_, _, _, e, _⟩ => .of e) ?_ ?_
  · rintro i v σ H' hi ⟨Ld', hl, kp, eq, v3, rfl⟩
    rw [List.getElem?_map] at hi
    obtain ⟨x, hx, rfl⟩ := Option.map_eq_some_iff.mp hi
    have xm := List.mem_of_getElem? hx
    have il := Sk.lt_of_get hx
    have xn : x ∉ Sk.uni S0 (T0.take i) := fun q => by
      rcases Sk.mem_uni.mp q with q | q
      · exact dis x q xm
      · obtain ⟨j, hj, e⟩ := List.mem_iff_getElem.mp q
        rw [List.length_take] at hj
        have ej : T0[j]? = some x := by
          rw [← e, List.getElem_take, List.getElem?_eq_getElem]
        have := Sk.get_lt Md.srt ej hx (by omega)
        omega
    have X' := Ld'.toLadX
    walk_at "gb"
    refine ⟨p, x, L, _, rfl, Ld', fun _ _ _ => ⟨by omega, fun t H3 kp3 nt tq Ld3 => ?_⟩, fun q => absurd (rng x xm) q, fun _ _ q => absurd q xn⟩
    walk_at "gb"
    refine ⟨by rw [Sk.take_snoc hx, Sk.uni_snoc]; exact Ld3, ?_, kp.trans kp3, kp3 _ _ eq noq, _, rfl⟩
    rw [Sk.take_snoc hx, Sk.uni_snoc, Sk.len_ins Ld'.srt xn]
    omega
  rintro σ H3 ⟨Ld3, _, kp, _, v3, rfl⟩
  rw [List.length_map, List.take_length] at Ld3
  exact k4 H3 ((Same.keeps s1).trans kp) Ld3

def sp_cut (C O : Addr) : Sp := fun vs H Q E => ∃ (p : Addr) (n : Int) (L : LS) (S : List Int), vs = [.ref p, .int n] ∧ Lad C H p L S ∧
  (¬ (0 ≤ n ∧ n ≤ L.w ^ L.h) → ∀ H', Same H H' → E (.ref O) none H') ∧
  (0 ≤ n → n ≤ L.w ^ L.h → ∀ (f : Addr) (M : LS) H', H f = none → M.w = L.w → M.h = L.h → Keeps L p H H' → (∀ b, M.own f b → H b = none) → Lad C H' f M (S.filter fun z => decide (n ≤ z)) → Lad C H' p L (S.filter fun z => decide (z < n)) → Q (.ref f) H')
theorem mid_top {S : List Int} {n lim : Int} (h : ∀ z ∈ S, z < lim) : Sk.mid S n lim = S.filter fun z => decide (n ≤ z) := by
  unfold Sk.mid
  refine List.filter_congr fun z hz => ?_
  have := h z hz
  rw [decide_eq_decide]
  constructor
  · rintro ⟨q, _⟩; exact q
  · intro q; exact ⟨q, this⟩
theorem ok_cut (T : Txt K mg A) : FO P w K mg base 6 A.cut ["ladder", "number"] (sp_cut A.Ladder A.OutOfRange) := by
  obtain ⟨fd_stretch, G_stretch, B_stretch⟩ := ok_stretch (P := P) (w := w) (base := base) T
  obtain ⟨fd___init__, G___init__, B___init__⟩ := ok___init__ (P := P) (w := w) (base := base) T
  obtain ⟨fd_take, G_take, B_take⟩ := ok_take (P := P) (w := w) (base := base) T
  obtain ⟨fd_put, G_put, B_put⟩ := ok_put (P := P) (w := w) (base := base) T
  have S := sc_cut
  refine FO.mk' T.f_cut S b_cut (fun vs H Q E h => by obtain ⟨_, _, _, _, rfl, _⟩ := h; rfl) (fun cdv Ar outer s H vs Q E hr h => ?_)
  have hu := hu_of hr
  obtain ⟨p, n, L, S0, rfl, Ld, k1, k2⟩ := h
  have X := Ld.toLadX
  have lt := T.lt
  have hs := Ld.srt
  have lim := pow_ok Ld.ok (Nat.le_refl L.h)
  refine ⟨_, (pss_cons (ps_set (i := 2) S.nd rfl (Or.inl rfl) (pe_meth (pv 0) T.lt.cl T.m_stretch G_stretch (hr.mono (by decide)) B_stretch .nil (passes_call (takes_of rfl rfl rfl rfl) (fun _ _ _ _ z => z)) (pa_cons (pv 1) (pa_cons (k_fld (K := K) rfl (pv 0) rfl) pa_nil))))
  (pss_cons (ps_set (i := 3) S.nd rfl (Or.inl rfl) (pe_make T.mk_Ladder G___init__ (hr.mono (by decide)) rfl T.g_Ladder B___init__ .nil (passes_call (takes_of rfl rfl rfl rfl) (fun _ _ _ _ z => z)) (pa_cons (k_fld (K := K) rfl (pv 0) rfl) (pa_cons (k_fld (K := K) rfl (pv 0) rfl) pa_nil))))
  (pss_cons (ps_for (passes_of rfl) rfl (k_iL (K := K) rfl (pv 2)) (pg_name (i := 4) S.nd rfl (Or.inl rfl))
    (pss_cons (ps_expr (pe_meth (pv 0) T.lt.cl T.m_take G_take (hr.mono (by decide)) B_take .nil (passes_call (takes_of rfl rfl rfl rfl) (fun _ _ _ _ z => z)) (pa_cons (pv 4) pa_nil)))
    (pss_one (ps_expr (pe_meth (pv 3) T.lt.cl T.m_put G_put (hr.mono (by decide)) B_put .nil (passes_call (takes_of rfl rfl rfl rfl) (fun _ _ _ _ z => z)) (pa_cons (pv 4) pa_nil))))))
  (pss_one (ps_ret (pv 3)))))), ?_⟩
  walk_at "gb"
  refine ⟨p, n, L.w ^ L.h, L, S0, rfl, Ld, fun h1 h2 h3 h4 q H1 s1 nq e1 => ?_, fun bad H1 s1 => k1 (fun q => bad ⟨q.1, q.2, by omega, by omega⟩) H1 s1⟩
  rw [mid_top Ld.hi] at e1
  have k2 := k2 h1 h2
  have Ld1 := Ld.same s1
  have X1 := Ld1.toLadX
  walk_at "gb"
  refine g_ladder ⟨Ld.ok.w1, Ld.ok.w2, by have := Ld.ok.h1; omega, by have := Ld.ok.h2; omega⟩ fun f M H2 nf eMw eMh Md s2 fr => ?_
  have eMh : M.h = L.h := by omega
  have noq1 := own_no X nq
  have noq2 : ¬ M.own f q := fun z => by rw [fr q z] at e1; cases e1
  have dis : ∀ b, M.own f b → ¬ L.own p b := fun b z y => by
    obtain ⟨o, e⟩ := X1.there y
    rw [fr b z] at e; cases e
  have dis2 : ∀ b, L.own p b → ¬ M.own f b := fun b y z => dis b z y
  have frH : ∀ b, M.own f b → H b = none := fun b z => s1.free (fr b z)
  generalize er : (S0.filter fun z => decide (n ≤ z)) = rest at *
  have rs : Sk.Srt rest := by rw [← er]; exact Sk.srt_filter hs _
  have rin : ∀ x ∈ rest, x ∈ S0 := fun x hx => by rw [← er] at hx; exact (List.mem_filter.mp hx).1
  have rl : rest.length ≤ 100 := by
    have := List.length_filter_le (fun z => decide (n ≤ z)) S0
    rw [er] at this
    have := Ld.len
    omega
  walk_at "gb"
  have e2 := s2 _ _ e1
  refine g_lit (.of e2) ?_
  refine for_list (K := K) (a := q) (xs := rest.map V.int) (fun i σ H' => Lad A.Ladder H' p L (S0.filter fun z => decide (z ∉ rest.take i)) ∧ Lad A.Ladder H' f M (rest.take i) ∧ Keeps L p H H' ∧ H' q = some (.lst (rest.map V.int)) ∧ ∃ v4 : Option V, σ = [some (.ref p), some (.int n), some (.ref q), some (.ref f), v4])
    ⟨by
      have : (S0.filter fun z => decide (z ∉ rest.take 0)) = S0 := List.filter_eq_self.mpr fun z _ => by simp
      rw [this]
      exact Ld1.same s2, Md, Same.keeps (s1.trans s2), e2, none, rfl⟩ (fun i σ H' _ ⟨_, _, _, e, _⟩ => .of e) ?_ ?_
  · rintro i v σ H' hi ⟨Ld', Md', kp, eq, v4, rfl⟩
    rw [List.getElem?_map] at hi
    obtain ⟨x, hx, rfl⟩ := Option.map_eq_some_iff.mp hi
    have xm := List.mem_of_getElem? hx
    have il := Sk.lt_of_get hx
    have xb : 0 ≤ x ∧ x < L.w ^ L.h := ⟨Ld.lo x (rin x xm), Ld.hi x (rin x xm)⟩
    have xt : x ∉ rest.take i := fun z => by
      obtain ⟨j, hj, e⟩ := List.mem_iff_getElem.mp z
      rw [List.length_take] at hj
      have ej : rest[j]? = some x := by
        rw [← e, List.getElem_take, List.getElem?_eq_getElem]
      have := Sk.get_lt rs ej hx (by omega)
      omega
    have xin : x ∈ S0.filter fun z => decide (z ∉ rest.take i) := List.mem_filter.mpr ⟨rin x xm, decide_eq_true xt⟩
    have X' := Ld'.toLadX
    walk_at "gb"
    refine ⟨p, x, L, _, rfl, Ld', fun _ _ _ t H3 kp3 nt tq Ld3 => ?_, fun z => absurd xb z, fun _ _ z => absurd xin z⟩
    have Md3 := Md'.keep kp3 dis
    have Y3 := Md3.toLadX
    have hle : (rest.take i).length ≤ 99 := by rw [List.length_take]; omega
    walk_at "gb"
    refine ⟨f, x, M, _, rfl, Md3, fun _ _ _ => ⟨hle, fun t2 H4 kp4 nt2 tq2 Md4 => ?_⟩, fun z => absurd (by rw [eMw, eMh]; exact xb) z, fun _ _ z => absurd z xt⟩
    have Ld4 := Ld3.keep kp4 dis2
    walk_at "gb"
    refine ⟨?_, ?_, ?_, kp4 _ _ (kp3 _ _ eq noq1) noq2, _, rfl⟩
    · have : (S0.filter fun z => decide (z ∉ rest.take (i + 1))) = Sk.del (S0.filter fun z => decide (z ∉ rest.take i)) x := by
        unfold Sk.del
        rw [List.filter_filter]
        refine List.filter_congr fun z _ => ?_
        rw [Sk.take_snoc hx, ← Bool.decide_and, decide_eq_decide, List.mem_append, List.mem_singleton]
        constructor
        · intro h; exact ⟨fun q => h (.inr q), fun q => h (.inl q)⟩
        · rintro ⟨h1, h2⟩ (q | q)
          · exact h2 q
          · exact h1 q
      rw [this]; exact Ld4
    · have : rest.take (i + 1) = Sk.ins (rest.take i) x := by
        refine Sk.srt_ext (Sk.srt_take rs _) (Sk.srt_ins (Sk.srt_take rs _) x) fun z => ?_
        rw [Sk.take_snoc hx, List.mem_append, List.mem_singleton, Sk.mem_ins]
        exact Or.comm
      rw [this]; exact Md4
    · intro b o e nb
      have e3 := kp3 b o (kp b o e nb) nb
      exact kp4 b o e3 fun z => by rw [frH b z] at e; cases e
  rintro σ H3 ⟨Ld3, Md3, kp, _, v4, rfl⟩
  rw [List.length_map, List.take_length] at Ld3 Md3
  walk_at "gb"
  refine k2 f M H3 (frH f (.inl rfl)) eMw eMh kp frH Md3 ?_
  have : (S0.filter fun z => decide (z ∉ rest)) = S0.filter fun z => decide (z < n) := List.filter_congr fun z hz => by
    rw [decide_eq_decide, ← er, List.mem_filter]
    constructor
    · intro h
      rcases Int.lt_or_le z n with q | q
      · exact q
      · exact absurd ⟨hz, decide_eq_true q⟩ h
    · rintro h ⟨_, q⟩
      have := of_decide_eq_true q
      omega
  rw [← this]; exact Ld3

end
end Lk

/-! ### what the laws share -/
namespace Lk
open PySem PySem.Spec PyProof.Rows L2
theorem inV_int {n : Int} {S : List Int} : inV (.int n) (S.map V.int) = decide (n ∈ S) := by
  induction S with
  | nil => rfl
  | cons a r ih =>
    show (eqV (.int a) (.int n) || inV (.int n) (r.map V.int)) = _
    rw [ih]
    have : eqV (.int a) (.int n) = decide (a = n) := rfl
    rw [this, ← Bool.decide_or, decide_eq_decide, List.mem_cons]
    constructor
    · rintro (q | q)
      · exact .inl q.symm
      · exact .inr q
    · rintro (q | q)
      · exact .inl q.symm
      · exact .inr q
theorem flat_ints (S : List Int) : (S.map V.int).all flatV = true := List.all_eq_true.mpr fun v hv => by
  obtain ⟨i, _, rfl⟩ := List.mem_map.mp hv
  rfl
section
variable {K : PySem.W.Frag} {H : Hp} {Q : VK} {a : Addr} {S : List Int} {n : Int}
theorem g_inI (h : SqL K H a (S.map V.int)) (q : Q (.bl (decide (n ∈ S))) H) : rIn K false (.int n) (.ref a) H Q := ⟨a, _, rfl, .inl h, rfl, flat_ints S, by rw [inV_int]; exact q⟩
theorem g_ninI (h : SqL K H a (S.map V.int)) (q : Q (.bl (!decide (n ∈ S))) H) : rIn K true (.int n) (.ref a) H Q := ⟨a, _, rfl, .inl h, rfl, flat_ints S, by rw [inV_int]; exact q⟩
theorem g_sorted {rs : List Int} (h : SqL K H a (rs.map V.int)) (nd : rs.Nodup) (hs : Sk.Srt S) (e : ∀ x, x ∈ rs ↔ x ∈ S) (q : ∀ p H', H p = none → Same H H' → H' p = some (.lst (S.map V.int)) → Q (.ref p) H') : rSortedI K [.ref a] H Q :=
  ⟨a, rs, rfl, h, fun ns p hp ho np => by
    have nd' : ns.Nodup := hp.nodup_iff.mpr nd
    have srt : Sk.Srt ns := (ho.and (List.nodup_iff_pairwise_ne.mp nd')).imp fun ⟨h1, h2⟩ => by omega
    have : ns = S := Sk.srt_ext srt hs fun x => (hp.mem_iff).trans (e x)
    subst this
    exact q p _ np (same_new np) upd_same⟩
theorem g_cat {xs ys : List V} {b : Addr} (hx : H a = some (.lst xs)) (hy : H b = some (.lst ys)) (hl : xs.length + ys.length ≤ 1000) (q : ∀ p H', H p = none → Same H H' → H' p = some (.lst (xs ++ ys)) → Q (.ref p) H') : rCat (.ref a) (.ref b) H Q :=
  ⟨a, b, xs, ys, rfl, rfl, hx, hy, Nat.le_of_lt (small1000 hl), fun p hp => q p _ hp (same_new hp) upd_same⟩
theorem g_isList {xs : List V} (e : H a = some (.lst xs)) (q : Q (.bl true) H) : rIsi K [.ref a, .ty "list"] H Q := g_isi (.base (.lst e)) (.ty _) (kit_ty (r := true) (by decide +kernel)) q
theorem g_isTup {xs : List V} (e : H a = some (.tup xs)) (q : Q (.bl true) H) : rIsi K [.ref a, .ty "tuple"] H Q := g_isi (.base (.tup e)) (.ty _) (kit_ty (r := true) (by decide +kernel)) q
theorem g_isBool {b : Bool} (q : Q (.bl true) H) : rIsi K [.bl b, .ty "bool"] H Q := g_isi (.base (.bl b)) (.ty _) (kit_ty (r := true) (by decide +kernel)) q
def nInt1 : List V → Hp → VK → Prop := fun xs H Q => (∃ i, xs = [.int i] ∧ Q (.int i) H) ∨ ∃ k, xs = [.bl k] ∧ Q (.int (if k then 1 else 0)) H
theorem c_int1 {X : Cx} : CallR X (.type "int") nInt1 := call_int1
theorem g_int1 {b : Bool} (q : Q (.int (if b = true then 1 else 0)) H) : nInt1 [.bl b] H Q := .inr ⟨b, rfl, q⟩
theorem k_sorted {X : Cx} {K : PySem.W.Frag} (e : X.K = K) : CallR X (.builtin "sorted") (rSortedI K) := e ▸ cr_sortedI
theorem g_testP {c : TT} {σ : L2.St} {R : Bool → Hp → Prop} (b : Bool) (M : Hp → Prop) (hc : ∀ R : Bool → Hp → Prop, (∀ H', M H' → R b H') → c σ H R) (h : ∀ H', M H' → R b H') : c σ H R := hc R h
end
theorem Keeps.seq {K : PySem.W.Frag} {L : LS} {p a : Addr} {H H' : Hp} {xs : List V} (k : Keeps L p H H') (na : ¬ L.own p a) (h : SqL K H a xs) : SqL K H' a xs := by
  rcases h with (h | ⟨o, h⟩) | h
  · exact .inl (.inl (k a _ h na))
  · exact .inl (.inr ⟨o, k a _ h na⟩)
  · exact .inr h
theorem Keeps.of {L : LS} {p c : Addr} {H2 H3 H' : Hp} {o : HO} (k : Keeps L p H3 H') (s : Same H2 H3) (fr : ∀ b, L.own p b → H2 b = none) (e : H2 c = some o) : H' c = some o := k c o (s c o e) fun q => by rw [fr c q] at e; cases e
theorem Keeps.seqOf {K : PySem.W.Frag} {L : LS} {p a : Addr} {H2 H3 H' : Hp} {xs : List V} (k : Keeps L p H3 H') (s : Same H2 H3) (fr : ∀ b, L.own p b → H2 b = none) (h : SqL K H2 a xs) : SqL K H' a xs := by
  rcases h with (h | ⟨o, h⟩) | h
  · exact .inl (.inl (k.of s fr h))
  · exact .inl (.inr ⟨o, k.of s fr h⟩)
  · exact .inr h
theorem tupl_item {H : Hp} {q : Addr} {xs : List (List V)} (h : TupL H q xs) : ∃ as : List Addr, H q = some (.lst (as.map V.ref)) ∧ as.length = xs.length ∧ ∀ (i : Nat) (v : V), (as.map V.ref)[i]? = some v → ∃ t x, v = V.ref t ∧ xs[i]? = some x ∧ H t = some (.tup x) := by
  obtain ⟨as, h1, h2⟩ := h
  refine ⟨as, h1, paired_len h2, fun i v e => ?_⟩
  rw [List.getElem?_map] at e
  have hl := paired_len h2
  have hi : i < as.length := by
    rcases Nat.lt_or_ge i as.length with q | q
    · exact q
    · rw [List.getElem?_eq_none q] at e; cases e
  have ex : xs[i]? = some (xs[i]'(by omega)) := List.getElem?_eq_getElem (by omega)
  obtain ⟨t, e1, e2⟩ := paired_get h2 ex
  rw [e1] at e
  exact ⟨t, _, (Option.some.inj e).symm, ex, e2⟩
/-- [x for x in row if ..] -/
theorem g_lcF {K : PySem.W.Frag} {H1 : Hp} {Q : VK} {a : Addr} {S : List Int} {p : Int → Bool} {j : Nat} {vs : List Nat} {σ : L2.St} {tt : TT} (hq : SqL K H1 a (S.map V.int)) (hl : S.length ≤ 1000)
    (hw : ∀ x : V, wipe ((wipe σ vs).set j (some x)) vs = wipe σ vs) (hj : ∀ x : V, ((wipe σ vs).set j (some x))[j]? = some (some x))
    (ht : ∀ (x : Int) (H' : Hp) (R : Bool → Hp → Prop), x ∈ S → Same H1 H' → R (p x) H' → tt ((wipe σ vs).set j (some (.int x))) H' R)
    (hd : ∀ D H', H1 D = none → Same H1 H' → H' D = some (.lst ((S.filter p).map V.int)) → Q (.ref D) H') : dLc (gName j) tt (tVar j) vs σ (Itl K a) H1 Q := by
  refine g_lcL hq (fun i => ((S.take i).filter p).map V.int) rfl (fun D i x H' hD hi s3 e3 => ?_) (fun D H' hD s3 e3 => ?_)
  · rw [List.getElem?_map] at hi
    obtain ⟨z, hz, rfl⟩ := Option.map_eq_some_iff.mp hi
    have eo : (((S.take (i + 1)).filter p).map V.int) = ((S.take i).filter p).map V.int ++ (if p z = true then [V.int z] else []) := by
      rw [Sk.take_snoc hz, List.filter_append, List.map_append]
      by_cases q : p z = true
      · rw [if_pos q, List.filter_cons, if_pos q]; rfl
      · rw [if_neg q, List.filter_cons, if_neg q]; rfl
    refine g_name _ ⟨hw _, ht z H' _ (List.mem_of_getElem? hz) s3 ?_⟩
    refine g_ite (fun e => ?_) (fun e => ?_)
    · rw [e, if_pos rfl] at eo
      refine g_var (hj _) (g_add1 hD s3 e3 ?_ eo)
      rw [List.length_map]
      have := List.length_filter_le p (S.take i)
      have h2 : (S.take i).length ≤ S.length := by rw [List.length_take]; omega
      omega
    · rw [e, if_neg (by decide), List.append_nil] at eo
      exact g_skip1 s3 e3 eo
  · rw [List.length_map, List.take_length] at e3
    exact hd D H' hD s3 e3
theorem bel_def {S : List Int} {n : Int} : (S.filter fun z => decide (z < n)).getLast? = Sk.bel S n := rfl
theorem abv_def {S : List Int} {n : Int} : (S.filter fun z => decide (n < z)).head? = Sk.abv S n := by
  unfold Sk.abv
  rw [List.head?_filter]
theorem atI_lastI {S : List Int} {z : Int} (h : S.getLast? = some z) : atI (S.map V.int) (-1) = some (.int z) := by
  obtain ⟨bs, rfl⟩ := List.getLast?_eq_some_iff.mp h
  rw [List.map_append]
  exact atI_last _ _
theorem atI_headI {S : List Int} {z : Int} (h : S.head? = some z) : atI (S.map V.int) 0 = some (.int z) := by
  refine atI_c0 ?_
  rw [List.getElem?_map, ← List.head?_eq_getElem?, h]
  rfl
theorem plain_ov (o : Option Int) : plainV (ov o) = true := by cases o <;> rfl
def dRev (K : PySem.W.Frag) (vs : List V) (H1 : Hp) (R : It → Hp → Prop) : Prop := ∃ (a : Addr) (xs : List V), vs = [.ref a] ∧ SqL K H1 a xs ∧ R (Itv K a xs.length) H1
def nRev (K : PySem.W.Frag) (tA : TA) : TI := fun σ H R => tA σ H fun vs H1 => dRev K vs H1 R
theorem k_rev {X : Cx} {K : PySem.W.Frag} (eK : X.K = K) {tg : Expr} {e : Expr} {tA : TA} {p pos : Pos} (hg : Gl X "reversed") (hm : X.mg "reversed" = none) (ha : PA X [e] tA) (hs : starEach [e] X.env = [(false, eval e X.env)] := by rfl) : PI X tg (.Call (.Name "reversed" p) [e] [] pos) (nRev K tA) := eK ▸ pi_reversed hg hm ha hs
theorem g_rev0 {K : PySem.W.Frag} {tA : TA} {σ : L2.St} {H : Hp} {R : It → Hp → Prop} (h : tA σ H fun vs H1 => dRev K vs H1 R) : nRev K tA σ H R := h
theorem g_rev {K : PySem.W.Frag} {H : Hp} {R : It → Hp → Prop} {a : Addr} {xs : List V} (hs : SqL K H a xs) (h : R (Itv K a xs.length) H) : dRev K [.ref a] H R := ⟨a, xs, rfl, hs, h⟩
/-- [x for x in reversed(row) if ..] -/
theorem g_lcFR {K : PySem.W.Frag} {H1 : Hp} {Q : VK} {a : Addr} {S : List Int} {p : Int → Bool} {j : Nat} {vs : List Nat} {σ : L2.St} {tt : TT} (hq : SqL K H1 a (S.map V.int)) (hl : S.length ≤ 1000)
    (hw : ∀ x : V, wipe ((wipe σ vs).set j (some x)) vs = wipe σ vs) (hj : ∀ x : V, ((wipe σ vs).set j (some x))[j]? = some (some x))
    (ht : ∀ (x : Int) (H' : Hp) (R : Bool → Hp → Prop), x ∈ S → Same H1 H' → R (p x) H' → tt ((wipe σ vs).set j (some (.int x))) H' R)
    (hd : ∀ D H', H1 D = none → Same H1 H' → H' D = some (.lst ((S.reverse.filter p).map V.int)) → Q (.ref D) H') : dLc (gName j) tt (tVar j) vs σ (Itv K a (S.map V.int).length) H1 Q := fun D hD => by
  refine lc_it walk_rev (fun i H' => Same H1 H' ∧ H' D = some (.lst (((S.reverse.take i).filter p).map V.int))) ⟨same_new hD, upd_same⟩ (fun i H' _ q => q.1.seq hq) (fun i x H' H2 hi ⟨s3, e3⟩ ⟨eH, hx⟩ => ?_) fun H' ⟨s3, e3⟩ => ?_
  · subst eH
    have hz : ∃ z, S.reverse[i]? = some z ∧ x = .int z := by
      rw [List.length_map] at hi hx
      rw [List.getElem?_map] at hx
      obtain ⟨z, hz, rfl⟩ := Option.map_eq_some_iff.mp hx
      exact ⟨z, by rw [List.getElem?_reverse hi]; exact hz, rfl⟩
    obtain ⟨z, hz, rfl⟩ := hz
    have eo : (((S.reverse.take (i + 1)).filter p).map V.int) = ((S.reverse.take i).filter p).map V.int ++ (if p z = true then [V.int z] else []) := by
      rw [Sk.take_snoc hz, List.filter_append, List.map_append]
      by_cases q : p z = true
      · rw [if_pos q, List.filter_cons, if_pos q]; rfl
      · rw [if_neg q, List.filter_cons, if_neg q]; rfl
    refine g_name _ ⟨hw _, ht z H2 _ (List.mem_reverse.mp (List.mem_of_getElem? hz)) s3 ?_⟩
    refine g_ite (fun e => ?_) (fun e => ?_)
    · rw [e, if_pos rfl] at eo
      refine g_var (hj _) ⟨_, e3, small1000 ?_, same_mut s3 hD, by rw [upd_same, eo]⟩
      rw [List.length_map]
      have := List.length_filter_le p (S.reverse.take i)
      have h2 : (S.reverse.take i).length ≤ S.length := by rw [List.length_take, List.length_reverse]; omega
      omega
    · rw [e, if_neg (by decide), List.append_nil] at eo
      exact ⟨s3, by rw [eo]; exact e3⟩
  · rw [List.length_map, ← List.length_reverse, List.take_length] at e3
    exact hd D H' hD s3 e3
/-- the list tells an ordered row's numbers, in any order -/
structure RowOf (rs S : List Int) : Prop where
  nd : rs.Nodup
  srt : Sk.Srt S
  mem : ∀ x, x ∈ rs ↔ x ∈ S
theorem RowOf.nil : RowOf [] [] := ⟨.nil, .nil, fun _ => .rfl⟩
theorem RowOf.snoc {rs S : List Int} {n : Int} (h : RowOf rs S) (hn : n ∉ rs) : RowOf (rs ++ [n]) (Sk.ins S n) where
  nd := List.nodup_append.mpr ⟨h.nd, List.nodup_cons.mpr ⟨List.not_mem_nil, .nil⟩, fun a ha b hb => by rw [List.mem_singleton] at hb; subst hb; exact fun q => hn (q ▸ ha)⟩
  srt := Sk.srt_ins h.srt n
  mem := fun x => by
    rw [List.mem_append, List.mem_singleton, Sk.mem_ins, h.mem x]
    exact Or.comm
theorem RowOf.len {rs S : List Int} (h : RowOf rs S) : rs.length = S.length :=
  Nat.le_antisymm (nodup_len h.nd fun x hx => (h.mem x).mp hx) (nodup_len (Sk.srt_nodup h.srt) fun x hx => (h.mem x).mpr hx)
section
variable {P : Program} {w : World} {K : PySem.W.Frag} {mg : Str → Option Value} {base : Heap} {A : Ads}
def sp__law_number : Sp := fun vs H Q _ => ∃ (c lim : Int), vs = [.int c, .int lim] ∧ 0 < lim ∧ lim ≤ 282429536482 ∧ ∀ z : Int, 0 ≤ z → z < lim → Q (.int z) H
theorem ok__law_number (T : Txt K mg A) : FO P w K mg base 2 A._law_number ["_law_cell", "_law_limit"] sp__law_number := by
  have S := sc__law_number
  refine FO.mk' T.f__law_number S b__law_number (fun vs H Q E h => by obtain ⟨_, _, rfl, _⟩ := h; rfl) (fun cdv Ar outer s H vs Q E hr h => ?_)
  have hu := hu_of hr
  obtain ⟨c, lim, rfl, l1, l2, k⟩ := h
  have m1 : 0 < min lim 30 := by omega
  have m2 : min lim 30 ≤ lim := by omega
  refine ⟨_, (pss_cons (ps_if (pt_cmpR op_eq (pe_op o_mod (pv 0) pe_int) pe_int (nomark _))
    (pss_one (ps_ret (pe_op o_mod (pe_op o_div (pv 0) pe_int) (pv 1))))
    pss_nil)
  (pss_cons (ps_if (pt_cmpR op_eq (pe_op o_mod (pv 0) pe_int) pe_int (nomark _))
    (pss_one (ps_ret (pe_op o_mod (pe_op o_div (pv 0) pe_int) (pe_callB (c_min2 rfl) (by rfl) T.z_min (by decide +kernel) (pa_cons (pv 1) (pa_cons pe_int pa_nil))))))
    pss_nil)
  (pss_cons (ps_if (pt_cmpR op_eq (pe_op o_mod (pv 0) pe_int) pe_int (nomark _))
    (pss_one (ps_ret (pe_op o_sub (pe_op o_sub (pv 1) pe_int) (pe_op o_mod (pe_op o_div (pv 0) pe_int) (pe_callB (c_min2 rfl) (by rfl) T.z_min (by decide +kernel) (pa_cons (pv 1) (pa_cons pe_int pa_nil)))))))
    pss_nil)
  (pss_one (ps_ret (pe_op o_mod (pe_op o_mul (pe_op o_div (pv 0) pe_int) pe_int) (pv 1))))))), ?_⟩
  walk_at "go"
  refine g_ite (fun _ => ?_) (fun _ => ?_)
  · walk_at "go"
    exact k _ (Int.emod_nonneg _ (by omega)) (Int.emod_lt_of_pos _ l1)
  walk_at "go"
  refine g_ite (fun _ => ?_) (fun _ => ?_)
  · walk_at "go"
    have := Int.emod_lt_of_pos (c / 4) m1
    exact k _ (Int.emod_nonneg _ (by omega)) (by omega)
  walk_at "go"
  refine g_ite (fun _ => ?_) (fun _ => ?_)
  · walk_at "go"
    have := Int.emod_lt_of_pos (c / 4) m1
    have := Int.emod_nonneg (c / 4) (show min lim 30 ≠ 0 by omega)
    exact k _ (by omega) (by omega)
  walk_at "go"
  refine g_mul (.inr (by decide)) ?_
  walk_at "go"
  exact k _ (Int.emod_nonneg _ (by omega)) (Int.emod_lt_of_pos _ l1)



end
end Lk

/-! ### a dict that keeps a row's numbers, and the row of its keys in order -/
namespace Lk
open PySem PySem.Spec PyProof.Rows L2
def nSortD : List V → Hp → VK → Prop := fun xs H Q => ∃ (d : Addr) (kvs : List (Key × V)) (rs : List Int), xs = [V.ref d] ∧ H d = some (.dK kvs) ∧ kvs.map Prod.fst = rs.map Sum.inl ∧ rs.length ≤ 1000 ∧
  ∀ (out : List Int) (p : Addr), out.Perm rs → out.Pairwise (· ≤ ·) → H p = none → Q (V.ref p) (upd H p (.lst (out.map V.int)))
theorem c_sortD {Y : Cx} (hcm : Y.calm = true) : CallR Y (.builtin "sorted") nSortD := by
  intro pn st σ H ws us Q I rl hyp
  obtain ⟨d, kvs, rs, rfl, hd, hk, hle, nxt⟩ := hyp
  obtain ⟨u, rfl, ru⟩ := vals1 rl
  cases ru
  have hle2 : rs.length ≤ sizeLine := Nat.le_of_lt (small1000 hle)
  obtain ⟨z, lo, prs, rel, dd⟩ := dk_rd I.hok (.of hd)
  obtain ⟨ep, hat⟩ := dd.dictAt
  have hks : prs.map Prod.fst = rs.map Sum.inl := rel.keys.symm.trans hk
  have hln : prs.length = rs.length := by simpa using congrArg List.length hks
  refine Calls.call_function_entry kind_sorted plain_sorted entry_sorted (args_sorted1 _) ?_
  unfold Builtin.«sorted»
  refine wpAny_bind (m := checkCount "sorted" 1 1 _) (wpAny_pure (wpAny_bind (PySem.W.kdu_collect (A := Y.A.in1) (PySem.W.kdl_dict (knd := mixKind Y.prog Y.w) (kvs := prs) (ep := ep) lo) (I.ok.hd hcm) hat (by rw [hln]; exact hle2) ?_)))
  intro hp tk got hkeep hgot
  have hgl : got.toList.length = rs.length := by rw [Array.length_toList, hgot.1, hln]
  have hints : IntsAre got.toList rs := by
    refine ints_each hgl fun j v ev => ?_
    obtain ⟨key, val, h1, h2⟩ := hgot.2 j v (by rw [← Array.getElem?_toList]; exact ev)
    have h3 : (prs.map Prod.fst)[j]? = some key := by rw [List.getElem?_map, h1]; rfl
    rw [hks, List.getElem?_map] at h3
    obtain ⟨y, h4, h5⟩ := Option.map_eq_some_iff.mp h3
    subst h5
    rcases keyIs_shape (show keyIs (Sum.inl y) v = true from h2) with ⟨i, t, q1, q2⟩ | ⟨i, t, q1, q2⟩
    · cases q1
      exact ⟨y, t, h4, q2⟩
    · cases q1
  have J : Inv Y pn σ H { st with heap := hp, toks := tk } := I.kept hkeep
  refine wpAny_bind (wpAny_newList ?_ (by rw [hgl]; exact hle2))
  have there : (hp.push (seqObj "list" got.toList.toArray 0)).get? hp.objs.size = some (seqObj "list" got.toList.toArray 0) := Heap.get?_push_size _ rfl
  show wpAny _ _ _ _ _ ({ st with heap := hp.push (seqObj "list" got.toList.toArray 0), toks := tk } : Shared)
  refine wpAny_bind (wpAny_holding (wpAny_call_entry slot_list_sort ⟨_, there, rfl⟩ entry_list_sort (SrtO.list_sort_ord (s := { st with heap := hp.push (seqObj "list" got.toList.toArray 0), toks := tk }) SrtO.swo_int there (by rw [hgl]; exact hle2) (fun h2 => SrtO.ints_sortable hints h2) ?_) (args_list_sort _)))
  intro out h1 h2
  obtain ⟨k1, k2, k3⟩ := SrtO.ints_out hints h1 h2
  obtain ⟨e', he'⟩ := sortedHeap_at (vs := got.toList) (out := out.toArray) there
  refine ⟨_, rfl, wpAny_pure ⟨_, rfl, ?_⟩⟩
  refine ⟨.ref hp.objs.size, upd H hp.objs.size (.lst ((out.map SrtO.iv).map V.int)), J.laid (t' := tk) (fun b u eb => ?_) (Nat.le_refl _) ⟨by rw [List.length_map, k2.length_eq]; exact hle2, out, e', vals_of_ints k1, he'⟩, rfl, nxt _ _ k2 k3 (J.hok.fresh (Nat.le_refl _))⟩
  have lt := Heap.lt_size eb
  rw [sortedHeap_old (Nat.ne_of_lt lt) (by rw [size_push']; exact Nat.lt_succ_of_lt lt)]
  exact Heap.get?_push_of_some _ eb
/-- the dict's keys, in their order -/
def DR (H : Hp) (d : Addr) (rs : List Int) : Prop := ∃ kvs : List (Key × V), H d = some (.dK kvs) ∧ kvs.map Prod.fst = rs.map Sum.inl
theorem DR.new {H : Hp} {d : Addr} (e : H d = some (.dK [])) : DR H d [] := ⟨[], e, rfl⟩
theorem DR.at {H H' : Hp} {d : Addr} {rs : List Int} (x : DR H d rs) (e : H' d = H d) : DR H' d rs := by
  obtain ⟨kvs, h1, h2⟩ := x
  exact ⟨kvs, e.trans h1, h2⟩
theorem DR.same {H H' : Hp} {d : Addr} {rs : List Int} (x : DR H d rs) (s : Same H H') : DR H' d rs := by
  obtain ⟨kvs, h1, h2⟩ := x
  exact ⟨kvs, s _ _ h1, h2⟩
theorem DR.keep {L : LS} {p : Addr} {H H' : Hp} {d : Addr} {rs : List Int} (x : DR H d rs) (s : Keeps L p H H') (n : ¬ L.own p d) : DR H' d rs := by
  obtain ⟨kvs, h1, h2⟩ := x
  exact ⟨kvs, s _ _ h1 n, h2⟩
theorem keys_any {kvs : List (Key × V)} {rs : List Int} (h : kvs.map Prod.fst = rs.map Sum.inl) (k : Int) : (valV kvs (Sum.inl k : Key)).isSome = decide (k ∈ rs) := by
  rw [← valV_any]
  have : (kvs.any fun kv => decide (kv.1 = (Sum.inl k : Key))) = (kvs.map Prod.fst).any fun q => decide (q = (Sum.inl k : Key)) := by rw [List.any_map]; rfl
  rw [this, h, List.any_map]
  by_cases q : k ∈ rs
  · rw [decide_eq_true q, List.any_eq_true]
    exact ⟨k, q, decide_eq_true rfl⟩
  · rw [decide_eq_false q, List.any_eq_false]
    intro x hx e
    have := of_decide_eq_true e
    exact q (Sum.inl.inj this ▸ hx)
section
variable {H H' : Hp} {Q : VK} {d : Addr} {rs S : List Int} {k : Int} {v : V} {D : Ends} {σ : L2.St}
theorem g_rdIn (x : DR H d rs) (h : Q (.bl (decide (k ∈ rs))) H) : dIn (.int k) (.ref d) H Q := by
  obtain ⟨kvs, h1, h2⟩ := x
  exact g_in h1 (by rw [keys_any h2]; exact h)
theorem g_rdNin (x : DR H d rs) (h : Q (.bl (!decide (k ∈ rs))) H) : dNotIn (.int k) (.ref d) H Q := by
  obtain ⟨kvs, h1, h2⟩ := x
  exact g_nin h1 (by rw [keys_any h2]; exact h)
theorem DR.le (x : DR H d rs) : ∃ kvs : List (Key × V), H d = some (.dK kvs) ∧ kvs.length = rs.length := by
  obtain ⟨kvs, h1, h2⟩ := x
  exact ⟨kvs, h1, by simpa using congrArg List.length h2⟩
theorem g_rdLen (x : DR H d rs) (h : Q (.int rs.length) H) : nLenD [.ref d] H Q := by
  obtain ⟨kvs, h1, h2⟩ := x.le
  exact g_lenD h1 (by rw [h2]; exact h)
theorem g_rdPut (x : DR H d rs) (hk : k ∉ rs) (hl : rs.length ≤ 900) (h : ∀ H', But d H H' → DR H' d (rs ++ [k]) → D.nx σ H') : dPut D σ v (.ref d) (.int k) H := by
  obtain ⟨kvs, h1, h2⟩ := x
  have len : kvs.length = rs.length := by simpa using congrArg List.length h2
  refine ⟨d, _, rfl, DPut.k (k := Sum.inl k) h1 (small1000 (by omega)), h _ (fun b hb => upd_ne hb) ⟨_, upd_same, ?_⟩⟩
  have e : (kvs.any fun kv => decide (kv.1 = (Sum.inl k : Key))) = false := by
    rw [valV_any, keys_any h2, decide_eq_false hk]
  unfold putK
  rw [if_neg (by rw [e]; decide), List.map_append, List.map_append, h2]
  rfl
theorem drop_keys {kvs : List (Key × V)} {rs : List Int} (h : kvs.map Prod.fst = rs.map Sum.inl) (nd : rs.Nodup) (k : Int) : (dropK kvs (Sum.inl k : Key)).map Prod.fst = (rs.filter fun z => decide (z ≠ k)).map Sum.inl := by
  induction kvs generalizing rs with
  | nil =>
    cases rs with
    | nil => rfl
    | cons a r => cases h
  | cons q t ih =>
    cases rs with
    | nil => cases h
    | cons a r =>
      obtain ⟨h1, h2⟩ := List.cons.inj h
      obtain ⟨n1, n2⟩ := List.nodup_cons.mp nd
      have h1 : q.1 = Sum.inl a := h1
      by_cases e : a = k
      · subst e
        rw [dropK_pos h1, ih h2 n2, List.filter_cons, if_neg (by simp)]
      · rw [dropK_neg (by rw [h1]; exact fun q => e (Sum.inl.inj q)), List.filter_cons, if_pos (decide_eq_true e), List.map_cons, List.map_cons, ih h2 n2, h1]
theorem g_rdPop {i : Nat} (x : DR H d rs) (nd : rs.Nodup) (hk : k ∈ rs) (ek : σ[i]? = some (some (.int k))) (h : ∀ v H', But d H H' → DR H' d (rs.filter fun z => decide (z ≠ k)) → Q v H') : dPop0 (tVar i) σ (.ref d) H Q := by
  obtain ⟨kvs, h1, h2⟩ := x
  have e := keys_any h2 k
  rw [decide_eq_true hk] at e
  obtain ⟨v, hv⟩ := Option.isSome_iff_exists.mp e
  exact ⟨d, rfl, .inl ⟨kvs, .inl h1⟩, .int k, ek, kvs, Sum.inl k, v, h1, rfl, hv, h v _ (fun b hb => upd_ne hb) ⟨_, upd_same, drop_keys h2 nd k⟩⟩
theorem g_rdList (x : DR H d rs) (hl : rs.length ≤ 900) (q : ∀ p H', H p = none → Same H H' → H' p = some (.lst (rs.map V.int)) → Q (.ref p) H') : rListD [.ref d] H Q := by
  obtain ⟨kvs, h1, h2⟩ := x
  refine ⟨d, kvs, rfl, h1, fun p np => ?_⟩
  have e : (kvs.map fun kv => kV kv.1) = rs.map V.int := by
    have := congrArg (List.map kV) h2
    rw [List.map_map, List.map_map] at this
    exact this
  rw [e]
  exact q p _ np (same_new np) upd_same
theorem g_rdSorted (x : DR H d rs) (hl : rs.length ≤ 1000) (ro : RowOf rs S) (q : ∀ p H', H p = none → Same H H' → H' p = some (.lst (S.map V.int)) → Q (.ref p) H') : nSortD [.ref d] H Q := by
  obtain ⟨kvs, h1, h2⟩ := x
  refine ⟨d, kvs, rs, rfl, h1, h2, hl, fun out p hp ho np => ?_⟩
  have nd' : out.Nodup := hp.nodup_iff.mpr ro.nd
  have srt : Sk.Srt out := (ho.and (List.nodup_iff_pairwise_ne.mp nd')).imp fun ⟨h1, h2⟩ => by omega
  obtain rfl : out = S := Sk.srt_ext srt ro.srt fun x => (hp.mem_iff).trans (ro.mem x)
  exact q p _ np (same_new np) upd_same
end
def dEnum (K : PySem.W.Frag) (vs : List V) (H1 : Hp) (R : It → Hp → Prop) : Prop := ∃ (a : Addr) (xs : List V), vs = [.ref a] ∧ SqL K H1 a xs ∧ R (Ite K a) H1
def nEnum (K : PySem.W.Frag) (tA : TA) : TI := fun σ H R => tA σ H fun vs H1 => dEnum K vs H1 R
theorem k_enum {X : Cx} {K : PySem.W.Frag} (eK : X.K = K) {e : Expr} {tA : TA} {p pos tpos : Pos} {es : List Expr} {kk : Nat} (hg : Gl X "enumerate") (hm : X.mg "enumerate" = none) (ha : PA X [e] tA) (hs : starEach [e] X.env = [(false, eval e X.env)] := by rfl) : PI X (.Tuple es kk tpos) (.Call (.Name "enumerate" p) [e] [] pos) (nEnum K tA) := eK ▸ pi_enum hg hm ha hs
theorem g_enum0 {K : PySem.W.Frag} {tA : TA} {σ : L2.St} {H : Hp} {R : It → Hp → Prop} (h : tA σ H fun vs H1 => dEnum K vs H1 R) : nEnum K tA σ H R := h
theorem g_enum {K : PySem.W.Frag} {H : Hp} {R : It → Hp → Prop} {a : Addr} {xs : List V} (hs : SqL K H a xs) (h : R (Ite K a) H) : dEnum K [.ref a] H R := ⟨a, xs, rfl, hs, h⟩
theorem g_sl0 {r : V → Option Int → Option Int → Hp → VK → Prop} {te : TE} {tl th : TO} {σ : L2.St} {H : Hp} {Q : VK} (h : te σ H fun x H1 => tl σ H1 fun l H2 => th σ H2 fun u H3 => r x l u H3 Q) : tSl r te tl th σ H Q := h
theorem g_part {σ : L2.St} {H : Hp} {i : Int} {Q : Option Int → Hp → Prop} (h : Q (some i) H) : tPart (tC (.int i)) σ H Q := ⟨i, rfl, h⟩
theorem g_noPart {σ : L2.St} {H : Hp} {Q : Option Int → Hp → Prop} (h : Q none H) : tNoPart σ H Q := h
theorem g_slice {K : PySem.W.Frag} {H : Hp} {Q : VK} {a : Addr} {ns : List Int} {lo hi : Option Int} (hs : SqL K H a (ns.map V.int)) (q : ∀ (p : Addr) (H' : Hp) (ms : List Int), H p = none → Same H H' → ms.length ≤ ns.length → H' p = some (.lst (ms.map V.int)) → Q (.ref p) H') : rSlL K (.ref a) lo hi H Q :=
  ⟨a, _, rfl, hs, fun p hp => q p _ ((ns.drop (HT.sIx (ns.map V.int).length 0 lo)).take (HT.sIx (ns.map V.int).length (ns.map V.int).length hi - HT.sIx (ns.map V.int).length 0 lo)) hp (same_new hp) (by rw [List.length_take, List.length_drop]; omega) (by
    rw [upd_same]
    unfold cutV
    rw [List.map_take, List.map_drop])⟩
theorem g_clear0 {K : PySem.W.Frag} {T : String} {r : V → List V → Hp → VK → Prop} {to : TE} {σ : L2.St} {H : Hp} {Q : VK} (h : to σ H fun x H1 => tyV K T x H1 ∧ r x [] H1 Q) : tBM0 K T r to σ H Q := h
theorem g_clear {K : PySem.W.Frag} {H : Hp} {Q : VK} {a : Addr} {xs : List V} (e : H a = some (.lst xs)) (q : ∀ H', But a H H' → H' a = some (.lst []) → Q .non H') : tyV K "list" (.ref a) H ∧ rClear (.ref a) [] H Q :=
  ⟨ty_lst e, a, xs, rfl, rfl, e, q _ (fun b hb => upd_ne hb) upd_same⟩
/-- [f(x) for x in row], f telling True -/
theorem g_lcT {K : PySem.W.Frag} {H1 : Hp} {Q : VK} {a : Addr} {S : List Int} {j : Nat} {vs : List Nat} {σ : L2.St} {te : TE} (hq : SqL K H1 a (S.map V.int)) (hl : S.length ≤ 1000)
    (hw : ∀ x : V, wipe ((wipe σ vs).set j (some x)) vs = wipe σ vs)
    (ht : ∀ (x : Int) (H' : Hp) (R : VK), R (.bl true) H' → te ((wipe σ vs).set j (some (.int x))) H' R)
    (hd : ∀ D H', H1 D = none → Same H1 H' → H' D = some (.lst ((List.replicate S.length true).map V.bl)) → Q (.ref D) H') : dLc (gName j) tYes te vs σ (Itl K a) H1 Q := by
  refine g_lcL hq (fun i => (List.replicate i true).map V.bl) rfl (fun D i x H' hD hi s3 e3 => ?_) (fun D H' hD s3 e3 => ?_)
  · rw [List.getElem?_map] at hi
    obtain ⟨z, hz, rfl⟩ := Option.map_eq_some_iff.mp hi
    have := Sk.lt_of_get hz
    refine g_name _ ⟨hw _, g_yes ?_⟩
    rw [if_pos rfl]
    refine ht z H' _ (g_add1 hD s3 e3 (by rw [List.length_map, List.length_replicate]; omega) ?_)
    rw [List.replicate_succ', List.map_append]
    rfl
  · rw [List.length_map] at e3
    exact hd D H' hD s3 e3
def dRng3 (vs : List V) (H1 : Hp) (R : It → Hp → Prop) : Prop := ∃ (i j c : Int) (n : Nat), vs = [.int i, .int j, .int c] ∧ RgC i j c n ∧ R (Itc i c n) H1
theorem g_rng3 {tA : TA} {σ : L2.St} {H : Hp} {R : It → Hp → Prop} (h : tA σ H fun vs H1 => dRng3 vs H1 R) : iRng3 tA σ H R := h
theorem RowOf.del {rs S : List Int} (h : RowOf rs S) (k : Int) : RowOf (rs.filter fun z => decide (z ≠ k)) (Sk.del S k) where
  nd := h.nd.filter _
  srt := Sk.srt_del h.srt k
  mem := fun x => by
    rw [List.mem_filter, h.mem x, Sk.mem_del, decide_eq_true_eq]
end Lk

/-! ### what a deed changes, level by level -/
namespace Lk
open PySem PySem.Spec PyProof.Rows L2
theorem lv_1 {S : List Int} : Sk.lv 1 S = S := by
  show S.filter _ = S
  exact List.filter_eq_self.mpr fun z hz => decide_eq_true (st_one.mpr hz)
/-- on one level: who came, who went -/
structure Ch (U U' : List Int) (c g : Option Int) : Prop where
  nn : ¬ (c = none ∧ g = none)
  gone : ∀ x, g = some x → x ∈ U
  came : ∀ y, c = some y → y ∉ U
  mem : ∀ k, k ∈ U' ↔ c = some k ∨ (k ∈ U ∧ g ≠ some k)
/-- a number put in, or taken out, and what is told of it -/
def Dd (L : LS) (S S' : List Int) (xs : List (List V)) : Prop :=
  (∃ n, n ∉ S ∧ 0 ≤ n ∧ n < L.w ^ L.h ∧ S' = Sk.ins S n ∧ xs = putT L S n (L.h + 1)) ∨ (∃ n, n ∈ S ∧ S' = Sk.del S n ∧ xs = takeT L S n (L.h + 1))
theorem alk_iff {c n k : Int} {o : Option Int} : alk c n o = some k ↔ o = some k ∧ n / c = k / c := by
  cases o with
  | none => exact ⟨fun e => (nomatch e), fun e => (nomatch e.1)⟩
  | some a =>
    show (if n / c = a / c then some a else none) = some k ↔ _
    constructor
    · intro e
      split at e
      · rename_i q; cases e; exact ⟨rfl, q⟩
      · cases e
    · rintro ⟨e, q⟩
      cases e
      rw [if_pos q]
theorem dd_ch {L : LS} {S S' : List Int} {xs : List (List V)} (ok : LOk L) (hs : Sk.Srt S) (d : Dd L S S' xs) : ∃ (q : Nat → Bool) (c g : Nat → Option Int),
    xs = (((List.range (L.h + 1)).filter q).map fun l : Nat => [V.int (l : Int), ov (c l), ov (g l)]) ∧
    (∀ l, l ≤ L.h → q l = true → Ch (Sk.lv (L.w ^ l) S) (Sk.lv (L.w ^ l) S') (c l) (g l)) ∧ ∀ l, l ≤ L.h → q l = false → Sk.lv (L.w ^ l) S' = Sk.lv (L.w ^ l) S := by
  rcases d with ⟨n, hn, _, _, rfl, rfl⟩ | ⟨n, hn, rfl, rfl⟩
  · refine ⟨fun l => decide (Sk.St (L.w ^ l) (Sk.ins S n) n), fun _ => some n, fun l => alk (L.w ^ l) n (Sk.abv S n), rfl, fun l hl e => ?_, fun l hl e => ?_⟩
    · have hc := (pow_ok ok hl).1
      have st := of_decide_eq_true e
      refine ⟨fun z => (nomatch z.1), fun x hx => ?_, fun y hy q => ?_, fun k => ?_⟩
      · obtain ⟨h1, h2⟩ := alk_iff.mp hx
        exact Sk.lv_mem.mpr (Sk.alk_in hc hs hn st h1 h2)
      · cases hy; exact hn (Sk.lv_mem.mp q).1
      · rw [Sk.lv_put hc hs hn st]
        constructor
        · rintro (rfl | ⟨h1, h2⟩)
          · exact .inl rfl
          · exact .inr ⟨h1, fun z => h2 (alk_iff.mp z)⟩
        · rintro (h | ⟨h1, h2⟩)
          · cases h; exact .inl rfl
          · exact .inr ⟨h1, fun z => h2 (alk_iff.mpr z)⟩
    · exact Sk.lv_stay (pow_ok ok hl).1 hs hn (of_decide_eq_false e)
  · have hU := Sk.srt_del hs n
    have nU : n ∉ Sk.del S n := fun q => (Sk.mem_del.mp q).2 rfl
    have eS := Sk.ins_del hs hn
    have ea : Sk.abv S n = Sk.abv (Sk.del S n) n := by
      have h2 := congrArg (fun z => Sk.abv z n) eS
      rw [← h2]
      exact Sk.abv_ins (c := 1) (by decide) hU nU
    refine ⟨fun l => decide (Sk.St (L.w ^ l) S n), fun l => alk (L.w ^ l) n (Sk.abv S n), fun _ => some n, rfl, fun l hl e => ?_, fun l hl e => ?_⟩
    · have hc := (pow_ok ok hl).1
      have st := of_decide_eq_true e
      rw [ea]
      have st' : Sk.St (L.w ^ l) (Sk.ins (Sk.del S n) n) n := by rw [eS]; exact st
      have lp : ∀ {k : Int}, k ∈ Sk.lv (L.w ^ l) S ↔ k = n ∨ (k ∈ Sk.lv (L.w ^ l) (Sk.del S n) ∧ ¬ (Sk.abv (Sk.del S n) n = some k ∧ n / L.w ^ l = k / L.w ^ l)) := fun {k} => by
        have := Sk.lv_put (k := k) hc hU nU st'
        rw [eS] at this
        exact this
      refine ⟨fun z => (nomatch z.2), fun x hx => ?_, fun y hy q => ?_, fun k => ?_⟩
      · cases hx; exact Sk.lv_mem.mpr st
      · have hy := alk_iff.mp hy
        rcases lp.mp q with q | q
        · have := ((Sk.abv_some hU).mp hy.1).2.1
          omega
        · exact q.2 hy
      · constructor
        · intro hk
          by_cases q : alk (L.w ^ l) n (Sk.abv (Sk.del S n) n) = some k
          · exact .inl q
          · refine .inr ⟨lp.mpr (.inr ⟨hk, fun z => q (alk_iff.mpr z)⟩), fun z => ?_⟩
            cases z
            exact nU (Sk.lv_mem.mp hk).1
        · rintro (h | ⟨h1, h2⟩)
          · obtain ⟨z1, z2⟩ := alk_iff.mp h
            exact Sk.lv_mem.mpr (Sk.alk_in hc hU nU st' z1 z2)
          · rcases lp.mp h1 with q | q
            · exact absurd (by rw [q]) h2
            · exact q.1
    · have st := of_decide_eq_false e
      have := Sk.lv_stay (pow_ok ok hl).1 hU nU (by rw [eS]; exact st)
      rw [eS] at this
      exact this.symm
theorem dd_plain {L : LS} {S S' : List Int} {xs : List (List V)} (d : Dd L S S' xs) : ∀ x ∈ xs, ∀ v ∈ x, plainV v = true := by
  rcases d with ⟨n, _, _, _, _, rfl⟩ | ⟨n, _, _, rfl⟩ <;>
  · intro x hx v hv
    obtain ⟨l, _, rfl⟩ := List.mem_map.mp hx
    simp only [List.mem_cons, List.not_mem_nil, or_false] at hv
    rcases hv with rfl | rfl | rfl
    all_goals first | rfl | exact plain_ov _
/-- the dicts of the levels, by hand -/
def LvD (H : Hp) (h : Nat) (ds : Nat → Addr) (T : Nat → List Int) : Prop := ∀ l, l ≤ h → ∃ rs, DR H (ds l) rs ∧ RowOf rs (T l)
theorem LvD.at {H H' : Hp} {h : Nat} {ds : Nat → Addr} {T : Nat → List Int} (x : LvD H h ds T) (e : ∀ l, l ≤ h → H' (ds l) = H (ds l)) : LvD H' h ds T := fun l hl => by
  obtain ⟨rs, h1, h2⟩ := x l hl
  exact ⟨rs, h1.at (e l hl), h2⟩
theorem LvD.same {H H' : Hp} {h : Nat} {ds : Nat → Addr} {T : Nat → List Int} (x : LvD H h ds T) (s : Same H H') : LvD H' h ds T := fun l hl => by
  obtain ⟨rs, h1, h2⟩ := x l hl
  exact ⟨rs, h1.same s, h2⟩
theorem LvD.to {H : Hp} {h : Nat} {ds : Nat → Addr} {T T' : Nat → List Int} (x : LvD H h ds T) (e : ∀ l, l ≤ h → T l = T' l) : LvD H h ds T' := fun l hl => by
  rw [← e l hl]
  exact x l hl
theorem LvD.put {H H' : Hp} {h l : Nat} {ds : Nat → Addr} {T : Nat → List Int} {rs U : List Int} (x : LvD H h ds T) (hl : l ≤ h) (inj : ∀ i j, i ≤ h → j ≤ h → ds i = ds j → i = j) (b : But (ds l) H H') (d : DR H' (ds l) rs) (ro : RowOf rs U) : LvD H' h ds fun j => if j = l then U else T j := fun j hj => by
  show ∃ rs, DR H' (ds j) rs ∧ RowOf rs (if j = l then U else T j)
  by_cases e : j = l
  · subst e
    rw [if_pos rfl]
    exact ⟨rs, d, ro⟩
  · rw [if_neg e]
    obtain ⟨rs, h1, h2⟩ := x j hj
    exact ⟨rs, h1.at (b _ fun q => e (inj j l hj hl q)), h2⟩
theorem LvD.dict {H : Hp} {h : Nat} {ds : Nat → Addr} {T : Nat → List Int} (x : LvD H h ds T) {l : Nat} (hl : l ≤ h) : ∃ kvs, H (ds l) = some (.dK kvs) := by
  obtain ⟨rs, ⟨kvs, h1, _⟩, _⟩ := x l hl
  exact ⟨kvs, h1⟩
/-- d.pop(k), k any expression's value -/
def dPopV (d : Addr) (y : V) (H2 : Hp) (Q : VK) : Prop := ∃ kvs k v, H2 d = some (.dK kvs) ∧ y = kV k ∧ valV kvs k = some v ∧ Q v (upd H2 d (.dK (dropK kvs k)))
theorem g_rdPop0 {H : Hp} {d : Addr} {rs : List Int} {σ : L2.St} {ty : TE} {Q : VK} (x : DR H d rs) (h : ty σ H fun y H2 => dPopV d y H2 Q) : dPop0 ty σ (.ref d) H Q := by
  obtain ⟨kvs, h1, _⟩ := x
  exact ⟨d, rfl, .inl ⟨kvs, .inl h1⟩, h⟩
theorem g_rdPopV {H : Hp} {d : Addr} {rs : List Int} {k : Int} {Q : VK} (x : DR H d rs) (nd : rs.Nodup) (hk : k ∈ rs) (h : ∀ v H', But d H H' → DR H' d (rs.filter fun z => decide (z ≠ k)) → Q v H') : dPopV d (.int k) H Q := by
  obtain ⟨kvs, h1, h2⟩ := x
  have e := keys_any h2 k
  rw [decide_eq_true hk] at e
  obtain ⟨v, hv⟩ := Option.isSome_iff_exists.mp e
  exact ⟨kvs, Sum.inl k, v, h1, rfl, hv, h v _ (fun b hb => upd_ne hb) ⟨_, upd_same, drop_keys h2 nd k⟩⟩
theorem g_eqO {H : Hp} {Q : VK} {i : Int} {o : Option Int} (h : Q (.bl (decide (o = some i))) H) : rEq (.int i) (ov o) H Q := ⟨by cases o <;> rfl, by
  rw [show decide (V.int i = ov o) = decide (o = some i) by
    rw [decide_eq_decide]
    cases o with
    | none => exact ⟨fun z => (nomatch z), fun z => (nomatch z)⟩
    | some j => exact ⟨fun z => by cases z; rfl, fun z => by cases z; rfl⟩]
  exact h⟩
/-- lists of tuples stay where a ladder changes -/
theorem TupL.keep {C p q : Addr} {L : LS} {le : Option Int} {many : Int} {T : Nat → List Int} {H H' : Hp} {xs : List (List V)} (t : TupL H q xs) (x : LadX C H p L le many T) (nq : ¬ L.own p q) (k : Keeps L p H H') : TupL H' q xs := by
  obtain ⟨as, h1, h2⟩ := t
  refine ⟨as, k _ _ h1 nq, Paired.mapP h2 fun a y e => k _ _ e fun z => ?_⟩
  rcases z with rfl | rfl | rfl | ⟨l, hl, rfl | rfl⟩
  · have := x.ob; rw [e] at this; cases this
  · have := x.nl; rw [e] at this; cases this
  · have := x.gl; rw [e] at this; cases this
  · obtain ⟨kvs, h, _⟩ := x.dn l hl; rw [e] at h; cases h
  · obtain ⟨kvs, h, _⟩ := x.dg l hl; rw [e] at h; cases h
theorem TupL.dict {d q : Addr} {kvs : List (Key × V)} {H H' : Hp} {xs : List (List V)} (t : TupL H q xs) (e : H d = some (.dK kvs)) (b : But d H H') : TupL H' q xs := by
  obtain ⟨as, h1, h2⟩ := t
  exact ⟨as, (b _ (ne_of h1 e (by intro z; cases z))).trans h1, Paired.mapP h2 fun a y ea => (b _ (ne_of ea e (by intro z; cases z))).trans ea⟩
/-- a list of tuples, all but one list having stayed -/
theorem TupL.lst {d q : Addr} {H H' : Hp} {zs : List V} {xs : List (List V)} (t : TupL H q xs) (e : H d = some (.lst zs)) (ne : q ≠ d) (b : ∀ c, c ≠ d → H' c = H c) : TupL H' q xs := by
  obtain ⟨as, h1, h2⟩ := t
  exact ⟨as, (b _ ne).trans h1, Paired.mapP h2 fun a y ea => (b _ (ne_of ea e (by intro z; cases z))).trans ea⟩
theorem tupl_copy {p : Addr} {H H' : Hp} {as : List Addr} {xs : List (List V)} (s : Same H H') (h2 : Paired (fun a x => H a = some (.tup x)) as xs) (e : H' p = some (.lst (as.map V.ref))) : TupL H' p xs := ⟨as, e, paired_same s h2⟩
end Lk

/-! ### a comprehension over a dict's keys; keys put in, whether there or not -/
namespace Lk
open PySem PySem.Spec PyProof.Rows L2
def addK (rs : List Int) (k : Int) : List Int := if k ∈ rs then rs else rs ++ [k]
theorem addK_mem {rs : List Int} {k x : Int} : x ∈ addK rs k ↔ x ∈ rs ∨ x = k := by
  unfold addK
  split
  · rename_i h
    exact ⟨.inl, fun z => z.elim id fun z => z ▸ h⟩
  · rw [List.mem_append, List.mem_singleton]
theorem addK_len {rs : List Int} {k : Int} : (addK rs k).length ≤ rs.length + 1 := by
  unfold addK
  split
  · omega
  · rw [List.length_append]; exact Nat.le_refl _
section
variable {K : PySem.W.Frag} {H H' H1 : Hp} {Q : VK} {d : Addr} {rs S : List Int} {k : Int} {v : V} {D : Ends} {σ : L2.St}
theorem g_rdPutA (x : DR H d rs) (hl : rs.length ≤ 900) (h : ∀ H', But d H H' → DR H' d (addK rs k) → D.nx σ H') : dPut D σ v (.ref d) (.int k) H := by
  by_cases hk : k ∈ rs
  · obtain ⟨kvs, h1, h2⟩ := x
    have len : kvs.length = rs.length := by simpa using congrArg List.length h2
    refine ⟨d, _, rfl, DPut.k (k := Sum.inl k) h1 (small1000 (by omega)), h _ (fun b hb => upd_ne hb) ⟨_, upd_same, ?_⟩⟩
    have e : (kvs.any fun kv => decide (kv.1 = (Sum.inl k : Key))) = true := by
      rw [valV_any, keys_any h2, decide_eq_true hk]
    unfold putK addK
    rw [if_pos e, if_pos hk, List.map_map, ← h2]
    refine List.map_congr_left fun q _ => ?_
    show (if q.1 = Sum.inl k then (q.1, v) else q).1 = q.1
    split <;> rfl
  · refine g_rdPut x hk hl fun H' b y => h H' b ?_
    unfold addK
    rw [if_neg hk]
    exact y
def dKeys (x : V) (H1 : Hp) (R : It → Hp → Prop) : Prop := ∃ d o, x = .ref d ∧ ((∃ kvs, H1 d = some (.frz o (.dK kvs)) ∧ R (Itk d o kvs) H1) ∨ ∃ kvs, H1 d = some (.frz o (.dT kvs)) ∧ R (Itkt d o kvs) H1)
theorem g_keys0 {td : TE} {R : It → Hp → Prop} (h : td σ H fun x H1 => dKeys x H1 R) : iKeys td σ H R := h
theorem g_keys {o : Obj} {kvs : List (Key × V)} {R : It → Hp → Prop} (e : H d = some (.frz o (.dK kvs))) (h : R (Itk d o kvs) H) : dKeys (.ref d) H R := ⟨d, o, rfl, .inl ⟨kvs, e, h⟩⟩
/-- [x for x in d if ..], d locked -/
theorem g_lcFK {o : Obj} {kvs : List (Key × V)} {p : Int → Bool} {j : Nat} {vs : List Nat} {σ : L2.St} {tt : TT} (hd0 : H1 d = some (.frz o (.dK kvs))) (hk : kvs.map Prod.fst = S.map Sum.inl) (hl : S.length ≤ 1000)
    (hw : ∀ x : V, wipe ((wipe σ vs).set j (some x)) vs = wipe σ vs) (hj : ∀ x : V, ((wipe σ vs).set j (some x))[j]? = some (some x))
    (ht : ∀ (x : Int) (H' : Hp) (R : Bool → Hp → Prop), x ∈ S → Same H1 H' → R (p x) H' → tt ((wipe σ vs).set j (some (.int x))) H' R)
    (hd : ∀ D H', H1 D = none → Same H1 H' → H' D = some (.lst ((S.filter p).map V.int)) → Q (.ref D) H') : dLc (gName j) tt (tVar j) vs σ (Itk d o kvs) H1 Q := fun D hD => by
  have len : kvs.length = S.length := by simpa using congrArg List.length hk
  refine lc_it walk_keys (fun i H' => Same H1 H' ∧ H' D = some (.lst (((S.take i).filter p).map V.int))) ⟨same_new hD, upd_same⟩ (fun i H' _ q => q.1 _ _ hd0) (fun i x H' H2 hi ⟨s3, e3⟩ ⟨eH, kk, v, hx, ex⟩ => ?_) fun H' ⟨s3, e3⟩ => ?_
  · subst eH
    have hz : ∃ z, S[i]? = some z ∧ x = .int z := by
      have h3 : (kvs.map Prod.fst)[i]? = some kk := by rw [List.getElem?_map, hx]; rfl
      rw [hk, List.getElem?_map] at h3
      obtain ⟨z, h4, h5⟩ := Option.map_eq_some_iff.mp h3
      subst h5
      exact ⟨z, h4, ex⟩
    obtain ⟨z, hz, rfl⟩ := hz
    have eo : (((S.take (i + 1)).filter p).map V.int) = ((S.take i).filter p).map V.int ++ (if p z = true then [V.int z] else []) := by
      rw [Sk.take_snoc hz, List.filter_append, List.map_append]
      by_cases q : p z = true
      · rw [if_pos q, List.filter_cons, if_pos q]; rfl
      · rw [if_neg q, List.filter_cons, if_neg q]; rfl
    refine g_name _ ⟨hw _, ht z H2 _ (List.mem_of_getElem? hz) s3 ?_⟩
    refine g_ite (fun e => ?_) (fun e => ?_)
    · rw [e, if_pos rfl] at eo
      refine g_var (hj _) ⟨_, e3, small1000 ?_, same_mut s3 hD, by rw [upd_same, eo]⟩
      rw [List.length_map]
      have := List.length_filter_le p (S.take i)
      have h2 : (S.take i).length ≤ S.length := by rw [List.length_take]; omega
      omega
    · rw [e, if_neg (by decide), List.append_nil] at eo
      exact ⟨s3, by rw [eo]; exact e3⟩
  · rw [len, List.take_length] at e3
    exact hd D H' hD s3 e3
theorem g_lock {t : TS} {u : HO} (e : H d = some u) (m : Mut (some u)) (h : ∀ od, t ⟨fun σ' H' => H' d = some (.frz od u) ∧ D.nx σ' (upd H' d u), fun v H' => H' d = some (.frz od u) ∧ D.rt v (upd H' d u), fun σ' H' => H' d = some (.frz od u) ∧ D.bk σ' (upd H' d u), fun σ' H' => H' d = some (.frz od u) ∧ D.ct σ' (upd H' d u)⟩ σ (upd H d (.frz od u))) : tLock t D σ H := ⟨d, u, e, m, h⟩
theorem g_sliceM {lo hi : Option Int} {a : Addr} {ns : List Int} (hs : SqL K H a (ns.map V.int)) (q : ∀ (p : Addr) (H' : Hp) (ms : List Int), H p = none → Same H H' → (∀ x ∈ ms, x ∈ ns) → ms.length ≤ ns.length → H' p = some (.lst (ms.map V.int)) → Q (.ref p) H') : rSlL K (.ref a) lo hi H Q :=
  ⟨a, _, rfl, hs, fun p hp => q p _ ((ns.drop (HT.sIx (ns.map V.int).length 0 lo)).take (HT.sIx (ns.map V.int).length (ns.map V.int).length hi - HT.sIx (ns.map V.int).length 0 lo)) hp (same_new hp) (fun x hx => List.mem_of_mem_drop (List.mem_of_mem_take hx)) (by rw [List.length_take, List.length_drop]; omega) (by
    rw [upd_same]
    unfold cutV
    rw [List.map_take, List.map_drop])⟩
end
end Lk

/-! ### slices of a list with a step: xs[lo::c] -/
namespace Lk
open PySem PySem.Spec PyProof.Rows L2
/-- the places that xs[lo::c] takes -/
def stIx (n : Nat) (lo : Option Int) (c : Int) : List Nat := sliceRange (sliceBounds lo none (some c) n).1 (sliceBounds lo none (some c) n).2.1 (sliceBounds lo none (some c) n).2.2
def stV {α : Type} (xs : List α) (lo : Option Int) (c : Int) : List α := (stIx xs.length lo c).filterMap fun j => xs[j]?
theorem picked {α β : Type} {F : α → β → Prop} {xs : List α} {us : List β} (r : Paired F xs us) : ∀ js : List Nat, Paired F (js.filterMap fun j => xs[j]?) (js.filterMap fun j => us[j]?)
  | [] => .nil
  | j :: js => by
    have ih := picked r js
    have hl := paired_len r
    rcases Nat.lt_or_ge j us.length with q | q
    · have e2 : us[j]? = some us[j] := List.getElem?_eq_getElem q
      obtain ⟨x, e1, f⟩ := paired_get r e2
      rw [List.filterMap_cons_some e1, List.filterMap_cons_some e2]
      exact .cons f ih
    · rw [List.filterMap_cons_none (List.getElem?_eq_none (by omega)), List.filterMap_cons_none (List.getElem?_eq_none q)]
      exact ih
/-- by values: the slice is a new list -/
def tStep (K : PySem.W.Frag) (c : Int) (te : TE) (tl : TO) : TE := fun σ H Q => te σ H fun x H1 => tl σ H1 fun lo H2 => ∃ a xs, x = .ref a ∧ SqL K H2 a xs ∧ ∀ p, H2 p = none → Q (.ref p) (upd H2 p (.lst (stV xs lo c)))
theorem k_step {X : Cx} {K : PySem.W.Frag} (eK : X.K = K) {e : Expr} {te : TE} {lo : Option Expr} {tl : TO} {c : Int} {kd : Nat} {p1 p3 pos : Pos} (hc : c ≠ 0) (he : PE X e te) (hl : PO X lo tl) :
    PE X (.Subscript e (.Slice lo none (some (.Constant (.int c) kd p1)) p3) pos) (tStep K c te tl) := by
  subst eK
  refine ⟨fun pn st σ H Q J hyp => ?_⟩
  refine Subscript_ (thn (he.run pn st σ H _ J hyp) fun w t1 ⟨x, Ha, Ja, rx, more⟩ => ?_)
  have cst : PO X (some (.Constant (.int c) kd p1)) (tPart (tC (.int c))) := po_some pe_int
  refine wpAny_Slice (thn (hl.run pn t1 σ Ha _ Ja more) fun vlo t2 ⟨l, Hb, Jb, plo, rest⟩ => ?_)
  obtain ⟨a, xs, ex, hx, nxt⟩ := rest
  subst ex
  cases rx
  refine thn (po_none.run pn t2 σ Hb (fun o G => o = none ∧ G = Hb) Jb ⟨rfl, rfl⟩) fun vhi t3 ⟨o1, Hc, Jc, phi, eo1, eH1⟩ => ?_
  subst eo1 eH1
  refine thn (cst.run pn t3 σ Hc (fun o G => o = some c ∧ G = Hc) Jc ⟨c, rfl, rfl, rfl⟩) fun vst t4 ⟨o2, Hd, Jd, pst, eo2, eH2⟩ => ?_
  subst eo2 eH2
  have Je : Inv X pn σ Hd { t4 with heap := t4.heap.push { cls := .type "slice", data := .fields #[vlo, vhi, vst] } } := Jd.kept (t' := t4.toks) fun _ _ z => Heap.get?_push_of_some _ z
  obtain ⟨items, rel, there, fits⟩ := Je.list hx
  have len := rel.length
  show wpAny (model X.prog X.w) X.A (subscriptTail e (.Slice lo none (some (.Constant (.int c) kd p1)) p3) (.ref a) (.ref t4.heap.objs.size)) (EP X pn σ Q) X.xe { t4 with heap := t4.heap.push { cls := .type "slice", data := .fields #[vlo, vhi, vst] } }
  refine tail_any (ops := [.ref a, .ref t4.heap.objs.size]) there.isList.typeIs PySem.slot_list_getitem.lookup ?_ (by with_unfolding_all rfl)
  refine wpAny_getItem_list_slice there.isList (Heap.IsSliceOf.new _ vlo vhi vst) plo phi pst (fun z => hc (Option.some.inj z)) ?_ (by rw [List.size_toArray]; omega)
  have pk : slicePick items.toArray l none (some c) = ((stIx xs.length l c).filterMap fun j => items[j]?).toArray := by
    unfold slicePick stIx
    rw [List.size_toArray, ← len]
    simp only [List.getElem?_toArray]
  have sz := slicePick_size_le items.toArray l none (some c)
  rw [pk, List.size_toArray, List.size_toArray] at sz
  have pr : Vals (stV xs l c) ((stIx xs.length l c).filterMap fun j => items[j]?) := picked rel _
  have pl := pr.length
  rw [pk]
  refine ⟨.ref _, _, Je.laid (t' := t4.toks) (o := .lst (stV xs l c)) (fun _ _ z => Heap.get?_push_of_some _ z) (Nat.le_refl _) ?_, rfl, nxt _ (Je.hok.fresh (Nat.le_refl _))⟩
  exact ⟨by omega, _, 0, pr, Heap.get?_push_size _ rfl⟩
def dStep (K : PySem.W.Frag) (c : Int) (x : V) (lo : Option Int) (H2 : Hp) (Q : VK) : Prop := ∃ a xs, x = .ref a ∧ SqL K H2 a xs ∧ ∀ p, H2 p = none → Q (.ref p) (upd H2 p (.lst (stV xs lo c)))
theorem g_step0 {K : PySem.W.Frag} {c : Int} {te : TE} {tl : TO} {σ : L2.St} {H : Hp} {Q : VK} (h : te σ H fun x H1 => tl σ H1 fun lo H2 => dStep K c x lo H2 Q) : tStep K c te tl σ H Q := h
theorem stV_map {ns : List Int} {lo : Option Int} {c : Int} : stV (ns.map V.int) lo c = (stV ns lo c).map V.int := by
  unfold stV
  rw [List.length_map, List.map_filterMap]
  refine congrArg (fun f => List.filterMap f _) (funext fun j => ?_)
  rw [List.getElem?_map]
theorem g_stepI {K : PySem.W.Frag} {c : Int} {H : Hp} {Q : VK} {a : Addr} {ns : List Int} {lo : Option Int} (hs : SqL K H a (ns.map V.int)) (q : ∀ p H', H p = none → Same H H' → H' p = some (.lst ((stV ns lo c).map V.int)) → Q (.ref p) H') :
    dStep K c (.ref a) lo H Q :=
  ⟨a, _, rfl, hs, fun p hp => q p _ hp (same_new hp) (by rw [upd_same, stV_map])⟩
/-- where the places begin -/
def stLo (n : Nat) (lo : Option Int) : Nat := match lo with
  | none => 0
  | some i => min i.toNat n
theorem stIx_eq {n : Nat} {lo : Option Int} {c : Int} (hc : 0 < c) (h0 : ∀ i, lo = some i → 0 ≤ i) : stIx n lo c = (List.range (if stLo n lo < n then ((n - stLo n lo : Nat) + c.toNat - 1) / c.toNat else 0)).map fun k => stLo n lo + c.toNat * k := by
  obtain ⟨d, rfl⟩ : ∃ d : Nat, c = (d : Int) := ⟨c.toNat, by omega⟩
  have hd : 0 < d := by omega
  have e1 : (sliceBounds lo none (some (d : Int)) n).1 = (stLo n lo : Int) := by
    unfold sliceBounds stLo
    simp only [Option.getD_some]
    rw [if_pos hc]
    cases lo with
    | none => rfl
    | some i =>
      have := h0 i rfl
      simp only
      rw [if_pos hc, if_neg (show ¬ i < 0 by omega)]
      omega
  have e2 : (sliceBounds lo none (some (d : Int)) n).2.1 = (n : Int) := by
    unfold sliceBounds
    simp only [Option.getD_some]
    rw [if_pos hc]
  have e3 : (sliceBounds lo none (some (d : Int)) n).2.2 = (d : Int) := rfl
  unfold stIx sliceRange
  rw [e1, e2, e3]
  simp only [if_pos hc, Int.toNat_natCast]
  have ec : (if (stLo n lo : Int) < (n : Int) then ((n : Int) - (stLo n lo : Int) + (d : Int) - 1) / (d : Int) else 0).toNat = if stLo n lo < n then ((n - stLo n lo : Nat) + d - 1) / d else 0 := by
    by_cases z : stLo n lo < n
    · rw [if_pos z, if_pos (by omega), show (n : Int) - (stLo n lo : Int) + (d : Int) - 1 = ((n - stLo n lo + d - 1 : Nat) : Int) by omega, ← Int.natCast_ediv, Int.toNat_natCast]
    · rw [if_neg z, if_neg (by omega)]
      rfl
  rw [ec]
  refine List.map_congr_left fun k _ => ?_
  rw [← Int.natCast_mul, ← Int.natCast_add, Int.toNat_natCast]
theorem stIx_srt {n : Nat} {lo : Option Int} {c : Int} (hc : 0 < c) (h0 : ∀ i, lo = some i → 0 ≤ i) : (stIx n lo c).Pairwise (· < ·) := by
  rw [stIx_eq hc h0, List.pairwise_map]
  refine List.pairwise_lt_range.imp fun {i j} h => ?_
  have : c.toNat * i < c.toNat * j := Nat.mul_lt_mul_of_pos_left h (by omega)
  omega
theorem stV_mem {α : Type} {xs : List α} {lo : Option Int} {c : Int} {x : α} (h : x ∈ stV xs lo c) : x ∈ xs := by
  obtain ⟨j, _, e⟩ := List.mem_filterMap.mp h
  exact List.mem_of_getElem? e
theorem stV_nodup {xs : List Int} {lo : Option Int} {c : Int} (hc : 0 < c) (h0 : ∀ i, lo = some i → 0 ≤ i) (nd : xs.Nodup) : (stV xs lo c).Nodup := by
  unfold stV
  refine List.Pairwise.filterMap _ (fun i j hij b eb b' eb' => ?_) (stIx_srt (n := xs.length) (lo := lo) hc h0)
  obtain ⟨h1, rfl⟩ := List.getElem?_eq_some_iff.mp eb
  obtain ⟨h2, rfl⟩ := List.getElem?_eq_some_iff.mp eb'
  exact List.pairwise_iff_getElem.mp (List.nodup_iff_pairwise_ne.mp nd) i j h1 h2 hij
theorem stV_srt {xs : List Int} {lo : Option Int} {c : Int} (hc : 0 < c) (h0 : ∀ i, lo = some i → 0 ≤ i) (hs : Sk.Srt xs) : Sk.Srt (stV xs lo c) := by
  unfold stV
  refine List.Pairwise.filterMap _ (fun i j hij b eb b' eb' => ?_) (stIx_srt (n := xs.length) (lo := lo) hc h0)
  exact Sk.get_lt hs eb eb' hij
/-- of every other one of a row, and of the others -/
theorem st2_mem {n j : Nat} : (j ∈ stIx n none 2 ↔ j < n ∧ j % 2 = 0) ∧ (j ∈ stIx n (some 1) 2 ↔ j < n ∧ j % 2 = 1) := by
  constructor
  · rw [stIx_eq (lo := none) (by decide) (fun i z => nomatch z), List.mem_map]
    show (∃ k, k ∈ List.range (if 0 < n then (n - 0 + 2 - 1) / 2 else 0) ∧ 0 + 2 * k = j) ↔ _
    constructor
    · rintro ⟨k, hk, rfl⟩
      have hk := List.mem_range.mp hk
      split at hk
      · constructor <;> omega
      · omega
    · rintro ⟨h1, h2⟩
      refine ⟨j / 2, List.mem_range.mpr ?_, by omega⟩
      rw [if_pos (by omega)]
      omega
  · rw [stIx_eq (lo := some 1) (by decide) (fun i z => by cases z; decide), List.mem_map]
    show (∃ k, k ∈ List.range (if min 1 n < n then (n - min 1 n + 2 - 1) / 2 else 0) ∧ min 1 n + 2 * k = j) ↔ _
    constructor
    · rintro ⟨k, hk, rfl⟩
      have hk := List.mem_range.mp hk
      split at hk
      · constructor <;> omega
      · omega
    · rintro ⟨h1, h2⟩
      refine ⟨j / 2, List.mem_range.mpr ?_, by omega⟩
      rw [if_pos (by omega)]
      omega
end Lk

/-! ### what stays where some of the heap changes -/
namespace Lk
open PySem PySem.Spec PyProof.Rows L2
open Classical in
/-- the heap but for Z -/
noncomputable def rst (Z : Addr → Prop) (H : Hp) : Hp := fun b => if Z b then none else H b
section
variable {Z Z' : Addr → Prop} {H H' H1 H2 : Hp} {b q r : Addr} {o : HO}
theorem rst_no (h : Z b) : rst Z H b = none := if_pos h
theorem rst_ne (h : ¬ Z b) : rst Z H b = H b := if_neg h
theorem rst_at (h : ¬ Z b) (e : H b = some o) : rst Z H b = some o := (rst_ne h).trans e
theorem rst_inv (e : rst Z H b = some o) : ¬ Z b ∧ H b = some o := by
  by_cases h : Z b
  · rw [rst_no h] at e; cases e
  · rw [rst_ne h] at e; exact ⟨h, e⟩
theorem rst_le : Same (rst Z H) H := fun b o e => (rst_inv e).2
theorem same_rst (h : ∀ b o, H b = some o → ¬ Z b → ¬ Z' b ∧ H' b = some o) : Same (rst Z H) (rst Z' H') := fun b o e => by
  obtain ⟨n, e⟩ := rst_inv e
  obtain ⟨n2, e2⟩ := h b o e n
  exact rst_at n2 e2
theorem rst_same (s : Same H H') : Same (rst Z H) (rst Z H') := same_rst fun b o e n => ⟨n, s b o e⟩
/-- what may change are no tuples -/
def Zok (Z : Addr → Prop) (H : Hp) : Prop := ∀ b, Z b → ∃ o, H b = some o ∧ ∀ xs, o ≠ .tup xs
theorem Zok.same (z : Zok Z H) (s : Same H H') : Zok Z H' := fun b hb => by
  obtain ⟨o, e, n⟩ := z b hb
  exact ⟨o, s b o e, n⟩
theorem Zok.new (z : Zok Z H) (e : H b = none) : ¬ Z b := fun hb => by
  obtain ⟨o, e2, _⟩ := z b hb
  rw [e] at e2; cases e2
theorem Zok.tup (z : Zok Z H) {xs : List V} (e : H b = some (.tup xs)) : ¬ Z b := fun hb => by
  obtain ⟨o, e2, n⟩ := z b hb
  rw [e] at e2; exact n xs (Option.some.inj e2).symm
theorem zok_or (z : Zok Z H) (z' : Zok Z' H) : Zok (fun b => Z b ∨ Z' b) H := fun b hb => hb.elim (z b) (z' b)
theorem zok_none : Zok (fun _ => False) H := fun _ h => h.elim
theorem zok_own {C p : Addr} {L : LS} {le : Option Int} {many : Int} {T : Nat → List Int} (x : LadX C H p L le many T) : Zok (L.own p) H := fun b hb => by
  rcases hb with rfl | rfl | rfl | ⟨l, hl, rfl | rfl⟩
  · exact ⟨_, x.ob, fun _ z => nomatch z⟩
  · exact ⟨_, x.nl, fun _ z => nomatch z⟩
  · exact ⟨_, x.gl, fun _ z => nomatch z⟩
  · obtain ⟨kvs, h, _⟩ := x.dn l hl; exact ⟨_, h, fun _ z => nomatch z⟩
  · obtain ⟨kvs, h, _⟩ := x.dg l hl; exact ⟨_, h, fun _ z => nomatch z⟩
theorem TupL.rst {xs : List (List V)} (t : TupL H q xs) (nq : ¬ Z q) (z : Zok Z H) : TupL (rst Z H) q xs := by
  obtain ⟨as, h1, h2⟩ := t
  exact ⟨as, rst_at nq h1, Paired.mapP h2 fun a x e => rst_at (z.tup e) e⟩
/-- a list that grows, what it holds lying beside it and beside Z -/
def Fnd (K : PySem.W.Frag) (Z : Addr → Prop) (q : Addr) (H : Hp) (ds : List PyData) : Prop := ∃ ys, H q = some (.lst ys) ∧ ys.length = ds.length ∧ DpAll K (Lk.rst (fun b => Z b ∨ b = q) H) ys ds
variable {K : PySem.W.Frag} {ds : List PyData} {d : PyData} {y : V} {Q : VK}
theorem Fnd.same (f : Fnd K Z q H ds) (s : Same H H') : Fnd K Z q H' ds := by
  obtain ⟨ys, e, l, h⟩ := f
  exact ⟨ys, s _ _ e, l, DpAll.mono (rst_same s) _ _ h⟩
theorem dpl_snoc : ∀ {ys : List V} {ds : List PyData}, DpAll K H ys ds → Dp K H y d → DpAll K H (ys ++ [y]) (ds ++ [d])
  | _, _, .nil, h => .cons h .nil
  | _, _, .cons a t, h => .cons a (dpl_snoc t h)
theorem Fnd.ty (f : Fnd K Z q H ds) : tyV K "list" (.ref q) H := by
  obtain ⟨ys, e, _⟩ := f
  exact ty_lst e
theorem g_appF (f : Fnd K Z q H ds) (h : Dp K (Lk.rst (fun b => Z b ∨ b = q) H) y d) (hl : ds.length ≤ 1000) (k : ∀ H', But' q H H' → Fnd K Z q H' (ds ++ [d]) → Q .non H') : rAppend (.ref q) [y] H Q := by
  obtain ⟨ys, e, l, hs⟩ := f
  refine g_app e (by omega) (k _ (fun b hb => upd_ne hb) ⟨ys ++ [y], upd_same, by rw [List.length_append, List.length_append, l]; rfl, ?_⟩)
  refine DpAll.mono (same_rst fun b o e n => ⟨n, ?_⟩) _ _ (dpl_snoc hs h)
  rw [upd_ne fun z => n (.inr z)]; exact e
theorem Fnd.dp (f : Fnd K Z q H ds) (n : ¬ Z q) : Dp K (Lk.rst Z H) (.ref q) (.list ds) := by
  obtain ⟨ys, e, l, hs⟩ := f
  exact .lst (.of (rst_at n e)) (DpAll.mono (same_rst fun b o e n => ⟨fun z => n (.inl z), e⟩) _ _ hs)
theorem g_sliceX {lo hi : Option Int} {a : Addr} {xs : List V} (hs : SqL K H a xs) (h : ∀ (p : Addr) (H' : Hp), H p = none → Same H H' → H' p = some (.lst (cutV xs lo hi)) → Q (.ref p) H') : rSlL K (.ref a) lo hi H Q :=
  ⟨a, _, rfl, hs, fun p hp => h p _ hp (same_new hp) upd_same⟩
theorem cut_from {S : List Int} {i : Nat} (h : i ≤ S.length) : cutV (S.map V.int) (some (i : Int)) none = (S.drop i).map V.int := by
  unfold cutV
  rw [HT.sIx_nat, HT.sIx_none, List.length_map, Nat.min_eq_left h, List.map_drop]
  exact List.take_of_length_le (by rw [List.length_drop, List.length_map]; omega)
theorem cut_to {S : List Int} {i : Nat} (h : i ≤ S.length) : cutV (S.map V.int) none (some (i : Int)) = (S.take i).map V.int := by
  unfold cutV
  rw [HT.sIx_nat, HT.sIx_none, List.length_map, Nat.min_eq_left h, List.drop_zero, List.map_take]
  rfl
theorem cut_1 {S : List Int} : cutV (S.map V.int) (some 1) none = (S.drop 1).map V.int := by
  cases S with
  | nil => rfl
  | cons a r => exact cut_from (i := 1) (by rw [List.length_cons]; omega)
theorem cut_t1 {S : List Int} : cutV (S.map V.int) none (some 1) = (S.take 1).map V.int := by
  cases S with
  | nil => rfl
  | cons a r => exact cut_to (i := 1) (by rw [List.length_cons]; omega)
/-- [f(x) for x in xs], f telling True -/
theorem g_lcTV {a : Addr} {xs : List V} {j : Nat} {vs : List Nat} {σ : L2.St} {te : TE} (hq : SqL K H1 a xs) (hl : xs.length ≤ 1000)
    (hw : ∀ x : V, wipe ((wipe σ vs).set j (some x)) vs = wipe σ vs)
    (ht : ∀ (i : Nat) (x : V) (H' : Hp) (R : VK), xs[i]? = some x → Same H1 H' → R (.bl true) H' → te ((wipe σ vs).set j (some x)) H' R)
    (hd : ∀ D H', H1 D = none → Same H1 H' → H' D = some (.lst ((List.replicate xs.length true).map V.bl)) → Q (.ref D) H') : dLc (gName j) tYes te vs σ (Itl K a) H1 Q := by
  refine g_lcL hq (fun i => (List.replicate i true).map V.bl) rfl (fun D i x H' hD hi s3 e3 => ?_) (fun D H' hD s3 e3 => ?_)
  · have : i < xs.length := (List.getElem?_eq_some_iff.mp hi).1
    refine g_name _ ⟨hw _, g_yes ?_⟩
    rw [if_pos rfl]
    refine ht i x H' _ hi s3 (g_add1 hD s3 e3 (by rw [List.length_map, List.length_replicate]; omega) ?_)
    rw [List.replicate_succ', List.map_append]
    rfl
  · exact hd D H' hD s3 e3
theorem k_iT {X : Cx} {K : PySem.W.Frag} (e : X.K = K) {tg l : Expr} {tl : TE} (hl : PE X l tl) : PI X tg l (iTup K tl) := e ▸ pi_tup hl
def dTup (K : PySem.W.Frag) (x : V) (H1 : Hp) (R : It → Hp → Prop) : Prop := ∃ a, x = .ref a ∧ (∃ xs, SqT K H1 a xs) ∧ R (Itt K a) H1
theorem g_iT0 {tl : TE} {σ : L2.St} {R : It → Hp → Prop} (h : tl σ H fun x H1 => dTup K x H1 R) : iTup K tl σ H R := h
theorem g_iT {R : It → Hp → Prop} {a : Addr} {xs : List V} (hs : SqT K H a xs) (h : R (Itt K a) H) : dTup K (.ref a) H R := ⟨a, rfl, ⟨_, hs⟩, h⟩
def dPart (x : V) (H1 : Hp) (R : Option Int → Hp → Prop) : Prop := ∃ i, x = .int i ∧ R (some i) H1
theorem g_part0 {t : TE} {σ : L2.St} {R : Option Int → Hp → Prop} (h : t σ H fun x H1 => dPart x H1 R) : tPart t σ H R := h
theorem g_partV {i : Int} {R : Option Int → Hp → Prop} (h : R (some i) H) : dPart (.int i) H R := ⟨i, rfl, h⟩
/-- [x for x in t if ..], t a tuple -/
theorem g_lcFT {a : Addr} {S : List Int} {p : Int → Bool} {j : Nat} {vs : List Nat} {σ : L2.St} {tt : TT} (hq : SqT K H1 a (S.map V.int)) (hl : S.length ≤ 1000)
    (hw : ∀ x : V, wipe ((wipe σ vs).set j (some x)) vs = wipe σ vs) (hj : ∀ x : V, ((wipe σ vs).set j (some x))[j]? = some (some x))
    (ht : ∀ (x : Int) (H' : Hp) (R : Bool → Hp → Prop), x ∈ S → Same H1 H' → R (p x) H' → tt ((wipe σ vs).set j (some (.int x))) H' R)
    (hd : ∀ D H', H1 D = none → Same H1 H' → H' D = some (.lst ((S.filter p).map V.int)) → Q (.ref D) H') : dLc (gName j) tt (tVar j) vs σ (Itt K a) H1 Q := fun D hD => by
  refine lc_it (walk_tup (xs := S.map V.int)) (fun i H' => Same H1 H' ∧ H' D = some (.lst (((S.take i).filter p).map V.int))) ⟨same_new hD, upd_same⟩ (fun i H' _ q => Same.tup q.1 hq) (fun i x H' H2 hi ⟨s3, e3⟩ ⟨eH, hx⟩ => ?_) fun H' ⟨s3, e3⟩ => ?_
  · subst eH
    obtain ⟨z, hz, rfl⟩ := map_get hx
    have eo : (((S.take (i + 1)).filter p).map V.int) = ((S.take i).filter p).map V.int ++ (if p z = true then [V.int z] else []) := by
      rw [Sk.take_snoc hz, List.filter_append, List.map_append]
      by_cases q : p z = true
      · rw [if_pos q, List.filter_cons, if_pos q]; rfl
      · rw [if_neg q, List.filter_cons, if_neg q]; rfl
    refine g_name _ ⟨hw _, ht z H2 _ (List.mem_of_getElem? hz) s3 ?_⟩
    refine g_ite (fun e => ?_) (fun e => ?_)
    · rw [e, if_pos rfl] at eo
      refine g_var (hj _) ⟨_, e3, small1000 ?_, same_mut s3 hD, by rw [upd_same, eo]⟩
      rw [List.length_map]
      have := List.length_filter_le p (S.take i)
      have h2 : (S.take i).length ≤ S.length := by rw [List.length_take]; omega
      omega
    · rw [e, if_neg (by decide), List.append_nil] at eo
      exact ⟨s3, by rw [eo]; exact e3⟩
  · rw [List.length_map, List.take_length] at e3
    exact hd D H' hD s3 e3
end
end Lk

/-! ### several except clauses, each with a name for what it caught -/
namespace Lk
open PySem PySem.Spec PyProof.Rows L2
abbrev Suite := Addr → Value → Option Addr → TS
/-- behind a suite its name is gone -/
abbrev gone (i : Nat) (D : Ends) : Ends := { nx := fun σ' H' => D.nx (σ'.set i none) H', rt := D.rt, bk := fun σ' H' => D.bk (σ'.set i none) H', ct := fun σ' H' => D.ct (σ'.set i none) H' }
def wManyA (K : PySem.W.Frag) (i : Nat) (W0 : WX) (D : Ends) : List (Value × Suite) → WX
  | [] => W0
  | (c, ts) :: more => fun cls d σ H => ∃ b, PySem.W.exmOne K cls c = some b ∧ (b = true → ∀ a, H a = none → ts a cls d (gone i D) (σ.set i (some (.ref a))) H) ∧ (b = false → wManyA K i W0 D more cls d σ H)
inductive HdsA (X : Cx) (n : Str) : List ExceptHandler → List (Value × Suite) → Prop
  | nil : HdsA X n [] []
  | cons {x : Str} {c : Value} {ts : Suite} {b0 : Stmt} {bs : List Stmt} {q1 q2 : Pos} {hs : List ExceptHandler} {l : List (Value × Suite)} (nm : Names X x c)
      (su : ∀ (a : Addr) (ob : Obj) (cls : Value) (d : Option Addr) (pn : List (Addr × Obj)), Zc cls d ob → (∃ vs, ob.data = .fields vs) → PSs (X.suite a ((a, ob) :: pn)) (b0 :: bs) (ts a cls d)) (rest : HdsA X n hs l) :
      HdsA X n (.ExceptHandler (some (.Name x q1)) (some n) (b0 :: bs) q2 :: hs) ((c, ts) :: l)
section
variable {X : Cx} {n : Str} {i : Nat} {body : List Stmt} {hd : ExceptHandler} {hs : List ExceptHandler} {l : List (Value × Suite)} {pos : Pos} {tb : WX → TS} {W0 : WX}
theorem ps_try_manyA (stk : X.stack = X.env :: X.outer) (frm : X.env.frame = some X.env.locals) (nd : X.N.Nodup) (at_ : X.N[i]? = some n) (knd : X.env.kindOf n = some .local) (takes : Takes X W0)
    (bd : ∀ (W : WX) (pn : List (Addr × Obj)) (xe : Value → Shared → Prop), Takes (X.tr pn xe) W → PassesOwn (model X.prog X.w) X.A X.env xe → PSs (X.tr pn xe) body (tb W))
    (hh : HdsA X n (hd :: hs) l) : PS X (.Try body (hd :: hs) [] [] pos) (fun D σ H => tb (wManyA X.K i W0 D l) D σ H) := by
  refine ⟨fun pq st σ H D Iv hyp => ?_⟩
  have good := Iv.ok
  have frames : X.A.frames = some (X.env :: X.outer) := by rw [good.frames, stk]
  have own : Loc X.env.scope n := .inl knd
  refine wpAny_Try_except ?_
  refine wpAny_mono ((bd (wManyA X.K i W0 D l) (X.pn ++ pq)
    (fun ex t1 => wpAny (model X.prog X.w) X.A (noteFrame ex X.env) (fun _ t2 => wpAny (model X.prog X.w) X.A (setFlight ex none)
      (fun _ t3 => wpAny (model X.prog X.w) X.A (handleBy ex X.env (hd :: hs)) (SP X pq D) X.xe t3) X.xe t2) X.xe t1)
    (fun u t caught => ?_) PassesOwn.looking).run [] st σ H D (Iv.toTry _) hyp) (fun fl t1 ended => ?_) (fun ex t1 z => z)
  · obtain ⟨a, B, t0, pq0, σx, Hx, cls, d, rfl, Jx, fresh, grown, sky0, free, older, aged, wish⟩ := caught
    have Jy : Inv X pq σx Hx t0 := Jx.ofTry good
    have sky1 : Sky B (X.env :: X.outer) a (Zc cls d) X.env.locals t.heap := by rw [← stk]; exact sky0
    show wpAny (model X.prog X.w) X.A (noteFrame (.ref a) X.env) _ _ _
    refine Sky.land Zc.steady frames frm sky1 fun hp fall up => ?_
    have Jz : Inv X pq σx Hx { t with heap := hp } := Jy.landed fresh fall.1 (grown.trans up) older aged
    obtain ⟨ob, vs, there, zc, data⟩ := fall.there
    have out : a ∉ frs (X.env :: X.outer) := fun inside => by
      obtain ⟨_, ob2, e2, none_⟩ := fall.2.2.1.mem inside
      rw [there] at e2; cases e2
      exact none_ _ data
    have ne1 : a ≠ X.env.locals := fun z => out (List.mem_filterMap.mpr ⟨X.env, List.mem_cons_self, by rw [frm, z]⟩)
    have ne2 : a ∉ X.fs := fun inside => by
      obtain ⟨e, he, q⟩ := List.mem_filterMap.mp inside
      exact out (List.mem_filterMap.mpr ⟨e, List.mem_cons_of_mem _ he, q⟩)
    have Sz := Jz.suite there data free ne1 ne2
    have each : ∀ {hs2 : List ExceptHandler} {l2 : List (Value × Suite)}, HdsA X n hs2 l2 → wManyA X.K i W0 D l2 cls d σx Hx →
        wpAny (model X.prog X.w) X.A (handleBy (.ref a) X.env hs2) (SP X pq D) X.xe { t with heap := hp } := by
      intro hs2 l2 k
      induction k with
      | nil =>
        intro wish2
        refine wpAny_handleBy_nil ?_
        obtain ⟨_, _, _, ob2, vs2, Ty, oT, us, e2, z2, d2, f1, _⟩ := id fall
        unfold PySem.passOn
        refine wpAny_bind (wpAny_field e2 d2 f1 ?_)
        rw [if_neg (show ¬ ((Value.ref Ty == Value.none) = true) from by simp)]
        have on : wpAny (model X.prog X.w) X.A (setFlight (.ref a) X.env.frame) (fun _ t4 => wpAny (model X.prog X.w) X.A (throw (.ref a) : Sem Flow) (SP X pq D) X.xe t4) X.xe { t with heap := hp } := by
          rw [frm]
          refine HandSPX.setFlight_upZ fall fun hp4 sky4 up4 => wpAny_throw (takes _ _ ?_)
          exact ⟨a, B, t0, pq, σx, Hx, cls, d, rfl, Jy, fresh, (grown.trans up).trans up4, .inr (.inr (by rw [stk]; exact sky4)), free, older, aged, wish2⟩
        first
          | exact wpAny_bind (wpAny_pure (wpAny_bind on))
          | exact wpAny_bind on
      | @cons x c ts b0 bs q1 q2 hs3 l3 nm su rest ih =>
        rintro ⟨b, tells, yes, no⟩
        refine wpAny_handleBy_cons (codeAny_handlers_test ?_) (by intro z; cases z)
        have looks : PySem.W.Looks (model X.prog X.w) hp (typeOf (.ref a)) cls := fun _ _ _ _ k2 q => wpAny_typeOf_ref (k2 _ _ there) (by rw [zc.1]; exact q)
        have match_ := PySem.W.exm_one (M := model X.prog X.w) (Jz.kIn) looks tells
        have name : ∀ {Q E : Value → Shared → Prop}, Q c { t with heap := hp } → wpAny (model X.prog X.w) (X.A.mark (some (.ref a))) (eval (.Name x q1) X.env) Q E { t with heap := hp } := fun {Q E} q => by
          obtain ⟨g1, g2, g3 | ⟨g3, g4, g5⟩⟩ := nm
          · exact ld_glob (X := X.suite a ((a, ob) :: (X.pn ++ pq))) Sz g1 g3 q g2
          · exact ld_blt (X := X.suite a ((a, ob) :: (X.pn ++ pq))) Sz g1 g3 g4 q g5 g2
        refine name (match_.here ?_)
        cases b with
        | false => exact ih (no rfl)
        | true =>
          refine (codeAny_handlers_suite_as ?_)
          refine HandSPX.lands_againZ fall fun hp4 fall4 up4 => ?_
          have Jw : Inv X pq σx Hx { t with heap := hp4 } := Jy.landed fresh fall4.1 ((grown.trans up).trans up4) older aged
          obtain ⟨ob4, vs4, there4, zc4, data4⟩ := fall4.there
          have Sw := Jw.suite there4 data4 free ne1 ne2
          refine store_ok (X := X.suite a ((a, ob4) :: (X.pn ++ pq))) (v := .ref a) Sw nd at_ own rfl (fun t5 S5 => ?_) (.inr knd)
          refine wpAny_mono ((su a ob4 cls d (X.pn ++ pq) zc4 ⟨_, data4⟩).run [] t5 _ Hx _ S5 (yes rfl a free)) (fun fl t6 ended => ?_) (fun _ _ z => z.elim)
          have close : ∀ {σ6 : L2.St} {H6 : Hp} {G : Shared → Prop}, Inv (X.suite a ((a, ob4) :: (X.pn ++ pq))) [] σ6 H6 t6 → (∀ t7, Inv X pq (σ6.set i none) H6 t7 → G t7) →
              wpAny (model X.prog X.w) X.A (do bindName X.env n .none; unbindBehindTheSuite X.env n q2) (fun _ t7 => G t7) X.xe t6 := fun {_ _ _} S6 g => gone_ok (S6.unsuite good) nd at_ knd g
          cases fl with
          | next => obtain ⟨_, _, S6, q6⟩ := ended; exact close S6 fun t7 J7 => ⟨_, _, J7, q6⟩
          | brk => obtain ⟨_, _, S6, q6⟩ := ended; exact close S6 fun t7 J7 => ⟨_, _, J7, q6⟩
          | cont => obtain ⟨_, _, S6, q6⟩ := ended; exact close S6 fun t7 J7 => ⟨_, _, J7, q6⟩
          | ret u => obtain ⟨_, _, _, S6, r6, q6⟩ := ended; exact close S6 fun t7 J7 => ⟨_, _, _, J7, r6, q6⟩
    exact each hh wish
  · cases fl with
    | next => obtain ⟨_, _, Jx, q⟩ := ended; exact wpAny_execs_nil ⟨_, _, Jx.ofTry good, q⟩
    | brk => obtain ⟨_, _, Jx, q⟩ := ended; exact ⟨_, _, Jx.ofTry good, q⟩
    | cont => obtain ⟨_, _, Jx, q⟩ := ended; exact ⟨_, _, Jx.ofTry good, q⟩
    | ret u => obtain ⟨_, _, _, Jx, rv, q⟩ := ended; exact ⟨_, _, _, Jx.ofTry good, rv, q⟩
end
section
variable {K : PySem.W.Frag} {σ : L2.St} {H : Hp} {D : Ends} {c cls : Value} {d : Option Addr} {ts : Suite} {W0 : WX} {r : List (Value × Suite)} {i : Nat}
theorem w_hitA (e : PySem.W.exmOne K cls c = some true) (h : ∀ a, H a = none → ts a cls d (gone i D) (σ.set i (some (.ref a))) H) : wManyA K i W0 D ((c, ts) :: r) cls d σ H := ⟨true, e, fun _ => h, fun q => nomatch q⟩
theorem w_missA (e : PySem.W.exmOne K cls c = some false) (h : wManyA K i W0 D r cls d σ H) : wManyA K i W0 D ((c, ts) :: r) cls d σ H := ⟨false, e, fun q => (nomatch q), fun _ => h⟩
end
end Lk

namespace Lk
open PySem PySem.Spec PyProof.Rows L2
section
variable {P : Program} {w : World} {K : PySem.W.Frag} {mg : Str → Option Value} {base : Heap} {A : Ads}
def sp__law_deed (C : Addr) : Sp := fun vs H Q _ => ∃ (p d : Addr) (c : Int) (L : LS) (rs S : List Int), vs = [.ref p, .ref d, .int c, .int (L.w ^ L.h)] ∧ Lad C H p L S ∧ DR H d rs ∧ RowOf rs S ∧ S.length ≤ 99 ∧ ¬ L.own p d ∧
  ∀ H' S' rs', (∀ b o, H b = some o → ¬ L.own p b → b ≠ d → H' b = some o) → Lad C H' p L S' → DR H' d rs' → RowOf rs' S' → S'.length ≤ S.length + 1 → Q .non H'
theorem ok__law_deed (T : Txt K mg A) : FO P w K mg base 6 A._law_deed ["_law_ladder", "_law_row", "_law_cell", "_law_limit"] (sp__law_deed A.Ladder) := by
  obtain ⟨fd__law_number, G__law_number, B__law_number⟩ := ok__law_number (P := P) (w := w) (base := base) T
  obtain ⟨fd_take, G_take, B_take⟩ := ok_take (P := P) (w := w) (base := base) T
  obtain ⟨fd_put, G_put, B_put⟩ := ok_put (P := P) (w := w) (base := base) T
  have S := sc__law_deed
  refine FO.mk' T.f__law_deed S b__law_deed (fun vs H Q E h => by obtain ⟨_, _, _, _, _, _, rfl, _⟩ := h; rfl) (fun cdv Ar outer s H vs Q E hr h => ?_)
  have hu := hu_of hr
  obtain ⟨p, d, c, L, rs, S0, rfl, Ld, dr, ro, hl, nod, k⟩ := h
  have X := Ld.toLadX
  have lim := pow_ok Ld.ok (Nat.le_refl L.h)
  have rl := ro.len
  refine ⟨_, (pss_cons (ps_set (i := 4) S.nd rfl (Or.inl rfl) (pe_call G__law_number (hr.mono (by decide)) rfl T.g__law_number T.k__law_number B__law_number .nil passL (pa_cons (pe_op o_div (pv 2) pe_int) (pa_cons (pv 3) pa_nil))))
  (pss_consC (ps_if (PW.pt (pw_and (pt_cmpR op_eq (pe_op o_mod (pv 2) pe_int) pe_int (nomark _)) (pw_and1 (pt_cmpR o_gt (pe_callB c_lenD (by rfl) T.z_len PySem.boot_len (pa_cons (pv 1) pa_nil)) pe_int (nomark _)))))
    (pss_one (ps_set (i := 4) S.nd rfl (Or.inl rfl) (pe_ix (k_ixL (K := K) rfl) (pe_callTy (call_list_dK rfl) (by rfl) T.z_list PyProof.Rows.boot_list (pa_cons (pv 1) pa_nil)) (pe_op o_mod (pe_op o_div (pv 2) pe_int) (pe_callB c_lenD (by rfl) T.z_len PySem.boot_len (pa_cons (pv 1) pa_nil))) (fun _ _ => rfl))))
    pss_nil)
  (pss_one (ps_if (pt_cmp (pc_din hu (pv 4) (pv 1)))
    (pss_cons (ps_expr (pe_dpop1 (pv 1) (pv 4) ⟨rfl, rfl, rfl, rfl⟩))
    (pss_one (ps_expr (pe_meth (pv 0) T.lt.cl T.m_take G_take (hr.mono (by decide)) B_take .nil (passes_call (takes_of rfl rfl rfl rfl) (fun _ _ _ _ z => z)) (pa_cons (pv 4) pa_nil)))))
    (pss_cons (ps_dput hu (pv 1) (pv 4) pe_bl rfl)
    (pss_one (ps_expr (pe_meth (pv 0) T.lt.cl T.m_put G_put (hr.mono (by decide)) B_put .nil (passes_call (takes_of rfl rfl rfl rfl) (fun _ _ _ _ z => z)) (pa_cons (pv 4) pa_nil))))))))), ?_⟩
  walk_at "gb"
  refine ⟨_, _, rfl, lim.1, Int.le_trans lim.2 (by decide), fun z z0 z1 => ?_⟩
  walk_at "gb"
  refine g_cut (fun σ' H1 => Same H H1 ∧ ∃ n : Int, 0 ≤ n ∧ n < L.w ^ L.h ∧ σ' = [some (.ref p), some (.ref d), some (.int c), some (.int (L.w ^ L.h)), some (.int n)]) (fun N hN => ?_) ?_
  · walk_at "gb"
    refine g_ite (fun _ => ?_) (fun _ => ?_)
    · walk_at "gb"
      refine g_rdLen dr ?_
      walk_at "gb"
      refine g_ite (fun e => ?_) (fun _ => ?_)
      · have hpos := of_decide_eq_true e
        walk_at "gb"
        refine g_rdList dr (by omega) fun q H1 nq s1 e1 => ?_
        walk_at "gb"
        refine g_rdLen (dr.same s1) ?_
        walk_at "gb"
        generalize ei : c / 3 % (rs.length : Int) = ix
        have i1 : 0 ≤ ix := by rw [← ei]; exact Int.emod_nonneg _ (by omega)
        have i2 : ix < rs.length := by rw [← ei]; exact Int.emod_lt_of_pos _ (by omega)
        obtain ⟨j, rfl⟩ : ∃ j : Nat, ix = (j : Int) := ⟨ix.toNat, by omega⟩
        have hj : j < rs.length := by omega
        refine g_ixL (.of e1) (atI_nat (get_map (List.getElem?_eq_getElem hj))) ?_
        walk_at "gb"
        have hm := (ro.mem _).mp (List.getElem_mem hj)
        exact hN _ _ ⟨s1, _, Ld.lo _ hm, Ld.hi _ hm, rfl⟩
      · walk_at "gb"
        exact hN _ _ ⟨fun _ _ e => e, _, z0, z1, rfl⟩
    · walk_at "gb"
      exact hN _ _ ⟨fun _ _ e => e, _, z0, z1, rfl⟩
  rintro σ' H1 ⟨s1, n, n0, n1, rfl⟩
  have dr1 := dr.same s1
  have Ld1 := Ld.same s1
  have mem := ro.mem n
  walk_at "gb"
  refine g_rdIn dr1 ?_
  walk_at "gb"
  refine g_ite (fun e => ?_) (fun e => ?_)
  · have hr := of_decide_eq_true e
    have hn := mem.mp hr
    walk_at "gb"
    refine g_rdPop dr1 ro.nd hr rfl fun v H2 b2 dr2 => ?_
    have Ld2 : Lad A.Ladder H2 p L S0 := Ld1.at fun x hx => b2 x fun q => nod (q ▸ hx)
    have X2 := Ld2.toLadX
    walk_at "gb"
    refine ⟨p, n, L, S0, rfl, Ld2, fun _ _ _ t H3 kp3 nt tq Ld3 => ?_, fun z => absurd ⟨n0, n1⟩ z, fun _ _ z => absurd hn z⟩
    walk_at "gb"
    exact k H3 _ _ (fun b o eb nb bd => kp3 b o ((b2 b bd).trans (s1 _ _ eb)) nb) Ld3 (dr2.keep kp3 nod) (ro.del n) (by have := Sk.len_del Ld.srt hn; omega)
  · have hr := of_decide_eq_false e
    have hn : n ∉ S0 := fun q => hr (mem.mpr q)
    walk_at "gb"
    refine g_rdPut dr1 hr (by omega) fun H2 b2 dr2 => ?_
    have Ld2 : Lad A.Ladder H2 p L S0 := Ld1.at fun x hx => b2 x fun q => nod (q ▸ hx)
    have X2 := Ld2.toLadX
    walk_at "gb"
    refine ⟨p, n, L, S0, rfl, Ld2, fun _ _ _ => ⟨hl, fun t H3 kp3 nt tq Ld3 => ?_⟩, fun z => absurd ⟨n0, n1⟩ z, fun _ _ z => absurd z hn⟩
    walk_at "gb"
    exact k H3 _ _ (fun b o eb nb bd => kp3 b o ((b2 b bd).trans (s1 _ _ eb)) nb) Ld3 (dr2.keep kp3 nod) (ro.snoc hr) (by rw [Sk.len_ins Ld.srt hn]; omega)
end
end Lk

/-! ### all that a ladder tells -/
namespace Lk
open PySem PySem.Spec PyProof.Rows L2
def lvD (w : Int) (S : List Int) (l : Nat) : PyData := .list ((Sk.lv (w ^ l) S).map .int)
def ahV (w : Int) (S : List Int) (l : Nat) (k : Int) : List V := [ov (Sk.nx (w ^ l) S k), .int (Sk.gp (w ^ l) S k : Int)]
def ahD (w : Int) (S : List Int) (l : Nat) : PyData := .list ((Sk.lv (w ^ l) S).map fun k => .tuple ((ahV w S l k).map vD))
def lvsD (w : Int) (h : Nat) (S : List Int) (s0 : Int) : Nat → List PyData
  | 0 => []
  | l + 1 => lvsD w h S s0 l ++ (lvD w S l :: if (l : Int) = s0 % ((h : Int) + 1) then [ahD w S l] else [])
def trD (w : Int) (h : Nat) (S : List Int) (n : Int) : PyData := .list (((Sk.trail w h S n).map sV).map fun x => .tuple (x.map vD))
def askV (S : List Int) (n : Int) : List V := [.bl (decide (n ∈ S)), ov (Sk.bel S (n + 1)), ov (Sk.abv S (n - 1)), .int (Sk.rk S n : Nat)]
def askD (w : Int) (h : Nat) (S : List Int) (n : Int) : List PyData := [.list ((askV S n).map vD), trD w h S n]
def sumD (S : List Int) (s1 s2 : Int) : PyData := .list [.list (S.map .int), .list ((Sk.mid S s1 s2).map .int), .int ((Sk.mid S s2 s1).length : Nat)]
def endD (w : Int) (h : Nat) (S : List Int) (s0 : Int) : List PyData := if 0 < S.length then
  [.list [.int (S.getD (s0 % (S.length : Int)).toNat 0), trD w h S (S.getD (s0 % (S.length : Int)).toNat 0)], .list [.int (S.getD 0 0), .int (S.getD (S.length - 1) 0)]] else []
def toldD (w : Int) (h : Nat) (S : List Int) (s0 s1 s2 : Int) : List PyData :=
  ((([.int w, .int (h : Int), .int (w ^ h), .int (S.length : Int)] ++ lvsD w h S s0 (h + 1)) ++ (askD w h S s1 ++ askD w h S s2)) ++ [sumD S s1 s2]) ++ endD w h S s0
theorem sh_vs {k : Nat} (xs : List V) : Sh (k + 1) (.list (xs.map vD)) := sh_lst (k := k) fun d hd => by
  obtain ⟨v, _, rfl⟩ := List.mem_map.mp hd
  exact sh_v v
theorem Sh.up {k m : Nat} {d : PyData} (s : Sh k d) (h : k ≤ m) : Sh m d := ⟨s.lay, Nat.le_trans s.dep h⟩
theorem sh_tr {w : Int} {h : Nat} {S : List Int} {n : Int} {k : Nat} : Sh (k + 2) (trD w h S n) := sh_tups _
theorem lvs_sh {w : Int} {h : Nat} {S : List Int} {s0 : Int} : ∀ i, ∀ d ∈ lvsD w h S s0 i, Sh 3 d
  | 0, d, hd => nomatch hd
  | i + 1, d, hd => by
    rcases List.mem_append.mp hd with hd | hd
    · exact lvs_sh i d hd
    · rcases List.mem_cons.mp hd with rfl | hd
      · exact sh_ints (k := 2) _
      · split at hd
        · rw [List.mem_singleton] at hd
          subst hd
          exact sh_lst (k := 2) fun d hd => by
            obtain ⟨k, _, rfl⟩ := List.mem_map.mp hd
            exact sh_tup (k := 1) fun d hd => by
              obtain ⟨v, _, rfl⟩ := List.mem_map.mp hd
              exact sh_v v
        · cases hd
theorem told_sh {w : Int} {h : Nat} {S : List Int} {s0 s1 s2 : Int} : Sh 4 (.list (toldD w h S s0 s1 s2)) := sh_lst (k := 3) fun d hd => by
  have ask : ∀ n, ∀ d ∈ askD w h S n, Sh 3 d := fun n d hd => by
    rcases List.mem_cons.mp hd with rfl | hd
    · exact sh_vs (k := 2) _
    · rw [List.mem_singleton] at hd; subst hd; exact sh_tr (k := 1)
  rcases List.mem_append.mp hd with hd | hd
  · rcases List.mem_append.mp hd with hd | hd
    · rcases List.mem_append.mp hd with hd | hd
      · rcases List.mem_append.mp hd with hd | hd
        · simp only [List.mem_cons, List.not_mem_nil, or_false] at hd
          rcases hd with rfl | rfl | rfl | rfl <;> exact sh_int _
        · exact lvs_sh _ d hd
      · rcases List.mem_append.mp hd with hd | hd <;> exact ask _ d hd
    · rw [List.mem_singleton] at hd
      subst hd
      exact sh_lst (k := 2) fun d hd => by
        simp only [List.mem_cons, List.not_mem_nil, or_false] at hd
        rcases hd with rfl | rfl | rfl
        · exact sh_ints (k := 1) _
        · exact sh_ints (k := 1) _
        · exact sh_int _
  · unfold endD at hd
    split at hd
    · simp only [List.mem_cons, List.not_mem_nil, or_false] at hd
      rcases hd with rfl | rfl
      · exact sh_lst (k := 2) fun d hd => by
          simp only [List.mem_cons, List.not_mem_nil, or_false] at hd
          rcases hd with rfl | rfl
          · exact sh_int _
          · exact sh_tr (k := 0)
      · exact sh_lst (k := 2) fun d hd => by
          simp only [List.mem_cons, List.not_mem_nil, or_false] at hd
          rcases hd with rfl | rfl <;> exact sh_int _
    · cases hd
theorem lvs_len {w : Int} {h : Nat} {S : List Int} {s0 : Int} : ∀ i, (lvsD w h S s0 i).length ≤ 2 * i
  | 0 => Nat.le_refl _
  | i + 1 => by
    have := lvs_len (w := w) (h := h) (S := S) (s0 := s0) i
    unfold lvsD
    rw [List.length_append, List.length_cons]
    split
    · rw [List.length_singleton]; omega
    · rw [List.length_nil]; omega
section
variable {P : Program} {w : World} {K : PySem.W.Frag} {mg : Str → Option Value} {base : Heap} {A : Ads}
def sp__law_told (K : PySem.W.Frag) (C : Addr) : Sp := fun vs H Q _ => ∃ (p sp : Addr) (L : LS) (S : List Int) (s0 s1 s2 : Int) (Z : Addr → Prop), vs = [.ref p, .ref sp] ∧ Lad C H p L S ∧ H sp = some (.lst [.int s0, .int s1, .int s2]) ∧ 0 ≤ s1 ∧ s1 < L.w ^ L.h ∧ 0 ≤ s2 ∧ s2 < L.w ^ L.h ∧ Zok Z H ∧
  ∀ q H', H q = none → Same H H' → Dp K (rst Z H') (.ref q) (.list (toldD L.w L.h S s0 s1 s2)) → Q (.ref q) H'
theorem ok__law_told (T : Txt K mg A) : FO P w K mg base 6 A._law_told ["_law_ladder", "_law_spot"] (sp__law_told K A.Ladder) := by
  obtain ⟨fd_level, G_level, B_level⟩ := ok_level (P := P) (w := w) (base := base) T
  obtain ⟨fd_counted, G_counted, B_counted⟩ := ok_counted (P := P) (w := w) (base := base) T
  obtain ⟨fd_has, G_has, B_has⟩ := ok_has (P := P) (w := w) (base := base) T
  obtain ⟨fd_below, G_below, B_below⟩ := ok_below (P := P) (w := w) (base := base) T
  obtain ⟨fd_above, G_above, B_above⟩ := ok_above (P := P) (w := w) (base := base) T
  obtain ⟨fd_place, G_place, B_place⟩ := ok_place (P := P) (w := w) (base := base) T
  obtain ⟨fd_trail, G_trail, B_trail⟩ := ok_trail (P := P) (w := w) (base := base) T
  obtain ⟨fd_row, G_row, B_row⟩ := ok_row (P := P) (w := w) (base := base) T
  obtain ⟨fd_stretch, G_stretch, B_stretch⟩ := ok_stretch (P := P) (w := w) (base := base) T
  obtain ⟨fd_at, G_at, B_at⟩ := ok_at (P := P) (w := w) (base := base) T
  obtain ⟨fd_ahead, G_ahead, B_ahead⟩ := ok_ahead (P := P) (w := w) (base := base) T
  obtain ⟨fd_way, G_way, B_way⟩ := ok_way (P := P) (w := w) (base := base) T
  have S := sc__law_told
  refine FO.mk' T.f__law_told S b__law_told (fun vs H Q E h => by obtain ⟨_, _, _, _, _, _, _, _, rfl, _⟩ := h; rfl) (fun cdv Ar outer s H vs Q E hr h => ?_)
  have hu := hu_of hr
  obtain ⟨p, sp, L, S0, s0, s1, s2, Z, rfl, Ld, es, a0, a1, b0, b1, zk, k⟩ := h
  have X := Ld.toLadX
  have lt := T.lt
  have ok := Ld.ok
  have hw : 0 < L.w := by have := ok.w1; omega
  have hh := ok.h2
  have hlen := Ld.len
  have hs := Ld.srt
  have tl : ∀ n, (Sk.trail L.w L.h S0 n).length ≤ 200 := fun n => by
    have := Sk.trail_len (w := L.w) (h := L.h) hw hs (n := n)
    omega
  refine ⟨_, (pss_cons (ps_set (i := 2) S.nd rfl (Or.inl rfl) (pe_lst (pa_cons (k_fld (K := K) rfl (pv 0) rfl) (pa_cons (k_fld (K := K) rfl (pv 0) rfl) (pa_cons (k_fld (K := K) rfl (pv 0) rfl) (pa_cons (k_fld (K := K) rfl (pv 0) rfl) pa_nil))))))
  (pss_cons (ps_for (passes_of rfl) rfl (pi_range1 rfl T.z_range (pa_cons (pe_op o_add (k_fld (K := K) rfl (pv 0) rfl) pe_int) pa_nil)) (pg_name (i := 3) S.nd rfl (Or.inr rfl))
    (pss_cons (ps_set (i := 4) S.nd rfl (Or.inl rfl) (pe_callTy (k_listOf (K := K) rfl) (by rfl) T.z_list PyProof.Rows.boot_list (pa_cons (pe_meth (pv 0) T.lt.cl T.m_level G_level (hr.mono (by decide)) B_level .nil (passes_call (takes_of rfl rfl rfl rfl) (fun _ _ _ _ z => z)) (pa_cons (pv 3) pa_nil)) pa_nil)))
    (pss_cons (ps_expr (pe_bm PySem.F.plainAttrs_list PySem.F.slot_list_append PySem.F.type_list_append mt_append (pv 2) (pa_cons (pv 4) pa_nil)))
    (pss_one (ps_if (pt_cmpR op_eq (pv 3) (pe_op o_mod (pe_ix (k_ixL (K := K) rfl) (pv 1) pe_int (fun _ _ => rfl)) (pe_op o_add (k_fld (K := K) rfl (pv 0) rfl) pe_int)) (nomark _))
      (pss_one (ps_expr (pe_bm PySem.F.plainAttrs_list PySem.F.slot_list_append PySem.F.type_list_append mt_append (pv 2) (pa_cons (pe_lc (own := [("_law_number_here", 5)]) (g := gName 5) (tt := tYes) (by rfl) S.nd (k_iL (K := K) rfl (pv 4)) (blkOk_by (N := N__law_told) (sc := defScope s__law_told) (by decide +kernel)) (fun _ _ _ _ _ => pg_name (i := 5) S.nd rfl (Or.inl rfl)) (fun _ _ _ _ _ => pts_nil) (fun _ _ _ _ _ => (pe_meth (pv 0) T.lt.cl T.m_ahead G_ahead (hr.mono (by decide)) B_ahead .nil passL (pa_cons (pv 3) (pa_cons (pv 5) pa_nil))))) pa_nil))))
      pss_nil)))))
  (pss_cons (ps_for (passes_of rfl) rfl (k_iL (K := K) rfl (pe_slice (k_slL (K := K) rfl) (pv 1) (po_some pe_int) po_none)) (pg_name (i := 5) S.nd rfl (Or.inl rfl))
    (pss_cons (ps_expr (pe_bm PySem.F.plainAttrs_list PySem.F.slot_list_append PySem.F.type_list_append mt_append (pv 2) (pa_cons (pe_lst (pa_cons (pe_meth (pv 0) T.lt.cl T.m_has G_has (hr.mono (by decide)) B_has .nil (passes_call (takes_of rfl rfl rfl rfl) (fun _ _ _ _ z => z)) (pa_cons (pv 5) pa_nil)) (pa_cons (pe_meth (pv 0) T.lt.cl T.m_below G_below (hr.mono (by decide)) B_below .nil (passes_call (takes_of rfl rfl rfl rfl) (fun _ _ _ _ z => z)) (pa_cons (pv 5) pa_nil)) (pa_cons (pe_meth (pv 0) T.lt.cl T.m_above G_above (hr.mono (by decide)) B_above .nil (passes_call (takes_of rfl rfl rfl rfl) (fun _ _ _ _ z => z)) (pa_cons (pv 5) pa_nil)) (pa_cons (pe_meth (pv 0) T.lt.cl T.m_place G_place (hr.mono (by decide)) B_place .nil (passes_call (takes_of rfl rfl rfl rfl) (fun _ _ _ _ z => z)) (pa_cons (pv 5) pa_nil)) pa_nil))))) pa_nil)))
    (pss_one (ps_expr (pe_bm PySem.F.plainAttrs_list PySem.F.slot_list_append PySem.F.type_list_append mt_append (pv 2) (pa_cons (pe_callTy (k_listOf (K := K) rfl) (by rfl) T.z_list PyProof.Rows.boot_list (pa_cons (pe_meth (pv 0) T.lt.cl T.m_trail G_trail (hr.mono (by decide)) B_trail .nil (passes_call (takes_of rfl rfl rfl rfl) (fun _ _ _ _ z => z)) (pa_cons (pv 5) pa_nil)) pa_nil)) pa_nil))))))
  (pss_cons (ps_expr (pe_bm PySem.F.plainAttrs_list PySem.F.slot_list_append PySem.F.type_list_append mt_append (pv 2) (pa_cons (pe_lst (pa_cons (pe_callTy (k_listOf (K := K) rfl) (by rfl) T.z_list PyProof.Rows.boot_list (pa_cons (pe_meth0 (pv 0) T.lt.cl T.m_row G_row (hr.mono (by decide)) B_row .nil passL) pa_nil)) (pa_cons (pe_callTy (k_listOf (K := K) rfl) (by rfl) T.z_list PyProof.Rows.boot_list (pa_cons (pe_meth (pv 0) T.lt.cl T.m_stretch G_stretch (hr.mono (by decide)) B_stretch .nil (passes_call (takes_of rfl rfl rfl rfl) (fun _ _ _ _ z => z)) (pa_cons (pe_ix (k_ixL (K := K) rfl) (pv 1) pe_int (fun _ _ => rfl)) (pa_cons (pe_ix (k_ixL (K := K) rfl) (pv 1) pe_int (fun _ _ => rfl)) pa_nil))) pa_nil)) (pa_cons (pe_meth (pv 0) T.lt.cl T.m_counted G_counted (hr.mono (by decide)) B_counted .nil (passes_call (takes_of rfl rfl rfl rfl) (fun _ _ _ _ z => z)) (pa_cons (pe_ix (k_ixL (K := K) rfl) (pv 1) pe_int (fun _ _ => rfl)) (pa_cons (pe_ix (k_ixL (K := K) rfl) (pv 1) pe_int (fun _ _ => rfl)) pa_nil))) pa_nil)))) pa_nil)))
  (pss_consC (ps_if (pt_cmpR o_gt (k_fld (K := K) rfl (pv 0) rfl) pe_int (nomark _))
    (pss_cons (ps_expr (pe_bm PySem.F.plainAttrs_list PySem.F.slot_list_append PySem.F.type_list_append mt_append (pv 2) (pa_cons (pe_lst (pa_cons (pe_meth (pv 0) T.lt.cl T.m_at G_at (hr.mono (by decide)) B_at .nil (passes_call (takes_of rfl rfl rfl rfl) (fun _ _ _ _ z => z)) (pa_cons (pe_op o_mod (pe_ix (k_ixL (K := K) rfl) (pv 1) pe_int (fun _ _ => rfl)) (k_fld (K := K) rfl (pv 0) rfl)) pa_nil)) (pa_cons (pe_callTy (k_listOf (K := K) rfl) (by rfl) T.z_list PyProof.Rows.boot_list (pa_cons (pe_meth (pv 0) T.lt.cl T.m_way G_way (hr.mono (by decide)) B_way .nil (passes_call (takes_of rfl rfl rfl rfl) (fun _ _ _ _ z => z)) (pa_cons (pe_op o_mod (pe_ix (k_ixL (K := K) rfl) (pv 1) pe_int (fun _ _ => rfl)) (k_fld (K := K) rfl (pv 0) rfl)) pa_nil)) pa_nil)) pa_nil))) pa_nil)))
    (pss_one (ps_expr (pe_bm PySem.F.plainAttrs_list PySem.F.slot_list_append PySem.F.type_list_append mt_append (pv 2) (pa_cons (pe_lst (pa_cons (pe_meth (pv 0) T.lt.cl T.m_at G_at (hr.mono (by decide)) B_at .nil (passes_call (takes_of rfl rfl rfl rfl) (fun _ _ _ _ z => z)) (pa_cons pe_int pa_nil)) (pa_cons (pe_meth (pv 0) T.lt.cl T.m_at G_at (hr.mono (by decide)) B_at .nil (passes_call (takes_of rfl rfl rfl rfl) (fun _ _ _ _ z => z)) (pa_cons (pe_op o_sub (k_fld (K := K) rfl (pv 0) rfl) pe_int) pa_nil)) pa_nil))) pa_nil)))))
    pss_nil)
  (pss_one (ps_ret (pv 2)))))))), ?_⟩
  walk_at "gb"
  refine g_newL (by show 4 ≤ 1000; decide) fun q H1 nq t1 e1 => ?_
  have nZq : ¬ Z q := zk.new nq
  have Ld1 := Ld.same t1
  have X1 := Ld1.toLadX
  have new : ∀ {H' : Hp} {r : Addr} {ds : List PyData}, Same H H' → Fnd K Z q H' ds → H' r = none → ¬ (Z r ∨ r = q) := fun {H' r ds} s f e z => by
    rcases z with z | z
    · exact (zk.same s).new e z
    · obtain ⟨ys, e2, _⟩ := f
      rw [z, e2] at e; cases e
  have tup : ∀ {H' : Hp} {r : Addr} {ds : List PyData} {xs : List V}, Same H H' → Fnd K Z q H' ds → H' r = some (.tup xs) → ¬ (Z r ∨ r = q) := fun {H' r ds xs} s f e z => by
    rcases z with z | z
    · exact (zk.same s).tup e z
    · obtain ⟨ys, e2, _⟩ := f
      rw [z, e2] at e; cases e
  have trd : ∀ {H' H2 : Hp} {r : Addr} {n : Int} {ds : List PyData}, Same H H' → Fnd K Z q H' ds → H' r = none → Same H' H2 → TupL H2 r ((Sk.trail L.w L.h S0 n).map sV) → Dp K (rst (fun b => Z b ∨ b = q) H2) (.ref r) (trD L.w L.h S0 n) := fun {H' H2 r n ds} s f e s2 t => by
    refine TupL.dp (H := rst (fun b => Z b ∨ b = q) H2) ?_ sV_plain
    obtain ⟨as, h1, h2⟩ := t
    exact ⟨as, rst_at (new s f e) h1, Paired.mapP h2 fun a x ea => rst_at (tup (s.trans s2) (f.same s2) ea) ea⟩
  have f1 : Fnd K Z q H1 ([.int L.w, .int (L.h : Int), .int (L.w ^ L.h), .int (S0.length : Int)] ++ lvsD L.w L.h S0 s0 0) := ⟨_, e1, rfl, .cons (.int _) (.cons (.int _) (.cons (.int _) (.cons (.int _) .nil)))⟩
  walk_at "gb"
  refine g_rng (by omega) (by omega) ?_
  rw [show ((L.h : Int) + 1).toNat = L.h + 1 by omega]
  refine for_range (lo := 0) (fun i σ H' => Same H H' ∧ Fnd K Z q H' ([.int L.w, .int (L.h : Int), .int (L.w ^ L.h), .int (S0.length : Int)] ++ lvsD L.w L.h S0 s0 i) ∧ ∃ v3 v4 : Option V, σ = [some (.ref p), some (.ref sp), some (.ref q), v3, v4, none]) ⟨t1, f1, none, none, rfl⟩ ?_ ?_
  · rintro i σ H' hi ⟨t2, f2, v3, v4, rfl⟩
    have hi' : i ≤ L.h := by omega
    have hc := pow_ok ok hi'
    have Ld2 := Ld.same t2
    have X2 := Ld2.toLadX
    have ll := lvs_len (w := L.w) (h := L.h) (S := S0) (s0 := s0) i
    have lle : (Sk.lv (L.w ^ i) S0).length ≤ 100 := Nat.le_trans Sk.lv_len hlen
    rw [Int.zero_add]
    walk_at "gb"
    refine ⟨p, (i : Int), L, S0, rfl, Ld2, fun l el hl r1 H3 n3 t3 e3 => ?_, fun bad => absurd ⟨by omega, by omega⟩ bad⟩
    obtain rfl : l = i := by omega
    walk_at "gb"
    refine g_listOf (.of e3) fun r2 H4 n4 t4 e4 => ?_
    have t24 := (t2.trans t3).trans t4
    have f4 := (f2.same t3).same t4
    have zr2 := new (t2.trans t3) (f2.same t3) n4
    walk_at "gb"
    refine ⟨f4.ty, ?_⟩
    walk_at "gb"
    refine g_appF f4 (d := lvD L.w S0 l) (.lst (.of (rst_at zr2 e4)) (dpl_ints _)) (by rw [List.length_append]; show 4 + _ ≤ 1000; omega) fun H5 b5 f5 => ?_
    have t5 : Same H H5 := same_but t24 nq b5
    have e5 : H5 r2 = some (.lst ((Sk.lv (L.w ^ l) S0).map V.int)) := (b5 r2 fun z => zr2 (.inr z)).trans e4
    have Ld5 := Ld.same t5
    have X5 := Ld5.toLadX
    walk_at "gb"
    refine g_ixL (.of (t5 _ _ es)) (atI_c0 rfl) ?_
    walk_at "gb"
    refine g_ite (fun e => ?_) (fun e => ?_)
    · have e := of_decide_eq_true e
      walk_at "gb"
      refine ⟨f5.ty, ?_⟩
      walk_at "gb"
      refine g_lit (.of e5) ?_
      refine g_lcPL (.of e5) (fun j y H => ∀ kk, (Sk.lv (L.w ^ l) S0)[j]? = some kk → ∃ t, y = V.ref t ∧ H t = some (.tup (ahV L.w S0 l kk))) (fun j y H H' s h kk hk => by
        obtain ⟨t, h1, h2⟩ := h kk hk
        exact ⟨t, h1, s _ _ h2⟩) (by rw [List.length_map]; omega) (fun D j x H' hD hj s6 ⟨ys, eD⟩ N hN => ?_) fun D H6 ys nD t6 eD lD fD => ?_
      · obtain ⟨kk, hk, rfl⟩ := map_get hj
        have Ld6 := Ld5.same s6
        have X6 := Ld6.toLadX
        have stk := Sk.lv_mem.mp (List.mem_of_getElem? hk)
        walk_at "gb"
        refine ⟨rfl, ?_⟩
        walk_at "gb"
        refine ⟨p, (l : Int), kk, L, S0, rfl, Ld6, fun l2 el2 _ _ t H7 nt s7 e7 => ?_, fun l2 el2 hl2 bad => ?_, fun bad => absurd ⟨by omega, by omega⟩ bad⟩
        · obtain rfl : l2 = l := by omega
          refine hN _ _ s7 fun k2 hk2 => ?_
          rw [hk] at hk2
          obtain rfl := Option.some.inj hk2
          exact ⟨t, rfl, off_at (Ne.symm (ne_of_none eD nt)) e7⟩
        · obtain rfl : l2 = l := by omega
          exact absurd stk bad
      have t56 := t5.trans t6
      have f6 := f5.same t6
      have zD := new t5 f5 nD
      have dD : Dp K (rst (fun b => Z b ∨ b = q) H6) (.ref D) (ahD L.w S0 l) := .lst (.of (rst_at zD eD)) (dpl_get (by rw [lD, List.length_map, List.length_map]) fun j y d ey ed => by
        obtain ⟨kk, hk, rfl⟩ := map_get ed
        obtain ⟨t, rfl, et⟩ := fD j y ey kk hk
        have et := off_le _ _ et
        exact dp_tup (.of (rst_at (tup t56 f6 et) et)) fun v hv => by
          rcases List.mem_cons.mp hv with rfl | hv
          · exact plain_ov _
          · rw [List.mem_singleton.mp hv]; rfl)
      walk_at "gb"
      refine g_appF f6 dD (by rw [List.length_append, List.length_append, List.length_singleton]; show 4 + _ + 1 ≤ 1000; omega) fun H7 b7 f7 => ?_
      walk_at "gb"
      refine ⟨same_but t56 nq b7, ?_, _, _, rfl⟩
      have : lvsD L.w L.h S0 s0 (l + 1) = lvsD L.w L.h S0 s0 l ++ [lvD L.w S0 l, ahD L.w S0 l] := by
        show _ ++ (_ :: if _ then _ else _) = _
        rw [if_pos e]
      rw [this, ← List.append_assoc]
      rw [List.append_assoc] at f7
      exact f7
    · have e := of_decide_eq_false e
      walk_at "gb"
      refine ⟨t5, ?_, _, _, rfl⟩
      have : lvsD L.w L.h S0 s0 (l + 1) = lvsD L.w L.h S0 s0 l ++ [lvD L.w S0 l] := by
        show _ ++ (_ :: if _ then _ else _) = _
        rw [if_neg e]
      rw [this, ← List.append_assoc]
      exact f5
  rintro σ H2 ⟨t2, f2, v3, v4, rfl⟩
  have ll := lvs_len (w := L.w) (h := L.h) (S := S0) (s0 := s0) (L.h + 1)
  have bl : ([.int L.w, .int (L.h : Int), .int (L.w ^ L.h), .int (S0.length : Int)] ++ lvsD L.w L.h S0 s0 (L.h + 1) : List PyData).length ≤ 100 := by
    rw [List.length_append]; show 4 + _ ≤ 100; omega
  unfold toldD at k
  generalize ([.int L.w, .int (L.h : Int), .int (L.w ^ L.h), .int (S0.length : Int)] ++ lvsD L.w L.h S0 s0 (L.h + 1) : List PyData) = B at *
  walk_at "gb"
  refine g_sl0 ?_
  walk_at "gb"
  refine g_part (g_noPart ?_)
  refine g_sliceX (.of (t2 _ _ es)) fun r3 H3 n3 t3 e3 => ?_
  replace e3 : H3 r3 = some (.lst ([s1, s2].map V.int)) := e3
  have zr3 := new t2 f2 n3
  refine g_lit (.of e3) ?_
  refine for_list (K := K) (a := r3) (xs := [s1, s2].map V.int) (fun i σ H' => Same H H' ∧ Fnd K Z q H' (B ++ (([s1, s2].take i).map fun n => askD L.w L.h S0 n).flatten) ∧ H' r3 = some (.lst ([s1, s2].map V.int)) ∧ ∃ v5 : Option V, σ = [some (.ref p), some (.ref sp), some (.ref q), v3, v4, v5]) ⟨t2.trans t3, by
      have := f2.same t3
      show Fnd K Z q H3 (B ++ [])
      rw [List.append_nil]
      exact this, e3, none, rfl⟩ (fun i σ H' _ ⟨_, _, e, _⟩ => .of e) ?_ ?_
  · rintro i x σ H' hi ⟨t4, f4, e4, v5, rfl⟩
    obtain ⟨n, hn, rfl⟩ := map_get hi
    have nb : 0 ≤ n ∧ n < L.w ^ L.h := by
      have := List.mem_of_getElem? hn
      simp only [List.mem_cons, List.not_mem_nil, or_false] at this
      rcases this with rfl | rfl
      · exact ⟨a0, a1⟩
      · exact ⟨b0, b1⟩
    have fl : (B ++ (([s1, s2].take i).map fun n => askD L.w L.h S0 n).flatten).length ≤ 200 := by
      have hi2 := (List.getElem?_eq_some_iff.mp hn).1
      rw [List.length_append]
      have : ((([s1, s2].take i).map fun n => askD L.w L.h S0 n).flatten).length ≤ 4 := by
        obtain rfl | rfl : i = 0 ∨ i = 1 := by
          have : i < 2 := hi2
          omega
        · exact Nat.zero_le _
        · show 2 ≤ 4; decide
      omega
    have inR : ¬ ¬ (0 ≤ n ∧ n < L.w ^ L.h) := fun z => z nb
    have Ld4 := Ld.same t4
    have X4 := Ld4.toLadX
    walk_at "gb"
    refine ⟨f4.ty, ?_⟩
    walk_at "gb"
    refine ⟨p, n, L, S0, rfl, Ld4, fun _ _ => ?_, fun z => absurd z inR⟩
    walk_at "gb"
    refine ⟨p, n, L, S0, rfl, Ld4, fun _ _ H5 t5 => ?_, fun z => absurd z inR⟩
    have Ld5 := Ld4.same t5
    have X5 := Ld5.toLadX
    walk_at "gb"
    refine ⟨p, n, L, S0, rfl, Ld5, fun _ _ H6 t6 => ?_, fun z => absurd z inR⟩
    have Ld6 := Ld5.same t6
    have X6 := Ld6.toLadX
    walk_at "gb"
    refine ⟨p, n, L, S0, rfl, Ld6, fun _ _ H7 t7 => ?_, fun z => absurd ⟨nb.1, Int.le_of_lt nb.2⟩ z⟩
    walk_at "gb"
    have t47 := (t5.trans t6).trans t7
    have f7 := f4.same t47
    refine g_newL (by show 4 ≤ 1000; decide) fun r8 H8 n8 t8 e8 => ?_
    have zr8 := new (t4.trans t47) f7 n8
    have f8 := f7.same t8
    walk_at "gb"
    refine g_appF f8 (d := .list ((askV S0 n).map vD)) (.lst (.of (rst_at zr8 e8)) (dpl_v (xs := askV S0 n) fun v hv => ?_)) (by omega) fun H9 b9 f9 => ?_
    · unfold askV at hv
      simp only [List.mem_cons, List.not_mem_nil, or_false] at hv
      rcases hv with rfl | rfl | rfl | rfl
      · rfl
      · exact plain_ov _
      · exact plain_ov _
      · rfl
    have t9 : Same H H9 := same_but ((t4.trans t47).trans t8) nq b9
    have e9 : H9 r3 = some (.lst ([s1, s2].map V.int)) := (b9 r3 fun z => zr3 (.inr z)).trans (t8 _ _ (t47 _ _ e4))
    have Ld9 := Ld.same t9
    have X9 := Ld9.toLadX
    walk_at "gb"
    refine ⟨f9.ty, ?_⟩
    walk_at "gb"
    refine ⟨p, n, L, S0, rfl, Ld9, fun _ _ r10 H10 t10 n10 tr10 => ?_, fun z => absurd z inR⟩
    walk_at "gb"
    obtain ⟨as, h10, p10⟩ := tr10
    refine g_listOf (.of h10) fun r11 H11 n11 t11 e11 => ?_
    have t911 := t10.trans t11
    have f10 := f9.same t10
    walk_at "gb"
    refine g_appF (f9.same t911) (d := trD L.w L.h S0 n) (trd (t9.trans t10) f10 n11 t11 (tupl_copy t11 p10 e11)) (by rw [List.length_append, List.length_singleton]; omega) fun H12 b12 f12 => ?_
    walk_at "gb"
    refine ⟨same_but (t9.trans t911) nq b12, ?_, (b12 r3 fun z => zr3 (.inr z)).trans (t911 _ _ e9), _, rfl⟩
    rw [Sk.take_snoc hn, List.map_append, List.flatten_append, ← List.append_assoc]
    show Fnd K Z q H12 (_ ++ (askD L.w L.h S0 n ++ []))
    rw [List.append_nil]
    rw [List.append_assoc] at f12
    exact f12
  rintro σ H4 ⟨t4, f4, _, v5, rfl⟩
  replace f4 : Fnd K Z q H4 (B ++ (askD L.w L.h S0 s1 ++ askD L.w L.h S0 s2)) := by
    have e : ((([s1, s2].take ([s1, s2].map V.int).length).map fun n => askD L.w L.h S0 n).flatten) = askD L.w L.h S0 s1 ++ askD L.w L.h S0 s2 := rfl
    rw [e] at f4
    exact f4
  have ml : ∀ x y, (Sk.mid S0 x y).length ≤ 100 := fun x y => Nat.le_trans (List.length_filter_le _ _) hlen
  have Ld4 := Ld.same t4
  have X4 := Ld4.toLadX
  walk_at "gb"
  refine ⟨f4.ty, ?_⟩
  walk_at "gb"
  refine ⟨p, L, S0, rfl, Ld4, fun r5 H5 n5 t5 e5 => ?_⟩
  walk_at "gb"
  refine g_listOf (.of e5) fun r6 H6 n6 t6 e6 => ?_
  have t46 := t5.trans t6
  have Ld6 := Ld4.same t46
  have X6 := Ld6.toLadX
  walk_at "gb"
  refine g_ixL (.of ((t4.trans t46) _ _ es)) (atI_c1 rfl) ?_
  walk_at "gb"
  refine g_ixL (.of ((t4.trans t46) _ _ es)) (atI_c2 rfl) ?_
  walk_at "gb"
  refine ⟨p, s1, s2, L, S0, rfl, Ld6, fun _ _ _ _ r7 H7 t7 n7 e7 => ?_, fun bad => absurd ⟨a0, Int.le_of_lt a1, b0, Int.le_of_lt b1⟩ bad⟩
  walk_at "gb"
  refine g_listOf (.of e7) fun r8 H8 n8 t8 e8 => ?_
  have t68 := t7.trans t8
  have Ld8 := Ld6.same t68
  have X8 := Ld8.toLadX
  have t48 := t46.trans t68
  walk_at "gb"
  refine g_ixL (.of ((t4.trans t48) _ _ es)) (atI_c2 rfl) ?_
  walk_at "gb"
  refine g_ixL (.of ((t4.trans t48) _ _ es)) (atI_c1 rfl) ?_
  walk_at "gb"
  refine ⟨p, s2, s1, L, S0, rfl, Ld8, fun _ _ _ _ H9 t9 => ?_, fun bad => absurd ⟨b0, Int.le_of_lt b1, a0, Int.le_of_lt a1⟩ bad⟩
  walk_at "gb"
  refine g_newL (by show 3 ≤ 1000; decide) fun r10 H10 n10 t10 e10 => ?_
  have t49 := t48.trans t9
  have t410 := t49.trans t10
  have f10 := f4.same t410
  have z6 := new (t4.trans t5) (f4.same t5) n6
  have z8 := new ((t4.trans t46).trans t7) ((f4.same t46).same t7) n8
  have z10 := new (t4.trans t49) (f4.same t49) n10
  walk_at "gb"
  refine g_appF f10 (d := sumD S0 s1 s2) (.lst (.of (rst_at z10 e10)) (.cons (.lst (.of (rst_at z6 (((t68.trans t9).trans t10) _ _ e6))) (dpl_ints _)) (.cons (.lst (.of (rst_at z8 ((t9.trans t10) _ _ e8))) (dpl_ints _)) (.cons (.int _) .nil)))) (by
    rw [List.length_append, List.length_append]; show _ + (2 + 2) ≤ 1000; omega) fun H11 b11 f11 => ?_
  have t11 : Same H H11 := same_but (t4.trans t410) nq b11
  have Ld11 := Ld.same t11
  have X11 := Ld11.toLadX
  have fl11 : ((B ++ (askD L.w L.h S0 s1 ++ askD L.w L.h S0 s2)) ++ [sumD S0 s1 s2]).length ≤ 200 := by
    rw [List.length_append, List.length_append, List.length_append]; show _ + (2 + 2) + 1 ≤ 200; omega
  generalize (B ++ (askD L.w L.h S0 s1 ++ askD L.w L.h S0 s2)) ++ [sumD S0 s1 s2] = B2 at *
  walk_at "gb"
  refine g_cut (fun σ' H12 => Same H H12 ∧ Fnd K Z q H12 (B2 ++ endD L.w L.h S0 s0) ∧ ∃ v3 v4 v5 : Option V, σ' = [some (.ref p), some (.ref sp), some (.ref q), v3, v4, v5]) (fun N hN => ?_) ?_
  · walk_at "gb"
    refine g_ite (fun e => ?_) (fun e => ?_)
    · have pos : 0 < S0.length := by have := of_decide_eq_true e; omega
      have inP : ∀ {j : Nat}, j < S0.length → ¬ ¬ (0 ≤ (j : Int) ∧ (j : Int) < (S0.length : Int)) := fun h z => z ⟨by omega, by omega⟩
      obtain ⟨j, ej⟩ : ∃ j : Nat, s0 % (S0.length : Int) = (j : Int) := ⟨(s0 % (S0.length : Int)).toNat, by
        have := Int.emod_nonneg s0 (show (S0.length : Int) ≠ 0 by omega)
        omega⟩
      have hj : j < S0.length := by
        have := Int.emod_lt_of_pos s0 (show (0 : Int) < (S0.length : Int) by omega)
        omega
      have gj := Sk.get_of hj
      walk_at "gb"
      refine ⟨f11.ty, ?_⟩
      walk_at "gb"
      refine g_ixL (.of (t11 _ _ es)) (atI_c0 rfl) ?_
      walk_at "gb"
      rw [ej]
      refine ⟨p, (j : Int), L, S0, rfl, Ld11, fun j2 x ex hx H12 t12 => ?_, fun z => absurd z (inP hj)⟩
      obtain rfl : j2 = j := by omega
      rw [gj] at hx
      obtain rfl := Option.some.inj hx
      have Ld12 := Ld11.same t12
      have X12 := Ld12.toLadX
      walk_at "gb"
      refine g_ixL (.of ((t11.trans t12) _ _ es)) (atI_c0 rfl) ?_
      walk_at "gb"
      rw [ej]
      refine ⟨p, (j2 : Int), L, S0, rfl, Ld12, fun j3 x ex hx3 r13 H13 t13 n13 tr13 => ?_, fun z => absurd z (inP hj)⟩
      obtain rfl : j3 = j2 := by omega
      rw [gj] at hx3
      obtain rfl := Option.some.inj hx3
      walk_at "gb"
      obtain ⟨as, h13, p13⟩ := tr13
      refine g_listOf (.of h13) fun r14 H14 n14 t14 e14 => ?_
      walk_at "gb"
      refine g_newL (by show 2 ≤ 1000; decide) fun r15 H15 n15 t15 e15 => ?_
      have t1113 := t12.trans t13
      have t1114 := t1113.trans t14
      have t1115 := t1114.trans t15
      have z14 := new (t11.trans t1113) (f11.same t1113) n14
      have z15 := new (t11.trans t1114) (f11.same t1114) n15
      have d14 := trd (t11.trans t1113) (f11.same t1113) n14 t14 (tupl_copy t14 p13 e14)
      walk_at "gb"
      refine g_appF (f11.same t1115) (d := .list [.int (S0.getD j3 0), trD L.w L.h S0 (S0.getD j3 0)]) (.lst (.of (rst_at z15 e15)) (.cons (.int _) (.cons (Dp.mono (rst_same t15) _ _ d14) .nil))) (by omega) fun H16 b16 f16 => ?_
      have t16 : Same H H16 := same_but (t11.trans t1115) nq b16
      have Ld16 := Ld.same t16
      have X16 := Ld16.toLadX
      walk_at "gb"
      refine ⟨f16.ty, ?_⟩
      walk_at "gb"
      refine ⟨p, 0, L, S0, rfl, Ld16, fun j4 x ex hx4 H17 t17 => ?_, fun z => absurd z (inP pos)⟩
      obtain rfl : j4 = 0 := by omega
      rw [Sk.get_of pos] at hx4
      obtain rfl := Option.some.inj hx4
      have Ld17 := Ld16.same t17
      have X17 := Ld17.toLadX
      walk_at "gb"
      refine ⟨p, (S0.length : Int) - 1, L, S0, rfl, Ld17, fun j5 x ex hx5 H18 t18 => ?_, fun z => absurd ⟨by omega, by omega⟩ z⟩
      obtain rfl : j5 = S0.length - 1 := by omega
      rw [Sk.get_of (by omega)] at hx5
      obtain rfl := Option.some.inj hx5
      walk_at "gb"
      refine g_newL (by show 2 ≤ 1000; decide) fun r19 H19 n19 t19 e19 => ?_
      have t1618 := t17.trans t18
      have t1619 := t1618.trans t19
      have z19 := new (t16.trans t1618) (f16.same t1618) n19
      walk_at "gb"
      refine g_appF (f16.same t1619) (d := .list [.int (S0.getD 0 0), .int (S0.getD (S0.length - 1) 0)]) (.lst (.of (rst_at z19 e19)) (.cons (.int _) (.cons (.int _) .nil))) (by rw [List.length_append, List.length_singleton]; omega) fun H20 b20 f20 => ?_
      walk_at "gb"
      refine hN _ _ ⟨same_but (t16.trans t1619) nq b20, ?_, _, _, _, rfl⟩
      unfold endD
      rw [if_pos pos, ej, Int.toNat_natCast]
      rw [List.append_assoc] at f20
      exact f20
    · have pos : ¬ 0 < S0.length := fun z => of_decide_eq_false e (by omega)
      walk_at "gb"
      refine hN _ _ ⟨t11, ?_, _, _, _, rfl⟩
      unfold endD
      rw [if_neg pos, List.append_nil]
      exact f11
  rintro σ' H12 ⟨t12, f12, v3, v4, v5, rfl⟩
  walk_at "gb"
  exact k q H12 nq t12 (f12.dp nZq)
end
end Lk

namespace Lk
open PySem PySem.Spec PyProof.Rows L2
def spLaw (K : PySem.W.Frag) : Sp := fun vs H Q _ => ∃ (a : Addr) (ns : List Int), vs = [.ref a] ∧ SqL K H a (ns.map V.int) ∧ ns.length ≤ 63 ∧ ∀ H', Q (.bl true) H'
theorem keeps_fresh {M : LS} {f : Addr} {H H1 H2 : Hp} (s : Same H H1) (k : Keeps M f H1 H2) (fr : ∀ b, M.own f b → H b = none) : Same H H2 := fun b o e => k b o (s b o e) fun z => by rw [fr b z] at e; cases e
section
variable {P : Program} {w : World} {K : PySem.W.Frag} {mg : Str → Option Value} {base : Heap} {A : Ads}
theorem ins_drop {rs : List Int} (h : Sk.Srt rs) {i : Nat} {x : Int} (e : rs[i]? = some x) : Sk.ins (rs.drop (i + 1)) x = rs.drop i ∧ x ∉ rs.drop (i + 1) := by
  have hi := Sk.lt_of_get e
  have ed : rs.drop i = x :: rs.drop (i + 1) := by
    rw [List.drop_eq_getElem_cons hi]
    rw [List.getElem?_eq_getElem hi] at e
    rw [Option.some.inj e]
  have hs : Sk.Srt (x :: rs.drop (i + 1)) := ed ▸ h.sublist (List.drop_sublist i rs)
  have hs2 := (List.pairwise_cons.mp hs)
  refine ⟨?_, fun z => by have := hs2.1 x z; omega⟩
  rw [ed]
  exact Sk.srt_ext (Sk.srt_ins hs2.2 x) hs fun z => by rw [Sk.mem_ins, List.mem_cons]
def sp__law_made (K : PySem.W.Frag) (C : Addr) : Sp := fun vs H Q _ => ∃ (a : Addr) (w : Int) (h : Nat) (rs : List Int), vs = [.int w, .int (h : Int), .ref a] ∧ H a = some (.lst (rs.map V.int)) ∧ 2 ≤ w ∧ w ≤ 9 ∧ 1 ≤ h ∧ h ≤ 12 ∧ Sk.Srt rs ∧ (∀ z ∈ rs, 0 ≤ z) ∧ (∀ z ∈ rs, z < w ^ h) ∧ rs.length ≤ 100 ∧
  ∀ f (M : LS) H', H f = none → M.w = w → M.h = h → Same H H' → (∀ b, M.own f b → H b = none) → Lad C H' f M rs → Q (.ref f) H'
theorem ok__law_made (T : Txt K mg A) : FO P w K mg base 6 A._law_made ["_law_width", "_law_high", "_law_row"] (sp__law_made K A.Ladder) := by
  obtain ⟨fd___init__, G___init__, B___init__⟩ := ok___init__ (P := P) (w := w) (base := base) T
  obtain ⟨fd_put, G_put, B_put⟩ := ok_put (P := P) (w := w) (base := base) T
  have S := sc__law_made
  refine FO.mk' T.f__law_made S b__law_made (fun vs H Q E h => by obtain ⟨_, _, _, _, rfl, _⟩ := h; rfl) (fun cdv Ar outer s H vs Q E hr h => ?_)
  have hu := hu_of hr
  obtain ⟨a, wd, hh, rs, rfl, ea, w1, w2, h1, h2, hs, lo, hi, hl, k⟩ := h
  refine ⟨_, (pss_cons (ps_set (i := 3) S.nd rfl (Or.inl rfl) (pe_make T.mk_Ladder G___init__ (hr.mono (by decide)) rfl T.g_Ladder B___init__ .nil (passes_call (takes_of rfl rfl rfl rfl) (fun _ _ _ _ z => z)) (pa_cons (pv 0) (pa_cons (pv 1) pa_nil))))
  (pss_cons (ps_for (passes_of rfl) rfl (k_rev (K := K) rfl (by rfl) T.z_reversed (pa_cons (pv 2) pa_nil)) (pg_name (i := 4) S.nd rfl (Or.inl rfl))
    (pss_one (ps_expr (pe_meth (pv 3) T.lt.cl T.m_put G_put (hr.mono (by decide)) B_put .nil (passes_call (takes_of rfl rfl rfl rfl) (fun _ _ _ _ z => z)) (pa_cons (pv 4) pa_nil)))))
  (pss_one (ps_ret (pv 3))))), ?_⟩
  walk_at "gb"
  refine g_ladder ⟨w1, w2, by omega, by omega⟩ fun f M H1 nf eMw eMh Md s1 fr => ?_
  have eMh : M.h = hh := by omega
  have noa : ¬ M.own f a := fun z => by rw [fr a z] at ea; cases ea
  walk_at "gb"
  refine g_rev0 ?_
  walk_at "gb"
  have ea1 := s1 _ _ ea
  refine g_rev (.of ea1) ?_
  refine for_it (walk_rev (K := K) (a := a) (xs := rs.map V.int)) (fun i σ H' => ∃ v4 : Option V, σ = [some (.int wd), some (.int (hh : Int)), some (.ref a), some (.ref f), v4] ∧ Lad A.Ladder H' f M (rs.drop (rs.length - i)) ∧ Same H H' ∧ H' a = some (.lst (rs.map V.int)))
    ⟨none, rfl, by rw [Nat.sub_zero, List.drop_length]; exact Md, s1, ea1⟩ (fun i σ H' _ ⟨_, _, _, _, e⟩ => .of e) ?_ ?_
  · rintro i x σ H' H2 hi2 ⟨v4, rfl, Md', s2, ea2⟩ ⟨rfl, hx⟩
    rw [List.length_map] at hi2 hx
    obtain ⟨z, hz, rfl⟩ := map_get hx
    have zm := List.mem_of_getElem? hz
    have e1 := ins_drop hs hz
    rw [show rs.length - 1 - i + 1 = rs.length - i by omega, show rs.length - 1 - i = rs.length - (i + 1) by omega] at e1
    have X' := Md'.toLadX
    walk_at "gb"
    refine ⟨f, z, M, _, rfl, Md', fun _ _ _ => ⟨by rw [List.length_drop]; omega, fun t H3 kp nt tq Md3 => ?_⟩, fun q => absurd ⟨lo z zm, by rw [eMw, eMh]; exact hi z zm⟩ q, fun _ _ q => absurd q e1.2⟩
    rw [e1.1] at Md3
    walk_at "gb"
    exact ⟨_, rfl, Md3, keeps_fresh s2 kp fr, kp _ _ ea2 noa⟩
  · rintro σ H' ⟨v4, rfl, Md', s2, _⟩
    rw [List.length_map, Nat.sub_self, List.drop_zero] at Md'
    walk_at "gb"
    exact k f M H' nf eMw eMh s2 fr Md'
def sp__law_refused (C : Addr) : Sp := fun vs H Q _ => ∃ (p p2 : Addr) (L M : LS) (S T : List Int), vs = [.ref p, .ref p2] ∧ Lad C H p L S ∧ Lad C H p2 M T ∧
  (¬ (L.w = M.w ∧ L.h = M.h) → Q (.int 1) H) ∧ (L.w = M.w → L.h = M.h → ∀ x, x ∈ S → x ∈ T → ∀ H', Same H H' → Q (.int 2) H') ∧
  (L.w = M.w → L.h = M.h → (∀ x, x ∈ S → x ∉ T) → S.length + T.length ≤ 100 ∧ ∀ H', Keeps L p H H' → Lad C H' p L (Sk.uni S T) → Q (.int 0) H')
theorem ok__law_refused (T : Txt K mg A) : FO P w K mg base 7 A._law_refused ["_law_ladder", "_law_other"] (sp__law_refused A.Ladder) := by
  obtain ⟨fd_poured, G_poured, B_poured⟩ := ok_poured (P := P) (w := w) (base := base) T
  have S := sc__law_refused
  refine FO.mk' T.f__law_refused S b__law_refused (fun vs H Q E h => by obtain ⟨_, _, _, _, _, _, rfl, _⟩ := h; rfl) (fun cdv Ar outer s H vs Q E hr h => ?_)
  have hu := hu_of hr
  obtain ⟨p, p2, L, M, S0, T0, rfl, Ld, Md, k1, k2, k3⟩ := h
  refine ⟨_, (pss_cons (ps_try_manyA (i := 2) (tb := _) rfl rfl S.nd rfl rfl (takes_of rfl rfl rfl rfl)
    (fun W pn xe tk _ => (pss_one (ps_expr (pe_callS G_poured (hr.mono (by decide)) rfl T.g_poured T.k_poured B_poured (fun q => passAt tk q) (pa_cons (pv 0) (pa_cons (pv 1) pa_nil))))))
    (HdsA.cons (ts := _) ⟨rfl, by decide, Or.inl T.x_OtherSize.g⟩ (fun ae oe cls dd pn hz hf => (pss_one (ps_ret (pe_callTy c_int1 (by rfl) T.z_int PyProof.Rows.boot_int (pa_cons (pe_and (pe_callB (call_isG (K := K) rfl hz hf) (by rfl) T.z_isinstance (by decide +kernel) (pa_cons (pv 2) (pa_cons (pe_glob (v := .ref A.LadderError) rfl T.x_LadderError.g rfl) pa_nil))) (pe_one (pe_callB (call_isG (K := K) rfl hz hf) (by rfl) T.z_isinstance (by decide +kernel) (pa_cons (pv 2) (pa_cons (pe_bltn (v := .ty "ValueError") (u := .type "ValueError") rfl T.z_ValueError (by decide +kernel) rfl) pa_nil))))) pa_nil))))) (HdsA.cons (ts := _) ⟨rfl, by decide, Or.inl T.x_Present.g⟩ (fun ae oe cls dd pn hz hf => (pss_one (ps_ret (pe_op o_mul pe_int (pe_callTy c_int1 (by rfl) T.z_int PyProof.Rows.boot_int (pa_cons (pe_and (pe_callB (call_isG (K := K) rfl hz hf) (by rfl) T.z_isinstance (by decide +kernel) (pa_cons (pv 2) (pa_cons (pe_glob (v := .ref A.LadderError) rfl T.x_LadderError.g rfl) pa_nil))) (pe_one (pe_callB (call_isG (K := K) rfl hz hf) (by rfl) T.z_isinstance (by decide +kernel) (pa_cons (pv 2) (pa_cons (pe_bltn (v := .ty "ValueError") (u := .type "ValueError") rfl T.z_ValueError (by decide +kernel) rfl) pa_nil))))) pa_nil)))))) HdsA.nil)))
  (pss_one (ps_ret pe_int))), ?_⟩
  walk_at "gb"
  refine ⟨p, p2, L, M, S0, T0, rfl, Ld, Md, fun ne => ?_, fun e1 e2 x xs xt H1 s1 => ?_, fun e1 e2 d => ⟨(k3 e1 e2 d).1, fun H1 kp Ld1 => ?_⟩⟩
  · refine w_hitA T.e_OtherSize_OtherSize fun a _ => ?_
    walk_at "gb"
    refine g_isG T.c_OtherSize T.i_OtherSize_LadderError ?_
    walk_at "gb"
    refine g_isGt T.c_OtherSize T.i_OtherSize_ValueError ?_
    walk_at "gb"
    refine g_int1 ?_
    walk_at "gb"
    exact k1 ne
  · refine w_missA T.e_Present_OtherSize (w_hitA T.e_Present_Present fun a _ => ?_)
    walk_at "gb"
    refine g_isG T.c_Present T.i_Present_LadderError ?_
    walk_at "gb"
    refine g_isGt T.c_Present T.i_Present_ValueError ?_
    walk_at "gb"
    refine g_int1 ?_
    refine g_mul (.inl (by decide)) ?_
    exact k2 e1 e2 x xs xt _ s1
  · walk_at "gb"
    exact (k3 e1 e2 d).2 H1 kp Ld1
def sp__law_refused_by_any (C : Addr) : Sp := fun vs H Q _ => ∃ (p : Addr) (n : Int) (L : LS) (S : List Int), vs = [.ref p, .int n] ∧ Lad C H p L S ∧ ¬ (0 ≤ n ∧ n ≤ L.w ^ L.h) ∧ ∀ H', Same H H' → Q (.bl true) H'
theorem ok__law_refused_by_any (T : Txt K mg A) : FO P w K mg base 7 A._law_refused_by_any ["_law_ladder", "_law_number_here"] (sp__law_refused_by_any A.Ladder) := by
  obtain ⟨fd_cut, G_cut, B_cut⟩ := ok_cut (P := P) (w := w) (base := base) T
  have S := sc__law_refused_by_any
  refine FO.mk' T.f__law_refused_by_any S b__law_refused_by_any (fun vs H Q E h => by obtain ⟨_, _, _, _, rfl, _⟩ := h; rfl) (fun cdv Ar outer s H vs Q E hr h => ?_)
  have hu := hu_of hr
  obtain ⟨p, n, L, S0, rfl, Ld, hn, k⟩ := h
  refine ⟨_, (pss_cons (ps_set (i := 2) S.nd rfl (Or.inl rfl) pe_int)
  (pss_cons (ps_try_only (tb := _) (ts := _) rfl rfl ⟨rfl, by decide, Or.inl T.x_OutOfRange.g⟩ (takes_of rfl rfl rfl rfl)
    (fun W pn xe tk _ => (pss_one (ps_expr (pe_callS G_cut (hr.mono (by decide)) rfl T.g_cut T.k_cut B_cut (fun q => passAt tk q) (pa_cons (pv 0) (pa_cons (pv 1) pa_nil))))))
    (fun ae oe cls dd pn hz hf => (pss_one (ps_set (i := 2) S.nd rfl (Or.inl rfl) (pe_op o_add (pv 2) pe_int)))))
  (pss_cons (ps_try_as (i := 3) (tb := _) (ts := _) rfl rfl S.nd rfl rfl ⟨rfl, by decide, Or.inl T.x_LadderError.g⟩ (takes_of rfl rfl rfl rfl)
    (fun W pn xe tk _ => (pss_one (ps_expr (pe_callS G_cut (hr.mono (by decide)) rfl T.g_cut T.k_cut B_cut (fun q => passAt tk q) (pa_cons (pv 0) (pa_cons (pv 1) pa_nil))))))
    (fun ae oe cls dd pn hz hf => (pss_one (ps_set (i := 2) S.nd rfl (Or.inl rfl) (pe_op o_add (pv 2) (pe_callTy c_int1 (by rfl) T.z_int PyProof.Rows.boot_int (pa_cons (pe_callB (call_isG (K := K) rfl hz hf) (by rfl) T.z_isinstance (by decide +kernel) (pa_cons (pv 3) (pa_cons (pe_bltn (v := .ty "ValueError") (u := .type "ValueError") rfl T.z_ValueError (by decide +kernel) rfl) pa_nil))) pa_nil)))))))
  (pss_one (ps_ret (pe_cmpR op_eq (pv 2) pe_int (nomark _))))))), ?_⟩
  walk_at "gb"
  refine ⟨p, n, L, S0, rfl, Ld, fun _ H1 s1 => w_only T.e_OutOfRange_OutOfRange fun a _ => ?_, fun h1 h2 => absurd ⟨h1, h2⟩ hn⟩
  walk_at "gb"
  refine ⟨p, n, L, S0, rfl, Ld.same s1, fun _ H2 s2 => w_as T.e_OutOfRange_LadderError fun a _ => ?_, fun h1 h2 => absurd ⟨h1, h2⟩ hn⟩
  walk_at "gb"
  refine g_isGt T.c_OutOfRange T.i_OutOfRange_ValueError ?_
  walk_at "gb"
  refine g_int1 ?_
  walk_at "gb"
  exact k _ (s1.trans s2)
def sp__law_ends (C : Addr) : Sp := fun vs H Q _ => ∃ (p : Addr) (n : Int) (L : LS) (S : List Int), vs = [.ref p, .int n] ∧ Lad C H p L S ∧ n ∉ S ∧ Q (.bl true) H
theorem ok__law_ends (T : Txt K mg A) : FO P w K mg base 5 A._law_ends ["_law_ladder", "_law_gone"] (sp__law_ends A.Ladder) := by
  obtain ⟨fd_at, G_at, B_at⟩ := ok_at (P := P) (w := w) (base := base) T
  obtain ⟨fd_way, G_way, B_way⟩ := ok_way (P := P) (w := w) (base := base) T
  obtain ⟨fd_ahead, G_ahead, B_ahead⟩ := ok_ahead (P := P) (w := w) (base := base) T
  have S := sc__law_ends
  refine FO.mk' T.f__law_ends S b__law_ends (fun vs H Q E h => by obtain ⟨_, _, _, _, rfl, _⟩ := h; rfl) (fun cdv Ar outer s H vs Q E hr h => ?_)
  have hu := hu_of hr
  obtain ⟨p, n, L, S0, rfl, Ld, hn, k⟩ := h
  have X := Ld.toLadX
  have lt := T.lt
  have hh := Ld.ok.h2
  have no : ∀ (i : Nat) (x : Int), (S0.length : Int) = (i : Int) → ¬ S0[i]? = some x := fun i x e q => by have := Sk.lt_of_get q; omega
  refine ⟨_, (pss_cons (ps_set (i := 2) S.nd rfl (Or.inl rfl) pe_int)
  (pss_cons (ps_try_only (tb := _) (ts := _) rfl rfl ⟨rfl, by decide, Or.inl T.x_NoPlace.g⟩ (takes_of rfl rfl rfl rfl)
    (fun W pn xe tk _ => (pss_one (ps_expr (pe_methS (pv 0) T.lt.cl T.m_at G_at (hr.mono (by decide)) B_at (fun q => passAt tk q) (pa_cons (k_fld (K := K) rfl (pv 0) rfl) pa_nil)))))
    (fun ae oe cls dd pn hz hf => (pss_one (ps_set (i := 2) S.nd rfl (Or.inl rfl) (pe_op o_add (pv 2) pe_int)))))
  (pss_cons (ps_try_only (tb := _) (ts := _) rfl rfl ⟨rfl, by decide, Or.inl T.x_NoPlace.g⟩ (takes_of rfl rfl rfl rfl)
    (fun W pn xe tk _ => (pss_one (ps_expr (pe_methS (pv 0) T.lt.cl T.m_way G_way (hr.mono (by decide)) B_way (fun q => passAt tk q) (pa_cons (k_fld (K := K) rfl (pv 0) rfl) pa_nil)))))
    (fun ae oe cls dd pn hz hf => (pss_one (ps_set (i := 2) S.nd rfl (Or.inl rfl) (pe_op o_add (pv 2) pe_int)))))
  (pss_cons (ps_for (passes_of rfl) rfl (pi_range1 rfl T.z_range (pa_cons (pe_op o_add (k_fld (K := K) rfl (pv 0) rfl) pe_int) pa_nil)) (pg_name (i := 3) S.nd rfl (Or.inl rfl))
    (pss_one (ps_try_only (tb := _) (ts := _) rfl rfl ⟨rfl, by decide, Or.inl T.x_Missing.g⟩ (takes_of rfl rfl rfl rfl)
      (fun W pn xe tk _ => (pss_one (ps_expr (pe_methS (pv 0) T.lt.cl T.m_ahead G_ahead (hr.mono (by decide)) B_ahead (fun q => passAt tk q) (pa_cons (pv 3) (pa_cons (pv 1) pa_nil))))))
      (fun ae oe cls dd pn hz hf => (pss_one (ps_set (i := 2) S.nd rfl (Or.inl rfl) (pe_op o_add (pv 2) pe_int)))))))
  (pss_one (ps_ret (pe_cmpR op_eq (pv 2) (pe_op o_add pe_int (k_fld (K := K) rfl (pv 0) rfl)) (nomark _)))))))), ?_⟩
  walk_at "gb"
  refine ⟨p, (S0.length : Int), L, S0, rfl, Ld, fun i x e q => absurd q (no i x e), fun _ => w_only T.e_NoPlace_NoPlace fun a _ => ?_⟩
  walk_at "gb"
  refine ⟨p, (S0.length : Int), L, S0, rfl, Ld, fun i x e q => absurd q (no i x e), fun _ => w_only T.e_NoPlace_NoPlace fun a _ => ?_⟩
  walk_at "gb"
  refine g_rng (by omega) (by omega) ?_
  rw [show ((L.h : Int) + 1).toNat = L.h + 1 by omega]
  refine for_range (lo := 0) (tb := fun D => tDrop (tMethS A.Ladder "ahead" (sp_ahead A.Ladder A.NoLevel A.Missing) (WE (wOnly K (.ref A.Missing) (fun ae cls dd => tAsg (tOp nAdd (tVar 2) (tC (.int 1))) (gName 2)) (fun cls d x H => E cls d H) D)) (tVar 0) (tCons (tVar 3) (tCons (tVar 1) tNil))) D) (fun i σ H' => H' = H ∧ ∃ v3 : Option V, σ = [some (.ref p), some (.int n), some (.int (2 + (i : Int))), v3]) ⟨rfl, none, rfl⟩ ?_ ?_
  · rintro i σ H' hi ⟨rfl, v3, rfl⟩
    rw [Int.zero_add]
    walk_at "gb"
    refine ⟨p, (i : Int), n, L, S0, rfl, Ld, fun l _ _ st => absurd st.1 hn, fun l el hl _ => w_only T.e_Missing_Missing fun a _ => ?_, fun bad => absurd ⟨by omega, by omega⟩ bad⟩
    walk_at "gb"
    exact ⟨rfl, _, by rw [show 2 + (i : Int) + 1 = 2 + ((i + 1 : Nat) : Int) by omega]; rfl⟩
  rintro σ H' ⟨rfl, v3, rfl⟩
  walk_at "gb"
  rw [show 2 + ((L.h + 1 : Nat) : Int) = 3 + (L.h : Int) by omega, decide_eq_true rfl]
  exact k
def sp__law_is_there (K : PySem.W.Frag) (C : Addr) : Sp := fun vs H Q _ => ∃ (p : Addr) (n : Int) (L : LS) (S : List Int), vs = [.ref p, .int n] ∧ Lad C H p L S ∧ n ∈ S ∧ ∀ H', Same H H' → Q (.bl true) H'
theorem ok__law_is_there (T : Txt K mg A) : FO P w K mg base 5 A._law_is_there ["_law_ladder", "_law_number_here"] (sp__law_is_there K A.Ladder) := by
  obtain ⟨fd_ahead, G_ahead, B_ahead⟩ := ok_ahead (P := P) (w := w) (base := base) T
  obtain ⟨fd_way, G_way, B_way⟩ := ok_way (P := P) (w := w) (base := base) T
  obtain ⟨fd_at, G_at, B_at⟩ := ok_at (P := P) (w := w) (base := base) T
  obtain ⟨fd_level, G_level, B_level⟩ := ok_level (P := P) (w := w) (base := base) T
  have S := sc__law_is_there
  refine FO.mk' T.f__law_is_there S b__law_is_there (fun vs H Q E h => by obtain ⟨_, _, _, _, rfl, _⟩ := h; rfl) (fun cdv Ar outer s H vs Q E hr h => ?_)
  have hu := hu_of hr
  obtain ⟨p, n, L, S0, rfl, Ld, hn, k⟩ := h
  have X := Ld.toLadX
  have lt := T.lt
  have ok := Ld.ok
  have hw : 0 < L.w := by have := ok.w1; omega
  have hs := Ld.srt
  have hh := ok.h2
  have hlen := Ld.len
  have pos : 0 < S0.length := List.length_pos_of_mem hn
  have gl := Sk.get_of (show S0.length - 1 < S0.length by omega)
  have big : n ≤ S0.getD (S0.length - 1) 0 := by
    rw [← List.getLast?_eq_getElem?] at gl
    exact ((Sk.last_srt hs _).mp gl).2 n hn
  generalize S0.getD (S0.length - 1) 0 = x at gl big
  have tne : Sk.trail L.w L.h S0 x ≠ [] := fun z => by
    have := (Sk.trail_nil (w := L.w) (h := L.h) hw hs (n := x)).mp z
    have := Sk.bel_none.mp this n hn
    omega
  refine ⟨_, (pss_one (ps_try_thru0
    (pss_cons (ps_if (PW.pt (pw_or (pt_cmpR (k_eqD (K := K) rfl hr.units) (pe_meth (pv 0) T.lt.cl T.m_way G_way (hr.mono (by decide)) B_way .nil passL (pa_cons (pe_op o_sub (k_fld (K := K) rfl (pv 0) rfl) pe_int) pa_nil)) (pe_lst pa_nil) (nomark _)) (pw_or1 (pt_cmpR o_lt (pe_meth (pv 0) T.lt.cl T.m_at G_at (hr.mono (by decide)) B_at .nil passL (pa_cons (pe_op o_sub (k_fld (K := K) rfl (pv 0) rfl) pe_int) pa_nil)) (pv 1) (nomark _)))))
      (pss_one (ps_ret pe_bl))
      pss_nil)
    (pss_cons (ps_setLc (i := 2) (own := [("_law_level", 4)]) (g := gName 4) rfl S.nd rfl rfl (sw_true rfl rfl rfl (by decide +kernel)) (pi_range1 rfl T.z_range (pa_cons (pe_op o_add (k_fld (K := K) rfl (pv 0) rfl) pe_int) pa_nil)) (blkOk_by (N := N__law_is_there) (sc := defScope s__law_is_there) (by decide +kernel)) (fun _ _ _ _ _ => pg_name (i := 4) S.nd rfl (Or.inl rfl)) (fun _ _ _ _ _ => (pts_one (pt_cmpR (k_in (K := K) rfl) (pv 1) (pe_meth (pv 0) T.lt.cl T.m_level G_level (hr.mono (by decide)) B_level .nil passL (pa_cons (pv 4) pa_nil)) (by rfl)))) (fun _ _ _ _ _ => (pv 4)))
    (pss_cons (ps_setLc (i := 3) (own := [("_law_level", 4)]) (g := gName 4) (tt := tYes) rfl S.nd rfl rfl (sw_true rfl rfl rfl (by decide +kernel)) (k_iL (K := K) rfl (pv 2)) (blkOk_by (N := N__law_is_there) (sc := defScope s__law_is_there) (by decide +kernel)) (fun _ _ _ _ _ => pg_name (i := 4) S.nd rfl (Or.inl rfl)) (fun _ _ _ _ _ => pts_nil) (fun _ _ _ _ _ => (pe_meth (pv 0) T.lt.cl T.m_ahead G_ahead (hr.mono (by decide)) B_ahead .nil passL (pa_cons (pv 4) (pa_cons (pv 1) pa_nil)))))
    (pss_one (ps_ret (pe_and (pe_cmpR (k_neD (K := K) rfl hr.units) (pv 3) (pe_lst pa_nil) (nomark _)) (pe_one (pe_callB (c_all rfl) (by rfl) T.z_all (by decide +kernel) (pa_cons (pe_lc (own := [("_law_one", 5)]) (g := gName 5) (tt := tYes) (by rfl) S.nd (k_iL (K := K) rfl (pv 3)) (blkOk_by (N := N__law_is_there) (sc := defScope s__law_is_there) (by decide +kernel)) (fun _ _ _ _ _ => pg_name (i := 5) S.nd rfl (Or.inl rfl)) (fun _ _ _ _ _ => pts_nil) (fun _ _ _ _ _ => (pe_callB (k_isi (K := K) rfl) (by rfl) T.z_isinstance PyProof.Rows.boot_isinstance (pa_cons (pv 5) (pa_cons (pe_bltn (v := .ty "tuple") rfl T.z_tuple PyProof.Rows.boot_tuple rfl) pa_nil))))) pa_nil))))))))))), ?_⟩
  walk_at "gb"
  refine ⟨p, (S0.length : Int) - 1, L, S0, rfl, Ld, fun j y ej hy q H1 s1 nq tq => ?_, fun bad => absurd ⟨by omega, by omega⟩ bad⟩
  obtain rfl : j = S0.length - 1 := by omega
  rw [gl] at hy
  obtain rfl := Option.some.inj hy
  have Ld1 := Ld.same s1
  walk_at "gb"
  refine g_newL (by decide) fun nl H2 nn s2 e2 => ?_
  refine g_eqNil ((tq.same s2).dp sV_plain) (dp_nil (.of e2)) (sh_tups (k := 0) _) ?_
  rw [show ((((Sk.trail L.w L.h S0 x).map sV).map fun x => PyData.tuple (x.map vD)).isEmpty) = false by
    cases z : Sk.trail L.w L.h S0 x with
    | nil => exact absurd z tne
    | cons _ _ => rfl]
  have s12 := s1.trans s2
  have Ld2 := Ld.same s12
  have X2 := Ld2.toLadX
  walk_at "gb"
  refine ⟨p, (S0.length : Int) - 1, L, S0, rfl, Ld2, fun j y ej hy2 H3 s3 => ?_, fun bad => absurd ⟨by omega, by omega⟩ bad⟩
  obtain rfl : j = S0.length - 1 := by omega
  rw [gl] at hy2
  obtain rfl := Option.some.inj hy2
  have s13 := s12.trans s3
  have Ld3 := Ld.same s13
  have X3 := Ld3.toLadX
  walk_at "gb"
  rw [decide_eq_false (by omega)]
  walk_at "gb"
  refine g_rng (by omega) (by omega) ?_
  rw [show ((L.h : Int) + 1).toNat = L.h + 1 by omega]
  refine g_lcR (fun i => (((List.range i).filter fun l : Nat => decide (Sk.St (L.w ^ l) S0 n)).map fun l : Nat => (l : Int)).map V.int) rfl ?_ ?_
  · intro D i H' hD hi s4 e4
    have Ld4 := Ld3.same s4
    have X4 := Ld4.toLadX
    walk_at "gb"
    refine ⟨rfl, ?_⟩
    walk_at "gb"
    rw [Int.zero_add]
    refine ⟨p, (i : Int), L, S0, rfl, Ld4, fun l el hl r H5 nr s5 e5 => ?_, fun bad => absurd ⟨by omega, by omega⟩ bad⟩
    obtain rfl : l = i := by omega
    refine g_inI (.of e5) ?_
    have e45 := s5 _ _ e4
    have len : ((((List.range l).filter fun l : Nat => decide (Sk.St (L.w ^ l) S0 n)).map fun l : Nat => (l : Int)).map V.int).length ≤ 1000 := by
      rw [List.length_map, List.length_map]
      have := List.length_filter_le (fun l : Nat => decide (Sk.St (L.w ^ l) S0 n)) (List.range l)
      rw [List.length_range] at this
      omega
    have eo : (((List.range (l + 1)).filter fun l : Nat => decide (Sk.St (L.w ^ l) S0 n)).map fun l : Nat => (l : Int)).map V.int = (((List.range l).filter fun l : Nat => decide (Sk.St (L.w ^ l) S0 n)).map fun l : Nat => (l : Int)).map V.int ++ (if decide (Sk.St (L.w ^ l) S0 n) = true then [V.int (l : Int)] else []) := by
      rw [List.range_succ, List.filter_append, List.map_append, List.map_append]
      by_cases q : decide (Sk.St (L.w ^ l) S0 n) = true
      · rw [if_pos q, List.filter_cons, if_pos q]; rfl
      · rw [if_neg q, List.filter_cons, if_neg q]; rfl
    rw [show decide (n ∈ Sk.lv (L.w ^ l) S0) = decide (Sk.St (L.w ^ l) S0 n) by rw [decide_eq_decide]; exact Sk.lv_mem]
    walk_at "gb"
    refine g_ite (fun e => ?_) (fun e => ?_)
    · rw [if_pos e] at eo
      walk_at "gb"
      exact g_add1 hD (s4.trans s5) e45 len eo
    · rw [if_neg (by rw [e]; decide), List.append_nil] at eo
      exact g_skip1 (s4.trans s5) e45 eo
  intro lvl H4 nlv s4 e4
  have s14 := s13.trans s4
  have Ld4 := Ld.same s14
  have X4 := Ld4.toLadX
  have inl : ∀ {j : Nat} {z : Int}, (((List.range (L.h + 1)).filter fun l : Nat => decide (Sk.St (L.w ^ l) S0 n)).map fun l : Nat => (l : Int))[j]? = some z → ∃ l : Nat, z = (l : Int) ∧ l ≤ L.h ∧ Sk.St (L.w ^ l) S0 n := fun {j z} e => by
    obtain ⟨l, h1, rfl⟩ := map_get e
    have h2 := List.mem_filter.mp (List.mem_of_getElem? h1)
    exact ⟨l, rfl, by have := List.mem_range.mp h2.1; omega, of_decide_eq_true h2.2⟩
  have ne : 0 < (((List.range (L.h + 1)).filter fun l : Nat => decide (Sk.St (L.w ^ l) S0 n)).map fun l : Nat => (l : Int)).length := by
    rw [List.length_map]
    exact List.length_pos_of_mem (a := 0) (List.mem_filter.mpr ⟨List.mem_range.mpr (by omega), decide_eq_true (by rw [Int.pow_zero]; exact st_one.mpr hn)⟩)
  have le : (((List.range (L.h + 1)).filter fun l : Nat => decide (Sk.St (L.w ^ l) S0 n)).map fun l : Nat => (l : Int)).length ≤ 100 := by
    rw [List.length_map]
    have := List.length_filter_le (fun l : Nat => decide (Sk.St (L.w ^ l) S0 n)) (List.range (L.h + 1))
    rw [List.length_range] at this
    omega
  generalize (((List.range (L.h + 1)).filter fun l : Nat => decide (Sk.St (L.w ^ l) S0 n)).map fun l : Nat => (l : Int)) = ls at *
  walk_at "gb"
  refine g_lit (.of e4) ?_
  refine g_lcPL (.of e4) (fun j y H => ∃ t, y = V.ref t ∧ ∃ (o : Option Int) (g : Nat), H t = some (.tup [ov o, .int (g : Int)])) (fun j y H H' s ⟨t, h1, o, g, h2⟩ => ⟨t, h1, o, g, s _ _ h2⟩) (by rw [List.length_map]; omega) (fun D j y H' hD hj s5 ⟨ys, eD⟩ N hN => ?_) fun th H5 ys nth s5 e5 l5 f5 => ?_
  · obtain ⟨z, hz, rfl⟩ := map_get hj
    obtain ⟨l, rfl, hl, st⟩ := inl hz
    have Ld5 := Ld4.same s5
    have X5 := Ld5.toLadX
    walk_at "gb"
    refine ⟨rfl, ?_⟩
    walk_at "gb"
    refine ⟨p, (l : Int), n, L, S0, rfl, Ld5, fun l2 el2 _ _ t H6 nt s6 e6 => ?_, fun l2 el2 hl2 bad => ?_, fun bad => absurd ⟨by omega, by omega⟩ bad⟩
    · exact hN _ _ s6 ⟨t, rfl, _, _, off_at (Ne.symm (ne_of_none eD nt)) e6⟩
    · obtain rfl : l2 = l := by omega
      exact absurd st bad
  rw [List.length_map] at l5
  walk_at "gb"
  refine g_newL (by decide) fun nl2 H6 nn2 s6 e6 => ?_
  have all : ∀ {j : Nat} {y : V}, ys[j]? = some y → ∃ t xs, y = V.ref t ∧ H6 t = some (.tup xs) ∧ ∀ v ∈ xs, plainV v = true := fun {j y} e => by
    obtain ⟨t, h1, o, g, h2⟩ := f5 j y e
    refine ⟨t, _, h1, s6 _ _ (off_le _ _ h2), fun v hv => ?_⟩
    rcases List.mem_cons.mp hv with rfl | hv
    · exact plain_ov _
    · rw [List.mem_singleton.mp hv]; rfl
  obtain ⟨ds, dd, dl, dsh⟩ : ∃ ds, DpAll K H6 ys ds ∧ ds.length = ys.length ∧ ∀ d ∈ ds, Sh 1 d := by
    clear f5 e5
    revert all
    generalize ys = zs
    clear l5
    intro all
    induction zs with
    | nil => exact ⟨[], .nil, rfl, fun d hd => nomatch hd⟩
    | cons y r ih =>
      obtain ⟨ds, h1, h2, h3⟩ := ih fun {j y2} e => all (j := j + 1) (y := y2) (by rw [List.getElem?_cons_succ]; exact e)
      obtain ⟨t, xs, rfl, et, pl⟩ := all (j := 0) (y := y) rfl
      refine ⟨_ :: ds, .cons (dp_tup (.of et) pl) h1, by rw [List.length_cons, List.length_cons, h2], fun d hd => ?_⟩
      rcases List.mem_cons.mp hd with rfl | hd
      · exact sh_tup (k := 0) fun d hd => by
          obtain ⟨v, _, rfl⟩ := List.mem_map.mp hd
          exact sh_v v
      · exact h3 d hd
  refine g_neNil (.lst (.of (s6 _ _ e5)) dd) (dp_nil (.of e6)) (sh_lst (k := 1) dsh) ?_
  rw [show ds.isEmpty = false by
    cases ds with
    | nil => rw [← dl] at l5; simp at l5; omega
    | cons _ _ => rfl]
  walk_at "gb"
  refine g_lit (.of (s6 _ _ e5)) ?_
  refine g_lcTV (.of (s6 _ _ e5)) (by omega) (fun _ => rfl) (fun i y H' R hy s7 hR => ?_) fun D H7 nD s7 e7 => ?_
  · obtain ⟨t, xs, rfl, et, _⟩ := all hy
    walk_at "gb"
    refine g_isTup (s7 _ _ et) ?_
    exact hR
  walk_at "gb"
  refine g_all (.of e7) (by simp) ?_
  exact k _ (((s14.trans s5).trans s6).trans s7)
end
end Lk

namespace Lk
open PySem PySem.Spec PyProof.Rows L2
section
variable {P : Program} {w : World} {K : PySem.W.Frag} {mg : Str → Option Value} {base : Heap} {A : Ads}
theorem two_le {L : LS} (o : LOk L) : 2 ≤ L.w ^ L.h := by
  have w1 := o.w1
  have h1 := o.h1
  obtain ⟨d, e⟩ : ∃ d, L.h = d + 1 := ⟨L.h - 1, by omega⟩
  have hp : 0 < L.w ^ d := Int.pow_pos (by omega)
  rw [e, Int.pow_succ]
  have : 1 * 2 ≤ L.w ^ d * L.w := Int.mul_le_mul (by omega) w1 (by omega) (by omega)
  omega
theorem keepsF {L M : LS} {p f : Addr} {H H1 H2 : Hp} (k : Keeps L p H H1) (k2 : Keeps M f H1 H2) (fr : ∀ b, M.own f b → H b = none) : Keeps L p H H2 := fun b o e nb => k2 b o (k b o e nb) fun z => by rw [fr b z] at e; cases e
/-- two rows that a row falls into -/
structure Halves (S X Y : List Int) : Prop where
  sx : Sk.Srt X
  sy : Sk.Srt Y
  mem : ∀ x, x ∈ S ↔ x ∈ X ∨ x ∈ Y
  dis : ∀ x, x ∈ X → x ∉ Y
theorem Halves.swap {S X Y : List Int} (h : Halves S X Y) : Halves S Y X := ⟨h.sy, h.sx, fun x => (h.mem x).trans Or.comm, fun x hy hx => h.dis x hx hy⟩
theorem Halves.uni {S X Y : List Int} (h : Halves S X Y) (hs : Sk.Srt S) : Sk.uni X Y = S := Sk.srt_ext (Sk.srt_uni h.sx) hs fun x => by rw [Sk.mem_uni, h.mem x]
theorem Halves.len {S X Y : List Int} (h : Halves S X Y) (hs : Sk.Srt S) : X.length + Y.length = S.length := by
  have nd : (X ++ Y).Nodup := List.nodup_append.mpr ⟨Sk.srt_nodup h.sx, Sk.srt_nodup h.sy, fun a ha b hb q => h.dis a ha (q ▸ hb)⟩
  have a := nodup_len (m := S) nd fun x hx => (h.mem x).mpr (List.mem_append.mp hx)
  have b := nodup_len (m := X ++ Y) (Sk.srt_nodup hs) fun x hx => List.mem_append.mpr ((h.mem x).mp hx)
  rw [List.length_append] at a b
  omega
theorem stV_iff {S : List Int} {lo : Option Int} {x : Int} : x ∈ stV S lo 2 ↔ ∃ j, j ∈ stIx S.length lo 2 ∧ S[j]? = some x := List.mem_filterMap
theorem halves_eo {S : List Int} (hs : Sk.Srt S) : Halves S (stV S none 2) (stV S (some 1) 2) where
  sx := stV_srt (by decide) (fun i z => by cases z) hs
  sy := stV_srt (by decide) (fun i z => by cases z; decide) hs
  mem := fun x => by
    rw [stV_iff, stV_iff]
    constructor
    · intro hx
      obtain ⟨j, hj, rfl⟩ := List.mem_iff_getElem.mp hx
      rcases Nat.mod_two_eq_zero_or_one j with q | q
      · exact .inl ⟨j, st2_mem.1.mpr ⟨hj, q⟩, List.getElem?_eq_getElem hj⟩
      · exact .inr ⟨j, st2_mem.2.mpr ⟨hj, q⟩, List.getElem?_eq_getElem hj⟩
    · rintro (⟨j, _, e⟩ | ⟨j, _, e⟩) <;> exact List.mem_of_getElem? e
  dis := fun x hx hy => by
    obtain ⟨j, hj, ej⟩ := stV_iff.mp hx
    obtain ⟨k, hk, ek⟩ := stV_iff.mp hy
    have hj := (st2_mem.1.mp hj).2
    have hk := (st2_mem.2.mp hk).2
    rcases Nat.lt_trichotomy j k with q | q | q
    · have := Sk.get_lt hs ej ek q; omega
    · omega
    · have := Sk.get_lt hs ek ej q; omega
theorem halves_cut {S : List Int} (hs : Sk.Srt S) (i : Nat) : Halves S (S.drop i) (S.take i) where
  sx := hs.sublist (List.drop_sublist i S)
  sy := hs.sublist (List.take_sublist i S)
  mem := fun x => by
    have e := List.take_append_drop i S
    constructor
    · intro hx
      rw [← e] at hx
      exact (List.mem_append.mp hx).symm
    · rintro (h | h)
      · exact List.mem_of_mem_drop h
      · exact List.mem_of_mem_take h
  dis := fun x hx hy => by
    have e := List.take_append_drop i S
    rw [← e] at hs
    have := (List.pairwise_append.mp hs).2.2 x hy x hx
    omega
def sp__law_mated (C : Addr) : Sp := fun vs H Q _ => ∃ (p a : Addr) (L : LS) (S : List Int), vs = [.ref p, .ref a] ∧ Lad C H p L S ∧ H a = some (.lst (S.map V.int)) ∧ S.length ≤ 50 ∧ ¬ L.own p a ∧ ∀ H', Keeps L p H H' → Q (.bl true) H'
theorem ok__law_mated (T : Txt K mg A) : FO P w K mg base 8 A._law_mated ["_law_other", "_law_own"] (sp__law_mated A.Ladder) := by
  obtain ⟨fd__law_refused, G__law_refused, B__law_refused⟩ := ok__law_refused (P := P) (w := w) (base := base) T
  obtain ⟨fd_row, G_row, B_row⟩ := ok_row (P := P) (w := w) (base := base) T
  obtain ⟨fd__law_made, G__law_made, B__law_made⟩ := ok__law_made (P := P) (w := w) (base := base) T
  have S := sc__law_mated
  refine FO.mk' T.f__law_mated S b__law_mated (fun vs H Q E h => by obtain ⟨_, _, _, _, rfl, _⟩ := h; rfl) (fun cdv Ar outer s H vs Q E hr h => ?_)
  have hu := hu_of hr
  obtain ⟨p, a, L, S0, rfl, Ld, ea, hl, noa, k⟩ := h
  have X := Ld.toLadX
  have lt := T.lt
  have ok := Ld.ok
  have lim := two_le ok
  refine ⟨_, (pss_cons (ps_set (i := 2) S.nd rfl (Or.inl rfl) (pe_slice (k_slL (K := K) rfl) (pe_lc (own := [("_law_number_here", 3)]) (g := gName 3) (by rfl) S.nd (k_iT (K := K) rfl (pe_tup (pa_cons pe_int (pa_cons pe_int pa_nil)))) (blkOk_by (N := N__law_mated) (sc := defScope s__law_mated) (by decide +kernel)) (fun _ _ _ _ _ => pg_name (i := 3) S.nd rfl (Or.inl rfl)) (fun _ _ _ _ _ => (pts_one (pt_cmpR (k_nin (K := K) rfl) (pv 3) (pv 1) (by rfl)))) (fun _ _ _ _ _ => (pv 3))) po_none (po_some pe_int)))
  (pss_cons (ps_if (pt_cmpR op_ne (pe_call G__law_refused (hr.mono (by decide)) rfl T.g__law_refused T.k__law_refused B__law_refused .nil passL (pa_cons (pv 0) (pa_cons (pe_call G__law_made (hr.mono (by decide)) rfl T.g__law_made T.k__law_made B__law_made .nil passL (pa_cons (k_fld (K := K) rfl (pv 0) rfl) (pa_cons (k_fld (K := K) rfl (pv 0) rfl) (pa_cons (pv 2) pa_nil)))) pa_nil))) pe_int (nomark _))
    (pss_one (ps_ret pe_bl))
    pss_nil)
  (pss_one (ps_ret (pe_cmpR (k_eqD (K := K) rfl hr.units) (pe_meth0 (pv 0) T.lt.cl T.m_row G_row (hr.mono (by decide)) B_row .nil passL) (pe_callB (k_sorted (K := K) rfl) (by rfl) T.z_sorted (by decide +kernel) (pa_cons (pe_op op_cat (pv 1) (pv 2)) pa_nil)) (nomark _)))))), ?_⟩
  walk_at "gb"
  refine g_sl0 ?_
  walk_at "gb"
  refine g_iT0 ?_
  walk_at "gb"
  refine g_newT (by show 2 ≤ 1000; decide) fun t H1 nt s1 e1 => ?_
  replace e1 : H1 t = some (.tup ([0, 1].map V.int)) := e1
  refine g_iT (.of e1) ?_
  refine g_lcFT (p := fun z => !decide (z ∈ S0)) (.of e1) (by decide) (fun _ => rfl) (fun _ => rfl) (fun x H' R hx s hR => ?_) fun m0 H2 n2 s2 e2 => ?_
  · walk_at "gb"
    refine g_ninI (.of (s _ _ (s1 _ _ ea))) ?_
    walk_at "gb"
    exact hR
  refine g_noPart (g_part ?_)
  refine g_sliceX (.of e2) fun mo H3 n3 s3 e3 => ?_
  rw [cut_t1] at e3
  have hm0 : Sk.Srt ([0, 1].filter fun z => !decide (z ∈ S0)) := Sk.srt_filter (by decide) _
  have hms : Sk.Srt (([0, 1].filter fun z => !decide (z ∈ S0)).take 1) := hm0.sublist (List.take_sublist _ _)
  have hmm : ∀ z ∈ ([0, 1].filter fun z => !decide (z ∈ S0)).take 1, (z = 0 ∨ z = 1) ∧ z ∉ S0 := fun z hz => by
    obtain ⟨h1, h2⟩ := List.mem_filter.mp (List.mem_of_mem_take hz)
    simp only [List.mem_cons, List.not_mem_nil, or_false] at h1
    refine ⟨h1, fun q => ?_⟩
    rw [decide_eq_true q] at h2; cases h2
  have hml : (([0, 1].filter fun z => !decide (z ∈ S0)).take 1).length ≤ 1 := by rw [List.length_take]; omega
  generalize (([0, 1].filter fun z => !decide (z ∈ S0)).take 1) = more at *
  have s13 := (s1.trans s2).trans s3
  have Ld3 := Ld.same s13
  have X3 := Ld3.toLadX
  have nomo := own_no (Ld.same (s1.trans s2)).toLadX n3
  walk_at "gb"
  refine ⟨mo, L.w, L.h, more, rfl, e3, ok.w1, ok.w2, ok.h1, ok.h2, hms, fun z hz => by have := (hmm z hz).1; omega, fun z hz => by have := (hmm z hz).1; omega, by omega, fun f M H4 nf eMw eMh s4 fr Md => ?_⟩
  have Ld4 := Ld3.same s4
  walk_at "gb"
  refine ⟨p, f, L, M, S0, more, rfl, Ld4, Md, fun ne => absurd ⟨eMw.symm, eMh.symm⟩ ne, fun _ _ x hx hm => absurd hx (hmm x hm).2, fun _ _ _ => ⟨by omega, fun H5 kp5 Ld5 => ?_⟩⟩
  have X5 := Ld5.toLadX
  have ea5 := kp5 _ _ (s4 _ _ (s13 _ _ ea)) noa
  have em5 := kp5 _ _ (s4 _ _ e3) nomo
  walk_at "gb"
  rw [show decide ((0 : Int) = 0) = true from rfl]
  walk_at "gb"
  refine ⟨p, L, _, rfl, Ld5, fun q6 H6 n6 s6 e6 => ?_⟩
  walk_at "gb"
  refine g_cat (s6 _ _ ea5) (s6 _ _ em5) (by rw [List.length_map, List.length_map]; omega) fun q7 H7 n7 s7 e7 => ?_
  rw [← List.map_append] at e7
  walk_at "gb"
  refine g_sorted (S := Sk.uni S0 more) (.of e7) (List.nodup_append.mpr ⟨Sk.srt_nodup Ld.srt, Sk.srt_nodup hms, fun x hx y hy q => (hmm y hy).2 (q ▸ hx)⟩) (Sk.srt_uni Ld.srt) (fun x => by rw [List.mem_append, Sk.mem_uni]) fun q8 H8 n8 s8 e8 => ?_
  refine g_eqD (dp_ints (.of ((s7.trans s8) _ _ e6))) (dp_ints (.of e8)) (sh_ints (k := 0) _) ?_
  exact k _ (((Same.keeps (s13.trans s4)).trans kp5).same ((s6.trans s7).trans s8))
def sp__law_woven (K : PySem.W.Frag) : Sp := fun vs H Q _ => ∃ (a wh sz sp : Addr) (w : Int) (h : Nat) (S : List Int) (s0 s1 s2 : Int), vs = [.ref a, .ref wh, .ref sz, .ref sp] ∧ 2 ≤ w ∧ w ≤ 9 ∧ 1 ≤ h ∧ h ≤ 12 ∧ Sk.Srt S ∧ (∀ z ∈ S, 0 ≤ z) ∧ (∀ z ∈ S, z < w ^ h) ∧ S.length ≤ 100 ∧
  H a = some (.lst (S.map V.int)) ∧ H sz = some (.lst [.int w, .int (h : Int)]) ∧ H sp = some (.lst [.int s0, .int s1, .int s2]) ∧ 0 ≤ s1 ∧ s1 < w ^ h ∧ 0 ≤ s2 ∧ s2 < w ^ h ∧ Dp K H (.ref wh) (.list (toldD w h S s0 s1 s2)) ∧ ∀ H', Same H H' → Q (.bl true) H'
theorem ok__law_woven (T : Txt K mg A) : FO P w K mg base 7 A._law_woven ["_law_row", "_law_whole", "_law_size", "_law_spot"] (sp__law_woven K) := by
  obtain ⟨fd__law_made, G__law_made, B__law_made⟩ := ok__law_made (P := P) (w := w) (base := base) T
  obtain ⟨fd__law_told, G__law_told, B__law_told⟩ := ok__law_told (P := P) (w := w) (base := base) T
  obtain ⟨fd_poured, G_poured, B_poured⟩ := ok_poured (P := P) (w := w) (base := base) T
  have S := sc__law_woven
  refine FO.mk' T.f__law_woven S b__law_woven (fun vs H Q E h => by obtain ⟨_, _, _, _, _, _, _, _, _, _, rfl, _⟩ := h; rfl) (fun cdv Ar outer s H vs Q E hr h => ?_)
  have hu := hu_of hr
  obtain ⟨a, wh, sz, sp, wd, hh, S0, s0, s1, s2, rfl, w1, w2, h1, h2, hs, lo, hi, hl, ea, ez, es, a0, a1, b0, b1, dw, k⟩ := h
  have lt := T.lt
  refine ⟨_, (pss_cons (ps_set (i := 4) S.nd rfl (Or.inl rfl) (pe_lst (pa_cons (k_step (K := K) rfl (by decide) (pv 0) po_none) (pa_cons (k_step (K := K) rfl (by decide) (pv 0) (po_some pe_int)) pa_nil))))
  (pss_consC (ps_if (pt_cmpR op_eq (pe_op o_mod (pe_ix (k_ixL (K := K) rfl) (pv 3) pe_int (fun _ _ => rfl)) pe_int) pe_int (nomark _))
    (pss_one (ps_set (i := 4) S.nd rfl (Or.inl rfl) (pe_lst (pa_cons (k_step (K := K) rfl (by decide) (pv 0) (po_some pe_int)) (pa_cons (k_step (K := K) rfl (by decide) (pv 0) po_none) pa_nil)))))
    pss_nil)
  (pss_consC (ps_if (pt_cmpR op_eq (pe_op o_mod (pe_ix (k_ixL (K := K) rfl) (pv 3) pe_int (fun _ _ => rfl)) pe_int) pe_int (nomark _))
    (pss_one (ps_set (i := 4) S.nd rfl (Or.inl rfl) (pe_lst (pa_cons (pe_slice (k_slL (K := K) rfl) (pv 0) (po_some (pe_op o_div (pe_callB (k_len (K := K) rfl) (by rfl) T.z_len PySem.boot_len (pa_cons (pv 0) pa_nil)) pe_int)) po_none) (pa_cons (pe_slice (k_slL (K := K) rfl) (pv 0) po_none (po_some (pe_op o_div (pe_callB (k_len (K := K) rfl) (by rfl) T.z_len PySem.boot_len (pa_cons (pv 0) pa_nil)) pe_int))) pa_nil)))))
    pss_nil)
  (pss_cons (ps_set (i := 5) S.nd rfl (Or.inl rfl) (pe_call G__law_made (hr.mono (by decide)) rfl T.g__law_made T.k__law_made B__law_made .nil passL (pa_cons (pe_ix (k_ixL (K := K) rfl) (pv 2) pe_int (fun _ _ => rfl)) (pa_cons (pe_ix (k_ixL (K := K) rfl) (pv 2) pe_int (fun _ _ => rfl)) (pa_cons (pe_ix (k_ixL (K := K) rfl) (pv 4) pe_int (fun _ _ => rfl)) pa_nil)))))
  (pss_cons (ps_set (i := 6) S.nd rfl (Or.inl rfl) (pe_call G__law_made (hr.mono (by decide)) rfl T.g__law_made T.k__law_made B__law_made .nil passL (pa_cons (pe_ix (k_ixL (K := K) rfl) (pv 2) pe_int (fun _ _ => rfl)) (pa_cons (pe_ix (k_ixL (K := K) rfl) (pv 2) pe_int (fun _ _ => rfl)) (pa_cons (pe_ix (k_ixL (K := K) rfl) (pv 4) pe_int (fun _ _ => rfl)) pa_nil)))))
  (pss_cons (ps_set (i := 7) S.nd rfl (Or.inl rfl) (pe_call G__law_told (hr.mono (by decide)) rfl T.g__law_told T.k__law_told B__law_told .nil passL (pa_cons (pv 6) (pa_cons (pv 3) pa_nil))))
  (pss_one (ps_ret (pe_and (pe_cmpR o_isN (pe_call G_poured (hr.mono (by decide)) rfl T.g_poured T.k_poured B_poured .nil (passes_call (takes_of rfl rfl rfl rfl) (fun _ _ _ _ z => z)) (pa_cons (pv 5) (pa_cons (pv 6) pa_nil))) pe_non (nomark _)) (pe_and (pe_cmpR (k_eqD (K := K) rfl hr.units) (pe_call G__law_told (hr.mono (by decide)) rfl T.g__law_told T.k__law_told B__law_told .nil passL (pa_cons (pv 5) (pa_cons (pv 3) pa_nil))) (pv 1) (nomark _)) (pe_one (pe_cmpR (k_eqD (K := K) rfl hr.units) (pe_call G__law_told (hr.mono (by decide)) rfl T.g__law_told T.k__law_told B__law_told .nil passL (pa_cons (pv 6) (pa_cons (pv 3) pa_nil))) (pv 7) (nomark _))))))))))))), ?_⟩
  let J : L2.St → Hp → Prop := fun σ' H' => Same H H' ∧ ∃ (rw_ r0 r1 : Addr) (X Y : List Int), Halves S0 X Y ∧ H' rw_ = some (.lst [.ref r0, .ref r1]) ∧ H' r0 = some (.lst (X.map V.int)) ∧ H' r1 = some (.lst (Y.map V.int)) ∧ σ' = [some (.ref a), some (.ref wh), some (.ref sz), some (.ref sp), some (.ref rw_), none, none, none]
  walk_at "gb"
  refine g_step0 ?_
  walk_at "gb"
  refine g_noPart (g_stepI (.of ea) fun p1 H1 n1 t1 e1 => ?_)
  walk_at "gb"
  refine g_step0 ?_
  walk_at "gb"
  refine g_part (g_stepI (.of (t1 _ _ ea)) fun p2 H2 n2 t2 e2 => ?_)
  walk_at "gb"
  refine g_newL (by show 2 ≤ 1000; decide) fun rw_ H3 n3 t3 e3 => ?_
  have t13 := (t1.trans t2).trans t3
  have hal := halves_eo hs
  walk_at "gb"
  refine g_cut J (fun N hN => ?_) ?_
  · walk_at "gb"
    refine g_ixL (.of (t13 _ _ es)) (atI_c0 rfl) ?_
    walk_at "gb"
    refine g_ite (fun _ => ?_) (fun _ => ?_)
    · walk_at "gb"
      refine g_step0 ?_
      walk_at "gb"
      refine g_part (g_stepI (.of (t13 _ _ ea)) fun p4 H4 n4 t4 e4 => ?_)
      walk_at "gb"
      refine g_step0 ?_
      walk_at "gb"
      refine g_noPart (g_stepI (.of ((t13.trans t4) _ _ ea)) fun p5 H5 n5 t5 e5 => ?_)
      walk_at "gb"
      refine g_newL (by show 2 ≤ 1000; decide) fun rw2 H6 n6 t6 e6 => ?_
      walk_at "gb"
      exact hN _ _ ⟨((t13.trans t4).trans t5).trans t6, rw2, p4, p5, _, _, hal.swap, e6, (t5.trans t6) _ _ e4, t6 _ _ e5, rfl⟩
    · walk_at "gb"
      exact hN _ _ ⟨t13, rw_, p1, p2, _, _, hal, e3, (t2.trans t3) _ _ e1, t3 _ _ e2, rfl⟩
  rintro σ' H4 ⟨t4, rw4, r0, r1, X, Y, hal4, e4, er0, er1, rfl⟩
  walk_at "gb"
  refine g_cut J (fun N hN => ?_) ?_
  · walk_at "gb"
    refine g_ixL (.of (t4 _ _ es)) (atI_c0 rfl) ?_
    walk_at "gb"
    refine g_ite (fun _ => ?_) (fun _ => ?_)
    · obtain ⟨i, ei⟩ : ∃ i : Nat, (S0.length : Int) / 2 = (i : Int) := ⟨S0.length / 2, by omega⟩
      have hil : i ≤ S0.length := by omega
      walk_at "gb"
      refine g_sl0 ?_
      walk_at "gb"
      refine g_part0 ?_
      walk_at "gb"
      refine g_lenL (.of (t4 _ _ ea)) ?_
      walk_at "gb"
      rw [List.length_map, ei]
      refine g_partV (g_noPart (g_sliceX (.of (t4 _ _ ea)) fun p5 H5 n5 t5 e5 => ?_))
      rw [cut_from hil] at e5
      walk_at "gb"
      refine g_sl0 ?_
      walk_at "gb"
      refine g_noPart (g_part0 ?_)
      walk_at "gb"
      refine g_lenL (.of ((t4.trans t5) _ _ ea)) ?_
      walk_at "gb"
      rw [List.length_map, ei]
      refine g_partV (g_sliceX (.of ((t4.trans t5) _ _ ea)) fun p6 H6 n6 t6 e6 => ?_)
      rw [cut_to hil] at e6
      walk_at "gb"
      refine g_newL (by show 2 ≤ 1000; decide) fun rw2 H7 n7 t7 e7 => ?_
      walk_at "gb"
      exact hN _ _ ⟨((t4.trans t5).trans t6).trans t7, rw2, p5, p6, _, _, halves_cut hs i, e7, (t6.trans t7) _ _ e5, t7 _ _ e6, rfl⟩
    · walk_at "gb"
      exact hN _ _ ⟨t4, rw4, r0, r1, X, Y, hal4, e4, er0, er1, rfl⟩
  clear hal4 e4 er0 er1
  rintro σ' H5 ⟨t5, rw5, r0, r1, X, Y, hal5, e5, er0, er1, rfl⟩
  have hlen := hal5.len hs
  have inX : ∀ z ∈ X, z ∈ S0 := fun z hz => (hal5.mem z).mpr (.inl hz)
  have inY : ∀ z ∈ Y, z ∈ S0 := fun z hz => (hal5.mem z).mpr (.inr hz)
  walk_at "gb"
  refine g_ixL (.of (t5 _ _ ez)) (atI_c0 rfl) ?_
  walk_at "gb"
  refine g_ixL (.of (t5 _ _ ez)) (atI_c1 rfl) ?_
  walk_at "gb"
  refine g_ixL (.of e5) (atI_c0 rfl) ?_
  walk_at "gb"
  refine ⟨r0, wd, hh, X, rfl, er0, w1, w2, h1, h2, hal5.sx, fun z hz => lo z (inX z hz), fun z hz => hi z (inX z hz), by omega, fun f1 M1 H6 nf1 eM1w eM1h t6 fr1 Md1 => ?_⟩
  have t56 := t5.trans t6
  walk_at "gb"
  refine g_ixL (.of (t56 _ _ ez)) (atI_c0 rfl) ?_
  walk_at "gb"
  refine g_ixL (.of (t56 _ _ ez)) (atI_c1 rfl) ?_
  walk_at "gb"
  refine g_ixL (.of (t6 _ _ e5)) (atI_c1 rfl) ?_
  walk_at "gb"
  refine ⟨r1, wd, hh, Y, rfl, t6 _ _ er1, w1, w2, h1, h2, hal5.sy, fun z hz => lo z (inY z hz), fun z hz => hi z (inY z hz), by omega, fun f2 M2 H7 nf2 eM2w eM2h t7 fr2 Md2 => ?_⟩
  have t57 := t56.trans t7
  have dis : ∀ b, M2.own f2 b → ¬ M1.own f1 b := fun b z y => by
    obtain ⟨o, e⟩ := Md1.toLadX.there y
    rw [fr2 b z] at e; cases e
  have Md17 := Md1.same t7
  walk_at "gb"
  refine ⟨f2, sp, M2, Y, s0, s1, s2, M1.own f1, rfl, Md2, t57 _ _ es, a0, by rw [eM2w, eM2h]; exact a1, b0, by rw [eM2w, eM2h]; exact b1, zok_own Md17.toLadX, fun du H8 nd t8 dd => ?_⟩
  have Md18 := Md17.same t8
  have Md28 := Md2.same t8
  walk_at "gb"
  refine ⟨f1, f2, M1, M2, X, Y, rfl, Md18, Md28, fun ne => absurd ⟨eM1w.trans eM2w.symm, eM1h.trans eM2h.symm⟩ ne, fun _ _ x hx hy => absurd hy (hal5.dis x hx), fun _ _ _ => ⟨by omega, fun H9 kp9 Md19 => ?_⟩⟩
  rw [hal5.uni hs] at Md19
  have t79 : Same H H9 := keeps_fresh (t57.trans t8) kp9 fun b z => t5.free (fr1 b z)
  have Md29 := Md28.keep kp9 dis
  have dd9 : Dp K H9 (.ref du) (.list (toldD M2.w M2.h Y s0 s1 s2)) := Dp.mono (H := rst (M1.own f1) H8) (fun b o e => by
    obtain ⟨n, e⟩ := rst_inv e
    exact kp9 b o e n) _ _ dd
  walk_at "gb"
  rw [show decide (V.non = V.non) = true from rfl]
  walk_at "gb"
  refine ⟨f1, sp, M1, S0, s0, s1, s2, fun _ => False, rfl, Md19, t79 _ _ es, a0, by rw [eM1w, eM1h]; exact a1, b0, by rw [eM1w, eM1h]; exact b1, zok_none, fun q10 H10 n10 t10 d10 => ?_⟩
  rw [eM1w, eM1h] at d10
  have t710 := t79.trans t10
  walk_at "gb"
  refine g_eqD (Dp.mono rst_le _ _ d10) (Dp.mono t710 _ _ dw) told_sh ?_
  walk_at "gb"
  refine ⟨f2, sp, M2, Y, s0, s1, s2, fun _ => False, rfl, Md29.same t10, t710 _ _ es, a0, by rw [eM2w, eM2h]; exact a1, b0, by rw [eM2w, eM2h]; exact b1, zok_none, fun q11 H11 n11 t11 d11 => ?_⟩
  walk_at "gb"
  refine g_eqD (Dp.mono rst_le _ _ d11) (Dp.mono (t10.trans t11) _ _ dd9) told_sh ?_
  exact k _ (t710.trans t11)
def sp__law_half (C : Addr) : Sp := fun vs H Q _ => ∃ (p a sp : Addr) (L : LS) (S : List Int) (s0 s1 s2 : Int), vs = [.ref p, .ref a, .ref sp] ∧ Lad C H p L S ∧ H a = some (.lst (S.map V.int)) ∧ H sp = some (.lst [.int s0, .int s1, .int s2]) ∧ 0 ≤ s1 ∧ s1 < L.w ^ L.h ∧ 0 ≤ s2 ∧ s2 < L.w ^ L.h ∧ ∀ H', Same H H' → Q (.bl true) H'
theorem ok__law_half (T : Txt K mg A) : FO P w K mg base 8 A._law_half ["_law_ladder", "_law_row", "_law_spot"] (sp__law_half A.Ladder) := by
  obtain ⟨fd___init__, G___init__, B___init__⟩ := ok___init__ (P := P) (w := w) (base := base) T
  obtain ⟨fd_put, G_put, B_put⟩ := ok_put (P := P) (w := w) (base := base) T
  obtain ⟨fd__law_told, G__law_told, B__law_told⟩ := ok__law_told (P := P) (w := w) (base := base) T
  obtain ⟨fd__law_refused, G__law_refused, B__law_refused⟩ := ok__law_refused (P := P) (w := w) (base := base) T
  obtain ⟨fd_has, G_has, B_has⟩ := ok_has (P := P) (w := w) (base := base) T
  have S := sc__law_half
  refine FO.mk' T.f__law_half S b__law_half (fun vs H Q E h => by obtain ⟨_, _, _, _, _, _, _, _, rfl, _⟩ := h; rfl) (fun cdv Ar outer s H vs Q E hr h => ?_)
  have hu := hu_of hr
  obtain ⟨p, a, sp, L, S0, s0, s1, s2, rfl, Ld, ea, es, a0, a1, b0, b1, k⟩ := h
  have X := Ld.toLadX
  have lt := T.lt
  have ok := Ld.ok
  have lim := two_le ok
  have hl := Ld.len
  refine ⟨_, (pss_cons (ps_if (pt_cmpR (k_eqD (K := K) rfl hr.units) (pv 1) (pe_lst pa_nil) (nomark _))
    (pss_one (ps_ret pe_bl))
    pss_nil)
  (pss_cons (ps_set (i := 3) S.nd rfl (Or.inl rfl) (pe_make T.mk_Ladder G___init__ (hr.mono (by decide)) rfl T.g_Ladder B___init__ .nil (passes_call (takes_of rfl rfl rfl rfl) (fun _ _ _ _ z => z)) (pa_cons (k_fld (K := K) rfl (pv 0) rfl) (pa_cons (k_fld (K := K) rfl (pv 0) rfl) pa_nil))))
  (pss_cons (ps_expr (pe_meth (pv 3) T.lt.cl T.m_put G_put (hr.mono (by decide)) B_put .nil (passes_call (takes_of rfl rfl rfl rfl) (fun _ _ _ _ z => z)) (pa_cons (pe_ix (k_ixL (K := K) rfl) (pv 1) (pe_op o_mod (pe_ix (k_ixL (K := K) rfl) (pv 2) pe_int (fun _ _ => rfl)) (pe_callB (k_len (K := K) rfl) (by rfl) T.z_len PySem.boot_len (pa_cons (pv 1) pa_nil))) (fun _ _ => rfl)) pa_nil)))
  (pss_cons (ps_for (passes_of rfl) rfl (k_iL (K := K) rfl (pe_lst (pa_cons pe_int (pa_cons pe_int (pa_cons pe_int (pa_cons (pe_op o_div (k_fld (K := K) rfl (pv 0) rfl) pe_int) (pa_cons (pe_op o_sub (k_fld (K := K) rfl (pv 0) rfl) pe_int) (pa_cons (pe_op o_sub (k_fld (K := K) rfl (pv 0) rfl) pe_int) pa_nil)))))))) (pg_name (i := 4) S.nd rfl (Or.inl rfl))
    (pss_one (ps_if (PW.pt (pw_and (pt_cmpR o_lt (pv 4) (k_fld (K := K) rfl (pv 0) rfl) (nomark _)) (pw_and (pt_cmpR (k_nin (K := K) rfl) (pv 4) (pv 1) (by rfl)) (pw_and1 (pt_not (pt_val (pe_meth (pv 3) T.lt.cl T.m_has G_has (hr.mono (by decide)) B_has .nil (passes_call (takes_of rfl rfl rfl rfl) (fun _ _ _ _ z => z)) (pa_cons (pv 4) pa_nil))))))))
      (pss_one (ps_expr (pe_meth (pv 3) T.lt.cl T.m_put G_put (hr.mono (by decide)) B_put .nil (passes_call (takes_of rfl rfl rfl rfl) (fun _ _ _ _ z => z)) (pa_cons (pv 4) pa_nil))))
      pss_nil)))
  (pss_cons (ps_set (i := 5) S.nd rfl (Or.inl rfl) (pe_call G__law_told (hr.mono (by decide)) rfl T.g__law_told T.k__law_told B__law_told .nil passL (pa_cons (pv 0) (pa_cons (pv 2) pa_nil))))
  (pss_cons (ps_set (i := 6) S.nd rfl (Or.inl rfl) (pe_call G__law_told (hr.mono (by decide)) rfl T.g__law_told T.k__law_told B__law_told .nil passL (pa_cons (pv 3) (pa_cons (pv 2) pa_nil))))
  (pss_cons (ps_if (PW.pt (pw_or (pt_cmpR op_ne (pe_call G__law_refused (hr.mono (by decide)) rfl T.g__law_refused T.k__law_refused B__law_refused .nil passL (pa_cons (pv 0) (pa_cons (pv 3) pa_nil))) pe_int (nomark _)) (pw_or1 (pt_cmpR op_ne (pe_call G__law_refused (hr.mono (by decide)) rfl T.g__law_refused T.k__law_refused B__law_refused .nil passL (pa_cons (pv 3) (pa_cons (pv 0) pa_nil))) pe_int (nomark _)))))
    (pss_one (ps_ret pe_bl))
    pss_nil)
  (pss_one (ps_ret (pe_and (pe_cmpR (k_eqD (K := K) rfl hr.units) (pe_call G__law_told (hr.mono (by decide)) rfl T.g__law_told T.k__law_told B__law_told .nil passL (pa_cons (pv 0) (pa_cons (pv 2) pa_nil))) (pv 5) (nomark _)) (pe_one (pe_cmpR (k_eqD (K := K) rfl hr.units) (pe_call G__law_told (hr.mono (by decide)) rfl T.g__law_told T.k__law_told B__law_told .nil passL (pa_cons (pv 3) (pa_cons (pv 2) pa_nil))) (pv 6) (nomark _))))))))))))), ?_⟩
  walk_at "gb"
  refine g_newL (by decide) fun nl H1 nn t1 e1 => ?_
  refine g_eqNil (dp_ints (.of (t1 _ _ ea))) (dp_nil (.of e1)) (sh_ints (k := 0) _) ?_
  have Ld1 := Ld.same t1
  have X1 := Ld1.toLadX
  walk_at "gb"
  refine g_ite (fun _ => ?_) (fun e => ?_)
  · walk_at "gb"
    exact k _ t1
  have hne : 0 < S0.length := by
    cases S0 with
    | nil => cases e
    | cons x y => exact Nat.succ_pos _
  walk_at "gb"
  refine g_ladder ⟨ok.w1, ok.w2, by have := ok.h1; omega, by have := ok.h2; omega⟩ fun f M H2 nf eMw eMh Md t2 fr => ?_
  have eMh : M.h = L.h := by omega
  have elim : M.w ^ M.h = L.w ^ L.h := by rw [eMw, eMh]
  have t12 := t1.trans t2
  have Y2 := Md.toLadX
  walk_at "gb"
  refine g_ixL (.of (t12 _ _ es)) (atI_c0 rfl) ?_
  walk_at "gb"
  refine g_lenL (.of (t12 _ _ ea)) ?_
  walk_at "gb"
  rw [List.length_map]
  refine g_mod (by omega) ?_
  obtain ⟨j, ej⟩ : ∃ j : Nat, s0 % (S0.length : Int) = (j : Int) := ⟨(s0 % (S0.length : Int)).toNat, by
    have := Int.emod_nonneg s0 (show (S0.length : Int) ≠ 0 by omega)
    omega⟩
  have hj : j < S0.length := by
    have := Int.emod_lt_of_pos s0 (show (0 : Int) < (S0.length : Int) by omega)
    omega
  rw [ej]
  refine g_ixL (.of (t12 _ _ ea)) (atI_nat (get_map (List.getElem?_eq_getElem hj))) ?_
  have xm := List.getElem_mem hj
  generalize S0[j] = x0 at xm
  walk_at "gb"
  refine ⟨f, x0, M, _, rfl, Md, fun _ _ _ => ⟨by decide, fun t H3 kp3 nt tq Md3 => ?_⟩, fun z => absurd ⟨Ld.lo x0 xm, by rw [elim]; exact Ld.hi x0 xm⟩ z, fun _ _ q => nomatch q⟩
  have frH : ∀ b, M.own f b → H b = none := fun b z => t1.free (fr b z)
  have t3 : Same H H3 := keeps_fresh t12 kp3 frH
  have Ld3 := Ld.same t3
  have X3 := Ld3.toLadX
  walk_at "gb"
  refine g_newL (by show 6 ≤ 1000; decide) fun q4 H4 nq4 t4 e4 => ?_
  have noq : ¬ M.own f q4 := own_no Md3.toLadX nq4
  have ns : ∃ ns : List Int, [V.int 0, V.int 1, V.int 2, V.int (L.w ^ L.h / 2), V.int (L.w ^ L.h - 2), V.int (L.w ^ L.h - 1)] = ns.map V.int ∧ ns.length = 6 ∧ ∀ z ∈ ns, 0 ≤ z := ⟨[0, 1, 2, L.w ^ L.h / 2, L.w ^ L.h - 2, L.w ^ L.h - 1], rfl, rfl, fun z hz => by
    simp only [List.mem_cons, List.not_mem_nil, or_false] at hz
    omega⟩
  obtain ⟨ns, ens, lns, pns⟩ := ns
  rw [ens] at e4
  refine g_lit (.of e4) ?_
  refine for_list (K := K) (a := q4) (xs := ns.map V.int) (fun i σ H' => Same H H' ∧ H' q4 = some (.lst (ns.map V.int)) ∧ (∃ R : List Int, Lad A.Ladder H' f M R ∧ x0 ∈ R ∧ R.length ≤ 1 + i) ∧ ∃ v4 : Option V, σ = [some (.ref p), some (.ref a), some (.ref sp), some (.ref f), v4, none, none])
    ⟨t3.trans t4, e4, ⟨_, Md3.same t4, Sk.mem_ins.mpr (.inl rfl), Nat.le_refl _⟩, none, rfl⟩ (fun i σ H' _ ⟨_, e, _⟩ => .of e) ?_ ?_
  · rintro i x σ H' hi ⟨t5, e5, ⟨R, MdR, x0R, lR⟩, v4, rfl⟩
    obtain ⟨n, hn, rfl⟩ := map_get hi
    have hil := Sk.lt_of_get hn
    have n0 := pns n (List.mem_of_getElem? hn)
    have Ld5 := Ld.same t5
    have X5 := Ld5.toLadX
    have Y5 := MdR.toLadX
    have stay : ∀ {v5 : Option V}, v5 = some (.int n) → Same H H' ∧ H' q4 = some (.lst (ns.map V.int)) ∧ (∃ R : List Int, Lad A.Ladder H' f M R ∧ x0 ∈ R ∧ R.length ≤ 1 + (i + 1)) ∧ ∃ v4 : Option V, ([some (.ref p), some (.ref a), some (.ref sp), some (.ref f), v5, none, none] : L2.St) = [some (.ref p), some (.ref a), some (.ref sp), some (.ref f), v4, none, none] := fun _ => ⟨t5, e5, ⟨R, MdR, x0R, by omega⟩, _, rfl⟩
    walk_at "gb"
    refine g_ite (fun e => ?_) (fun _ => ?_)
    · have nlim := of_decide_eq_true e
      walk_at "gb"
      refine g_ninI (.of (t5 _ _ ea)) ?_
      walk_at "gb"
      refine g_ite (fun _ => ?_) (fun _ => ?_)
      · walk_at "gb"
        refine ⟨f, n, M, R, rfl, MdR, fun _ _ => ?_, fun z => absurd ⟨n0, by rw [elim]; exact nlim⟩ z⟩
        walk_at "gb"
        refine g_ite (fun e => ?_) (fun _ => ?_)
        · have nR : n ∉ R := fun q => by rw [decide_eq_true q] at e; cases e
          walk_at "gb"
          refine ⟨f, n, M, R, rfl, MdR, fun _ _ _ => ⟨by omega, fun t H6 kp6 nt tq Md6 => ?_⟩, fun z => absurd ⟨n0, by rw [elim]; exact nlim⟩ z, fun _ _ q => absurd q nR⟩
          walk_at "gb"
          exact ⟨keeps_fresh t5 kp6 frH, kp6 _ _ e5 noq, ⟨_, Md6, Sk.mem_ins.mpr (.inr x0R), by rw [Sk.len_ins MdR.srt nR]; omega⟩, _, rfl⟩
        · walk_at "gb"
          exact stay rfl
      · walk_at "gb"
        exact stay rfl
    · walk_at "gb"
      exact stay rfl
  rintro σ H5 ⟨t5, _, ⟨R, MdR, x0R, lR⟩, v4, rfl⟩
  rw [List.length_map, lns] at lR
  have Ld5 := Ld.same t5
  have es5 := t5 _ _ es
  have a1' : s1 < M.w ^ M.h := by rw [elim]; exact a1
  have b1' : s2 < M.w ^ M.h := by rw [elim]; exact b1
  walk_at "gb"
  refine ⟨p, sp, L, S0, s0, s1, s2, fun _ => False, rfl, Ld5, es5, a0, a1, b0, b1, zok_none, fun wh H6 n6 t6 d6 => ?_⟩
  have d6 := Dp.mono rst_le _ _ d6
  walk_at "gb"
  refine ⟨f, sp, M, R, s0, s1, s2, fun _ => False, rfl, MdR.same t6, t6 _ _ es5, a0, a1', b0, b1', zok_none, fun du H7 n7 t7 d7 => ?_⟩
  have d7 := Dp.mono rst_le _ _ d7
  have t57 := t6.trans t7
  walk_at "gb"
  refine ⟨p, f, L, M, S0, R, rfl, Ld5.same t57, MdR.same t57, fun ne => absurd ⟨eMw.symm, eMh.symm⟩ ne, fun _ _ _ _ _ H8 t8 => ?_, fun _ _ d => absurd x0R (d x0 xm)⟩
  have t58 := t57.trans t8
  walk_at "gb"
  rw [show decide ((2 : Int) = 2) = true from rfl]
  walk_at "gb"
  refine ⟨f, p, M, L, R, S0, rfl, MdR.same t58, Ld5.same t58, fun ne => absurd ⟨eMw, eMh⟩ ne, fun _ _ _ _ _ H9 t9 => ?_, fun _ _ d => absurd xm (d x0 x0R)⟩
  have t59 := t58.trans t9
  walk_at "gb"
  rw [show decide ((2 : Int) = 2) = true from rfl]
  walk_at "gb"
  refine ⟨p, sp, L, S0, s0, s1, s2, fun _ => False, rfl, Ld5.same t59, t59 _ _ es5, a0, a1, b0, b1, zok_none, fun q10 H10 n10 t10 d10 => ?_⟩
  have d10 := Dp.mono rst_le _ _ d10
  walk_at "gb"
  refine g_eqD d10 (Dp.mono (((t7.trans t8).trans t9).trans t10) _ _ d6) told_sh ?_
  walk_at "gb"
  refine ⟨f, sp, M, R, s0, s1, s2, fun _ => False, rfl, (MdR.same t59).same t10, (t59.trans t10) _ _ es5, a0, a1', b0, b1', zok_none, fun q11 H11 n11 t11 d11 => ?_⟩
  have d11 := Dp.mono rst_le _ _ d11
  walk_at "gb"
  refine g_eqD d11 (Dp.mono (((t8.trans t9).trans t10).trans t11) _ _ d7) told_sh ?_
  exact k _ (((t5.trans t59).trans t10).trans t11)
end
end Lk

namespace Lk
open PySem PySem.Spec PyProof.Rows L2
section
variable {P : Program} {w : World} {K : PySem.W.Frag} {mg : Str → Option Value} {base : Heap} {A : Ads}
theorem putT_to {L M : LS} {S : List Int} {n : Int} (ew : M.w = L.w) (eh : M.h = L.h) : putT M S n (M.h + 1) = putT L S n (L.h + 1) := by
  unfold putT
  rw [ew, eh]
theorem takeT_to {L M : LS} {S : List Int} {n : Int} (ew : M.w = L.w) (eh : M.h = L.h) : takeT M S n (M.h + 1) = takeT L S n (L.h + 1) := by
  unfold takeT
  rw [ew, eh]
theorem putT_plain {L : LS} {S : List Int} {n : Int} {i : Nat} : ∀ x ∈ putT L S n i, ∀ v ∈ x, plainV v = true := by
  intro x hx v hv
  obtain ⟨l, _, rfl⟩ := List.mem_map.mp hx
  simp only [List.mem_cons, List.not_mem_nil, or_false] at hv
  rcases hv with rfl | rfl | rfl
  all_goals first | rfl | exact plain_ov _
theorem takeT_plain {L : LS} {S : List Int} {n : Int} {i : Nat} : ∀ x ∈ takeT L S n i, ∀ v ∈ x, plainV v = true := by
  intro x hx v hv
  obtain ⟨l, _, rfl⟩ := List.mem_map.mp hx
  simp only [List.mem_cons, List.not_mem_nil, or_false] at hv
  rcases hv with rfl | rfl | rfl
  all_goals first | rfl | exact plain_ov _
/-- a row with a number in it, whether it was there or not -/
def insA (S : List Int) (n : Int) : List Int := if n ∈ S then S else Sk.ins S n
theorem insA_mem {S : List Int} {n x : Int} : x ∈ insA S n ↔ x = n ∨ x ∈ S := by
  unfold insA
  split
  · rename_i h; exact ⟨.inr, fun z => z.elim (fun z => z ▸ h) id⟩
  · exact Sk.mem_ins
theorem insA_srt {S : List Int} (h : Sk.Srt S) (n : Int) : Sk.Srt (insA S n) := by
  unfold insA
  split
  · exact h
  · exact Sk.srt_ins h n
theorem own_dis {C f p : Addr} {M L : LS} {H : Hp} {S : List Int} (x : Lad C H p L S) (fr : ∀ b, M.own f b → H b = none) : ∀ b, M.own f b → ¬ L.own p b := fun b z y => by
  obtain ⟨o, e⟩ := x.toLadX.there y
  rw [fr b z] at e; cases e
def sp__law_again (C : Addr) : Sp := fun vs H Q _ => ∃ (p a sp : Addr) (L : LS) (S : List Int) (s0 s1 s2 : Int), vs = [.ref p, .ref a, .ref sp] ∧ Lad C H p L S ∧ S.length ≤ 99 ∧ H a = some (.lst (S.map V.int)) ∧ H sp = some (.lst [.int s0, .int s1, .int s2]) ∧ 0 ≤ s1 ∧ s1 < L.w ^ L.h ∧ 0 ≤ s2 ∧ s2 < L.w ^ L.h ∧ ¬ L.own p a ∧ ¬ L.own p sp ∧
  ∀ H', Keeps L p H H' → Q (.bl true) H'
theorem ok__law_again (T : Txt K mg A) : FO P w K mg base 7 A._law_again ["_law_ladder", "_law_row", "_law_spot"] (sp__law_again A.Ladder) := by
  obtain ⟨fd__law_made, G__law_made, B__law_made⟩ := ok__law_made (P := P) (w := w) (base := base) T
  obtain ⟨fd_cut, G_cut, B_cut⟩ := ok_cut (P := P) (w := w) (base := base) T
  obtain ⟨fd_put, G_put, B_put⟩ := ok_put (P := P) (w := w) (base := base) T
  obtain ⟨fd__law_ends, G__law_ends, B__law_ends⟩ := ok__law_ends (P := P) (w := w) (base := base) T
  obtain ⟨fd__law_told, G__law_told, B__law_told⟩ := ok__law_told (P := P) (w := w) (base := base) T
  have S := sc__law_again
  refine FO.mk' T.f__law_again S b__law_again (fun vs H Q E h => by obtain ⟨_, _, _, _, _, _, _, _, rfl, _⟩ := h; rfl) (fun cdv Ar outer s H vs Q E hr h => ?_)
  have hu := hu_of hr
  obtain ⟨p, a, sp, L, S0, s0, s1, s2, rfl, Ld, hl, ea, es, a0, a1, b0, b1, noa, nos, k⟩ := h
  have X := Ld.toLadX
  have lt := T.lt
  have ok := Ld.ok
  have hs := Ld.srt
  refine ⟨_, (pss_cons (ps_set (i := 3) S.nd rfl (Or.inl rfl) (pe_call G__law_made (hr.mono (by decide)) rfl T.g__law_made T.k__law_made B__law_made .nil passL (pa_cons (k_fld (K := K) rfl (pv 0) rfl) (pa_cons (k_fld (K := K) rfl (pv 0) rfl) (pa_cons (pv 1) pa_nil)))))
  (pss_cons (ps_if (PW.pt (pw_and (pt_cmpR (k_nin (K := K) rfl) (pe_ix (k_ixL (K := K) rfl) (pv 2) pe_int (fun _ _ => rfl)) (pv 1) (by rfl)) (pw_and1 (pt_cmpR (k_neD (K := K) rfl hr.units) (pe_meth (pv 0) T.lt.cl T.m_put G_put (hr.mono (by decide)) B_put .nil (passes_call (takes_of rfl rfl rfl rfl) (fun _ _ _ _ z => z)) (pa_cons (pe_ix (k_ixL (K := K) rfl) (pv 2) pe_int (fun _ _ => rfl)) pa_nil)) (pe_meth (pv 3) T.lt.cl T.m_put G_put (hr.mono (by decide)) B_put .nil (passes_call (takes_of rfl rfl rfl rfl) (fun _ _ _ _ z => z)) (pa_cons (pe_ix (k_ixL (K := K) rfl) (pv 2) pe_int (fun _ _ => rfl)) pa_nil)) (nomark _)))))
    (pss_one (ps_ret pe_bl))
    pss_nil)
  (pss_cons (ps_set (i := 1) S.nd rfl (Or.inl rfl) (pe_callB (k_sorted (K := K) rfl) (by rfl) T.z_sorted (by decide +kernel) (pa_cons (pe_op op_cat (pe_lc (own := [("_law_number_here", 7)]) (g := gName 7) (by rfl) S.nd (k_iL (K := K) rfl (pv 1)) (blkOk_by (N := N__law_again) (sc := defScope s__law_again) (by decide +kernel)) (fun _ _ _ _ _ => pg_name (i := 7) S.nd rfl (Or.inl rfl)) (fun _ _ _ _ _ => (pts_one (pt_cmpR op_ne (pv 7) (pe_ix (k_ixL (K := K) rfl) (pv 2) pe_int (fun _ _ => rfl)) (nomark _)))) (fun _ _ _ _ _ => (pv 7))) (pe_lst (pa_cons (pe_ix (k_ixL (K := K) rfl) (pv 2) pe_int (fun _ _ => rfl)) pa_nil))) pa_nil)))
  (pss_cons (ps_set (i := 4) S.nd rfl (Or.inl rfl) (pe_call G_cut (hr.mono (by decide)) rfl T.g_cut T.k_cut B_cut .nil (passes_call (takes_of rfl rfl rfl rfl) (fun _ _ _ _ z => z)) (pa_cons (pv 0) (pa_cons (pe_ix (k_ixL (K := K) rfl) (pv 2) pe_int (fun _ _ => rfl)) pa_nil))))
  (pss_cons (ps_set (i := 5) S.nd rfl (Or.inl rfl) (pe_call G__law_made (hr.mono (by decide)) rfl T.g__law_made T.k__law_made B__law_made .nil passL (pa_cons (k_fld (K := K) rfl (pv 0) rfl) (pa_cons (k_fld (K := K) rfl (pv 0) rfl) (pa_cons (pe_lc (own := [("_law_number_here", 7)]) (g := gName 7) (by rfl) S.nd (k_iL (K := K) rfl (pv 1)) (blkOk_by (N := N__law_again) (sc := defScope s__law_again) (by decide +kernel)) (fun _ _ _ _ _ => pg_name (i := 7) S.nd rfl (Or.inl rfl)) (fun _ _ _ _ _ => (pts_one (pt_cmpR o_lt (pv 7) (pe_ix (k_ixL (K := K) rfl) (pv 2) pe_int (fun _ _ => rfl)) (nomark _)))) (fun _ _ _ _ _ => (pv 7))) pa_nil)))))
  (pss_cons (ps_set (i := 6) S.nd rfl (Or.inl rfl) (pe_call G__law_made (hr.mono (by decide)) rfl T.g__law_made T.k__law_made B__law_made .nil passL (pa_cons (k_fld (K := K) rfl (pv 0) rfl) (pa_cons (k_fld (K := K) rfl (pv 0) rfl) (pa_cons (pe_lc (own := [("_law_number_here", 7)]) (g := gName 7) (by rfl) S.nd (k_iL (K := K) rfl (pv 1)) (blkOk_by (N := N__law_again) (sc := defScope s__law_again) (by decide +kernel)) (fun _ _ _ _ _ => pg_name (i := 7) S.nd rfl (Or.inl rfl)) (fun _ _ _ _ _ => (pts_one (pt_cmpR o_ge (pv 7) (pe_ix (k_ixL (K := K) rfl) (pv 2) pe_int (fun _ _ => rfl)) (nomark _)))) (fun _ _ _ _ _ => (pv 7))) pa_nil)))))
  (pss_cons (ps_if (PW.pt (pw_or (pt_not (pt_val (pe_call G__law_ends (hr.mono (by decide)) rfl T.g__law_ends T.k__law_ends B__law_ends .nil passL (pa_cons (pv 0) (pa_cons (pe_ix (k_ixL (K := K) rfl) (pv 2) pe_int (fun _ _ => rfl)) pa_nil))))) (pw_or1 (pt_not (pt_val (pe_call G__law_ends (hr.mono (by decide)) rfl T.g__law_ends T.k__law_ends B__law_ends .nil passL (pa_cons (pv 4) (pa_cons (pe_op o_sub (pe_ix (k_ixL (K := K) rfl) (pv 2) pe_int (fun _ _ => rfl)) pe_int) pa_nil))))))))
    (pss_one (ps_ret pe_bl))
    pss_nil)
  (pss_one (ps_ret (pe_and (pe_cmpR (k_eqD (K := K) rfl hr.units) (pe_call G__law_told (hr.mono (by decide)) rfl T.g__law_told T.k__law_told B__law_told .nil passL (pa_cons (pv 0) (pa_cons (pv 2) pa_nil))) (pe_call G__law_told (hr.mono (by decide)) rfl T.g__law_told T.k__law_told B__law_told .nil passL (pa_cons (pv 5) (pa_cons (pv 2) pa_nil))) (nomark _)) (pe_one (pe_cmpR (k_eqD (K := K) rfl hr.units) (pe_call G__law_told (hr.mono (by decide)) rfl T.g__law_told T.k__law_told B__law_told .nil passL (pa_cons (pv 4) (pa_cons (pv 2) pa_nil))) (pe_call G__law_told (hr.mono (by decide)) rfl T.g__law_told T.k__law_told B__law_told .nil passL (pa_cons (pv 6) (pa_cons (pv 2) pa_nil))) (nomark _))))))))))))), ?_⟩
  walk_at "gb"
  refine ⟨a, L.w, L.h, S0, rfl, ea, ok.w1, ok.w2, ok.h1, ok.h2, hs, Ld.lo, Ld.hi, by omega, fun f M H1 nf eMw eMh t1 fr Md => ?_⟩
  have elim : M.w ^ M.h = L.w ^ L.h := by rw [eMw, eMh]
  have Ld1 := Ld.same t1
  have X1 := Ld1.toLadX
  have dis := own_dis Ld fr
  have dis2 : ∀ b, L.own p b → ¬ M.own f b := fun b y z => dis b z y
  have nfa : ¬ M.own f a := fun z => by rw [fr a z] at ea; cases ea
  have nfs : ¬ M.own f sp := fun z => by rw [fr sp z] at es; cases es
  walk_at "gw"
  refine g_ifP false (fun H3 => Keeps L p H H3 ∧ Lad A.Ladder H3 p L (insA S0 s2) ∧ (insA S0 s2).length ≤ 100) (fun R hR => ?_) (fun z => nomatch z) (fun _ H3 ⟨kp3, Ld3, l3⟩ => ?_)
  · walk_at "gb"
    refine g_ixL (.of (t1 _ _ es)) (atI_c2 rfl) ?_
    walk_at "gb"
    refine g_ninI (.of (t1 _ _ ea)) ?_
    by_cases hn : s2 ∈ S0
    · rw [decide_eq_true hn]
      walk_at "gb"
      refine hR _ ⟨Same.keeps t1, ?_, ?_⟩
      · unfold insA; rw [if_pos hn]; exact Ld1
      · unfold insA; rw [if_pos hn]; omega
    · rw [decide_eq_false hn]
      walk_at "gb"
      refine g_ixL (.of (t1 _ _ es)) (atI_c2 rfl) ?_
      walk_at "gb"
      refine ⟨p, s2, L, S0, rfl, Ld1, fun _ _ _ => ⟨hl, fun u1 H2 kp2 nu1 tu1 Ld2 => ?_⟩, fun z => absurd ⟨b0, b1⟩ z, fun _ _ q => absurd q hn⟩
      have Md2 := Md.keep kp2 dis
      have Y2 := Md2.toLadX
      have nf1 : ¬ M.own f u1 := own_no Md.toLadX nu1
      walk_at "gb"
      refine g_ixL (.of (kp2 _ _ (t1 _ _ es) nos)) (atI_c2 rfl) ?_
      walk_at "gb"
      refine ⟨f, s2, M, S0, rfl, Md2, fun _ _ _ => ⟨hl, fun u2 H3 kp3 nu2 tu2 Md3 => ?_⟩, fun z => absurd ⟨b0, by rw [elim]; exact b1⟩ z, fun _ _ q => absurd q hn⟩
      rw [putT_to eMw eMh] at tu2
      refine g_neD ((tu1.keep Y2 nf1 kp3).dp putT_plain) (tu2.dp putT_plain) (sh_tups (k := 0) _) ?_
      walk_at "gb"
      refine hR _ ⟨keepsF ((Same.keeps t1).trans kp2) kp3 fr, ?_, ?_⟩
      · unfold insA; rw [if_neg hn]; exact Ld2.keep kp3 dis2
      · unfold insA; rw [if_neg hn, Sk.len_ins hs hn]; omega
  have ea3 := kp3 _ _ ea noa
  have es3 := kp3 _ _ es nos
  have hs3 := Ld3.srt
  have X3 := Ld3.toLadX
  walk_at "gb"
  refine g_lit (.of ea3) ?_
  refine g_lcF (p := fun z => !decide (z = s2)) (.of ea3) (by omega) (fun _ => rfl) (fun _ => rfl) (fun x H' R hx s hR => ?_) fun q4 H4 n4 t4 e4 => ?_
  · walk_at "gb"
    refine g_ixL (.of (s _ _ es3)) (atI_c2 rfl) ?_
    walk_at "gb"
    exact hR
  have fl : (S0.filter fun z => !decide (z = s2)).length ≤ 99 := Nat.le_trans (List.length_filter_le _ _) hl
  walk_at "gb"
  refine g_ixL (.of (t4 _ _ es3)) (atI_c2 rfl) ?_
  walk_at "gb"
  refine g_newL (by show 1 ≤ 1000; decide) fun q5 H5 n5 t5 e5 => ?_
  walk_at "gb"
  refine g_cat (ys := [s2].map V.int) (t5 _ _ e4) e5 (by rw [List.length_map]; show _ + 1 ≤ 1000; omega) fun q6 H6 n6 t6 e6 => ?_
  rw [← List.map_append] at e6
  walk_at "gb"
  refine g_sorted (S := insA S0 s2) (.of e6) (List.nodup_append.mpr ⟨(Sk.srt_nodup hs).filter _, List.nodup_cons.mpr ⟨List.not_mem_nil, .nil⟩, fun x hx y hy q => by
      rw [List.mem_singleton] at hy
      have := (List.mem_filter.mp hx).2
      rw [q, hy, decide_eq_true rfl] at this; cases this⟩) hs3 (fun x => by
    rw [List.mem_append, List.mem_filter, List.mem_singleton, insA_mem]
    constructor
    · rintro (⟨h, _⟩ | h)
      · exact .inr h
      · exact .inl h
    · rintro (h | h)
      · exact .inr h
      · by_cases q : x = s2
        · exact .inr q
        · exact .inl ⟨h, by rw [decide_eq_false q]; rfl⟩) fun r7 H7 n7 t7 e7 => ?_
  have t37 := ((t4.trans t5).trans t6).trans t7
  have nor7 : ¬ L.own p r7 := own_no (Ld3.same ((t4.trans t5).trans t6)).toLadX n7
  have Ld7 := Ld3.same t37
  have X7 := Ld7.toLadX
  have es7 := t37 _ _ es3
  walk_at "gb"
  refine g_ixL (.of es7) (atI_c1 rfl) ?_
  walk_at "gb"
  refine ⟨p, s1, L, _, rfl, Ld7, fun bad => absurd ⟨a0, Int.le_of_lt a1⟩ bad, fun _ _ g N H8 ng eNw eNh kp8 frN Nd8 Ld8 => ?_⟩
  have X8 := Ld8.toLadX
  have r8 := kp8 _ _ e7 nor7
  have es8 := kp8 _ _ es7 nos
  have sub : ∀ (q : Int → Bool), Sk.Srt ((insA S0 s2).filter q) ∧ (∀ z ∈ (insA S0 s2).filter q, 0 ≤ z) ∧ (∀ z ∈ (insA S0 s2).filter q, z < L.w ^ L.h) ∧ ((insA S0 s2).filter q).length ≤ 100 := fun q =>
    ⟨Sk.srt_filter hs3 q, fun z hz => Ld3.lo z (List.mem_filter.mp hz).1, fun z hz => Ld3.hi z (List.mem_filter.mp hz).1, Nat.le_trans (List.length_filter_le _ _) l3⟩
  have g1 := sub fun z => decide (z < s1)
  have g2 := sub fun z => decide (s1 ≤ z)
  walk_at "gb"
  refine g_lit (.of r8) ?_
  refine g_lcF (p := fun z => decide (z < s1)) (.of r8) (by omega) (fun _ => rfl) (fun _ => rfl) (fun x H' R hx s hR => ?_) fun q9 H9 n9 t9 e9 => ?_
  · walk_at "gb"
    refine g_ixL (.of (s _ _ es8)) (atI_c1 rfl) ?_
    walk_at "gb"
    exact hR
  walk_at "gb"
  refine ⟨q9, L.w, L.h, _, rfl, e9, ok.w1, ok.w2, ok.h1, ok.h2, g1.1, g1.2.1, g1.2.2.1, g1.2.2.2, fun lo M1 H10 _ e1w e1h t10 _ Md1 => ?_⟩
  have t810 := t9.trans t10
  have X10 := (Ld8.same t810).toLadX
  walk_at "gb"
  refine g_lit (.of (t810 _ _ r8)) ?_
  refine g_lcF (p := fun z => decide (s1 ≤ z)) (.of (t810 _ _ r8)) (by omega) (fun _ => rfl) (fun _ => rfl) (fun x H' R hx s hR => ?_) fun q11 H11 n11 t11 e11 => ?_
  · walk_at "gb"
    refine g_ixL (.of (s _ _ (t810 _ _ es8))) (atI_c1 rfl) ?_
    walk_at "gb"
    exact hR
  walk_at "gb"
  refine ⟨q11, L.w, L.h, _, rfl, e11, ok.w1, ok.w2, ok.h1, ok.h2, g2.1, g2.2.1, g2.2.2.1, g2.2.2.2, fun hi M2 H12 _ e2w e2h t12 _ Md2 => ?_⟩
  have t812 := (t810.trans t11).trans t12
  have Ld12 := Ld8.same t812
  have Nd12 := Nd8.same t812
  have Md112 := (Md1.same t11).same t12
  have es12 := t812 _ _ es8
  walk_at "gb"
  refine g_ixL (.of es12) (atI_c1 rfl) ?_
  walk_at "gb"
  refine ⟨p, s1, L, _, rfl, Ld12, fun z => by have := of_decide_eq_true (List.mem_filter.mp z).2; omega, ?_⟩
  walk_at "gb"
  refine g_ixL (.of es12) (atI_c1 rfl) ?_
  walk_at "gb"
  refine ⟨g, s1 - 1, N, _, rfl, Nd12, fun z => by have := of_decide_eq_true (List.mem_filter.mp z).2; omega, ?_⟩
  have tw : ∀ {M : LS}, M.w = L.w → M.h = L.h → M.w ^ M.h = L.w ^ L.h := fun h1 h2 => by rw [h1, h2]
  walk_at "gb"
  refine ⟨p, sp, L, _, s0, s1, s2, fun _ => False, rfl, Ld12, es12, a0, a1, b0, b1, zok_none, fun q13 H13 n13 t13 d13 => ?_⟩
  have d13 := Dp.mono rst_le _ _ d13
  walk_at "gb"
  refine ⟨lo, sp, M1, _, s0, s1, s2, fun _ => False, rfl, Md112.same t13, t13 _ _ es12, a0, by rw [tw e1w e1h]; exact a1, b0, by rw [tw e1w e1h]; exact b1, zok_none, fun q14 H14 n14 t14 d14 => ?_⟩
  have d14 := Dp.mono rst_le _ _ d14
  rw [e1w, e1h] at d14
  refine g_eqD (Dp.mono t14 _ _ d13) d14 told_sh ?_
  have t1214 := t13.trans t14
  walk_at "gb"
  refine ⟨g, sp, N, _, s0, s1, s2, fun _ => False, rfl, Nd12.same t1214, t1214 _ _ es12, a0, by rw [tw eNw eNh]; exact a1, b0, by rw [tw eNw eNh]; exact b1, zok_none, fun q15 H15 n15 t15 d15 => ?_⟩
  have d15 := Dp.mono rst_le _ _ d15
  rw [eNw, eNh] at d15
  walk_at "gb"
  refine ⟨hi, sp, M2, _, s0, s1, s2, fun _ => False, rfl, (Md2.same t1214).same t15, (t1214.trans t15) _ _ es12, a0, by rw [tw e2w e2h]; exact a1, b0, by rw [tw e2w e2h]; exact b1, zok_none, fun q16 H16 n16 t16 d16 => ?_⟩
  have d16 := Dp.mono rst_le _ _ d16
  rw [e2w, e2h] at d16
  refine g_eqD (Dp.mono t16 _ _ d15) d16 told_sh ?_
  exact k _ (((((kp3.same t37).trans kp8).same t812).same t1214).same (t15.trans t16))
def sp__law_goes_on (C : Addr) : Sp := fun vs H Q _ => ∃ (p f a r sp : Addr) (L M : LS) (S R : List Int) (s0 s1 s2 : Int), vs = [.ref p, .ref f, .ref a, .ref r, .ref sp] ∧ Lad C H p L S ∧ Lad C H f M R ∧ M.w = L.w ∧ M.h = L.h ∧ (∀ b, M.own f b → ¬ L.own p b) ∧ S.length ≤ 99 ∧ R.length ≤ 99 ∧
  H a = some (.lst (S.map V.int)) ∧ H r = some (.lst (R.map V.int)) ∧ H sp = some (.lst [.int s0, .int s1, .int s2]) ∧ 0 ≤ s1 ∧ s1 < L.w ^ L.h ∧ 0 ≤ s2 ∧ s2 < L.w ^ L.h ∧ ¬ L.own p a ∧ ¬ L.own p r ∧ ¬ L.own p sp ∧ ¬ M.own f a ∧ ¬ M.own f r ∧ ¬ M.own f sp ∧ ∀ H', Q (.bl true) H'
theorem del_head {S : List Int} (hs : Sk.Srt S) {x : Int} (e : S.head? = some x) : Sk.del S x = S.drop 1 := by
  cases S with
  | nil => cases e
  | cons y r =>
    obtain rfl := Option.some.inj e
    have h := List.pairwise_cons.mp hs
    show (y :: r).filter _ = r
    rw [List.filter_cons, if_neg (by simp)]
    refine List.filter_eq_self.mpr fun z hz => decide_eq_true fun q => ?_
    have := h.1 z hz
    omega
theorem ok__law_goes_on (T : Txt K mg A) : FO P w K mg base 8 A._law_goes_on ["_law_ladder", "_law_part", "_law_row", "_law_rest", "_law_spot"] (sp__law_goes_on A.Ladder) := by
  obtain ⟨fd__law_made, G__law_made, B__law_made⟩ := ok__law_made (P := P) (w := w) (base := base) T
  obtain ⟨fd__law_refused, G__law_refused, B__law_refused⟩ := ok__law_refused (P := P) (w := w) (base := base) T
  obtain ⟨fd_take, G_take, B_take⟩ := ok_take (P := P) (w := w) (base := base) T
  obtain ⟨fd_put, G_put, B_put⟩ := ok_put (P := P) (w := w) (base := base) T
  obtain ⟨fd__law_told, G__law_told, B__law_told⟩ := ok__law_told (P := P) (w := w) (base := base) T
  obtain ⟨fd__law_again, G__law_again, B__law_again⟩ := ok__law_again (P := P) (w := w) (base := base) T
  have S := sc__law_goes_on
  refine FO.mk' T.f__law_goes_on S b__law_goes_on (fun vs H Q E h => by obtain ⟨_, _, _, _, _, _, _, _, _, _, _, _, rfl, _⟩ := h; rfl) (fun cdv Ar outer s H vs Q E hr h => ?_)
  have hu := hu_of hr
  obtain ⟨p, f, a, r, sp, L, M, S0, R0, s0, s1, s2, rfl, Ld, Md, eMw, eMh, dis, hl, hlR, ea, er, es, a0, a1, b0, b1, noa, nor, nos, mfa, mfr, mfs, k⟩ := h
  have X := Ld.toLadX
  have lt := T.lt
  have ok := Ld.ok
  have hs := Ld.srt
  have dis2 : ∀ b, L.own p b → ¬ M.own f b := fun b y z => dis b z y
  have elim : M.w ^ M.h = L.w ^ L.h := by rw [eMw, eMh]
  refine ⟨_, (pss_cons (ps_if (pt_cmpR op_ne (pe_call G__law_refused (hr.mono (by decide)) rfl T.g__law_refused T.k__law_refused B__law_refused .nil passL (pa_cons (pv 0) (pa_cons (pv 0) pa_nil))) (pe_ix (k_ixL (K := K) rfl) (pe_lst (pa_cons pe_int (pa_cons pe_int pa_nil))) (pe_callTy c_int1 (by rfl) T.z_int PyProof.Rows.boot_int (pa_cons (pe_cmpR (k_neD (K := K) rfl hr.units) (pv 2) (pe_lst pa_nil) (nomark _)) pa_nil)) (fun _ _ => rfl)) (nomark _))
    (pss_one (ps_ret pe_bl))
    pss_nil)
  (pss_consC (ps_if (pt_cmpR (k_neD (K := K) rfl hr.units) (pv 2) (pe_lst pa_nil) (nomark _))
    (pss_cons (ps_expr (pe_meth (pv 0) T.lt.cl T.m_take G_take (hr.mono (by decide)) B_take .nil (passes_call (takes_of rfl rfl rfl rfl) (fun _ _ _ _ z => z)) (pa_cons (pe_ix (k_ixL (K := K) rfl) (pv 2) (pe_un un_neg pe_int) (fun _ _ => rfl)) pa_nil)))
    (pss_cons (ps_expr (pe_meth (pv 0) T.lt.cl T.m_put G_put (hr.mono (by decide)) B_put .nil (passes_call (takes_of rfl rfl rfl rfl) (fun _ _ _ _ z => z)) (pa_cons (pe_ix (k_ixL (K := K) rfl) (pv 2) (pe_un un_neg pe_int) (fun _ _ => rfl)) pa_nil)))
    (pss_one (ps_expr (pe_meth (pv 0) T.lt.cl T.m_take G_take (hr.mono (by decide)) B_take .nil (passes_call (takes_of rfl rfl rfl rfl) (fun _ _ _ _ z => z)) (pa_cons (pe_ix (k_ixL (K := K) rfl) (pv 2) pe_int (fun _ _ => rfl)) pa_nil))))))
    pss_nil)
  (pss_consC (ps_if (pt_cmpR (k_neD (K := K) rfl hr.units) (pv 3) (pe_lst pa_nil) (nomark _))
    (pss_cons (ps_set (i := 5) S.nd rfl (Or.inl rfl) (pe_call G__law_made (hr.mono (by decide)) rfl T.g__law_made T.k__law_made B__law_made .nil passL (pa_cons (k_fld (K := K) rfl (pv 0) rfl) (pa_cons (k_fld (K := K) rfl (pv 0) rfl) (pa_cons (pv 3) pa_nil)))))
    (pss_one (ps_if (pt_cmpR (k_neD (K := K) rfl hr.units) (pe_meth (pv 1) T.lt.cl T.m_take G_take (hr.mono (by decide)) B_take .nil (passes_call (takes_of rfl rfl rfl rfl) (fun _ _ _ _ z => z)) (pa_cons (pe_ix (k_ixL (K := K) rfl) (pv 3) pe_int (fun _ _ => rfl)) pa_nil)) (pe_meth (pv 5) T.lt.cl T.m_take G_take (hr.mono (by decide)) B_take .nil (passes_call (takes_of rfl rfl rfl rfl) (fun _ _ _ _ z => z)) (pa_cons (pe_ix (k_ixL (K := K) rfl) (pv 3) pe_int (fun _ _ => rfl)) pa_nil)) (nomark _))
      (pss_one (ps_ret pe_bl))
      pss_nil)))
    pss_nil)
  (pss_cons (ps_set (i := 6) S.nd rfl (Or.inl rfl) (pe_call G__law_made (hr.mono (by decide)) rfl T.g__law_made T.k__law_made B__law_made .nil passL (pa_cons (k_fld (K := K) rfl (pv 0) rfl) (pa_cons (k_fld (K := K) rfl (pv 0) rfl) (pa_cons (pe_slice (k_slL (K := K) rfl) (pv 2) (po_some pe_int) po_none) pa_nil)))))
  (pss_cons (ps_if (pt_cmpR (k_neD (K := K) rfl hr.units) (pe_call G__law_told (hr.mono (by decide)) rfl T.g__law_told T.k__law_told B__law_told .nil passL (pa_cons (pv 0) (pa_cons (pv 4) pa_nil))) (pe_call G__law_told (hr.mono (by decide)) rfl T.g__law_told T.k__law_told B__law_told .nil passL (pa_cons (pv 6) (pa_cons (pv 4) pa_nil))) (nomark _))
    (pss_one (ps_ret pe_bl))
    pss_nil)
  (pss_one (ps_ret (pe_and (pe_call G__law_again (hr.mono (by decide)) rfl T.g__law_again T.k__law_again B__law_again .nil passL (pa_cons (pv 1) (pa_cons (pe_slice (k_slL (K := K) rfl) (pv 3) (po_some pe_int) po_none) (pa_cons (pv 4) pa_nil)))) (pe_one (pe_call G__law_again (hr.mono (by decide)) rfl T.g__law_again T.k__law_again B__law_again .nil passL (pa_cons (pv 0) (pa_cons (pe_slice (k_slL (K := K) rfl) (pv 2) (po_some pe_int) po_none) (pa_cons (pv 4) pa_nil))))))))))))), ?_⟩
  walk_at "gw"
  refine g_ifP false (fun H1 => Keeps L p H H1 ∧ Lad A.Ladder H1 p L S0) (fun R hR => ?_) (fun z => nomatch z) (fun _ H1 ⟨kp1, Ld1⟩ => ?_)
  · walk_at "gb"
    have tail : ∀ (H1 : Hp) (v : Int), Keeps L p H H1 → Lad A.Ladder H1 p L S0 → v = (if S0 = [] then 0 else 2) → tOp (rIxL K) (tLst (tCons (tC (.int 0)) (tCons (tC (.int 2)) tNil))) (tCB nInt1 (tCons (tOp (rNeD K) (tVar 2) (tLst tNil)) tNil)) [some (.ref p), some (.ref f), some (.ref a), some (.ref r), some (.ref sp), none, none] H1 fun y H2 => rNe (.int v) y H2 fun x H' => dBl x H' R := fun H1 v kp Ld1 ev => by
      walk_at "gb"
      refine g_newL (by show 2 ≤ 1000; decide) fun q2 H2 n2 t2 e2 => ?_
      walk_at "gb"
      refine g_newL (by decide) fun nl H3 nn t3 e3 => ?_
      have t13 := t2.trans t3
      refine g_neNil (dp_ints (.of (t13 _ _ (kp _ _ ea noa)))) (dp_nil (.of e3)) (sh_ints (k := 0) _) ?_
      walk_at "gb"
      refine g_int1 ?_
      by_cases z : S0 = []
      · subst z
        rw [if_pos rfl] at ev
        subst ev
        refine g_ixL (v := .int 0) (.of (t3 _ _ e2)) (atI_c0 rfl) ?_
        refine g_neI ?_
        refine g_bl ?_
        rw [show (!decide ((0 : Int) = 0)) = false from rfl]
        exact hR _ ⟨kp.same t13, Ld1.same t13⟩
      · rw [if_neg z] at ev
        subst ev
        have ie : (!(S0.map PyData.int).isEmpty) = true := by
          cases S0 with
          | nil => exact absurd rfl z
          | cons _ _ => rfl
        rw [ie]
        refine g_ixL (v := .int 2) (.of (t3 _ _ e2)) (atI_c1 rfl) ?_
        refine g_neI ?_
        refine g_bl ?_
        rw [show (!decide ((2 : Int) = 2)) = false from rfl]
        exact hR _ ⟨kp.same t13, Ld1.same t13⟩
    refine ⟨p, p, L, L, S0, S0, rfl, Ld, Ld, fun ne => absurd ⟨rfl, rfl⟩ ne, fun _ _ x hx _ H1 t1 => ?_, fun _ _ d => ?_⟩
    · refine tail H1 2 (Same.keeps t1) (Ld.same t1) ?_
      rw [if_neg fun z => by rw [z] at hx; cases hx]
    · have e0 : S0 = [] := by
        cases S0 with
        | nil => rfl
        | cons x _ => exact absurd List.mem_cons_self (d x List.mem_cons_self)
      refine ⟨by rw [e0]; decide, fun H1 kp Ld1 => ?_⟩
      have e1 : Sk.uni S0 S0 = S0 := by rw [e0]; rfl
      rw [e1] at Ld1
      exact tail H1 0 kp Ld1 (by rw [if_pos e0])
  -- the row's ends
  walk_at "gb"
  refine g_cut (fun σ' H2 => Keeps L p H H2 ∧ Lad A.Ladder H2 p L (S0.drop 1) ∧ σ' = [some (.ref p), some (.ref f), some (.ref a), some (.ref r), some (.ref sp), none, none]) (fun N hN => ?_) ?_
  · walk_at "gb"
    refine g_newL (by decide) fun nl H2 nn t2 e2 => ?_
    have kp2 := kp1.same t2
    have Ld2 := Ld1.same t2
    have X2 := Ld2.toLadX
    refine g_neNil (dp_ints (.of (kp2 _ _ ea noa))) (dp_nil (.of e2)) (sh_ints (k := 0) _) ?_
    walk_at "gb"
    cases eh : S0.head? with
    | none =>
      obtain rfl := Sk.head_nil eh
      refine g_iteF rfl ?_
      walk_at "gb"
      exact hN _ _ ⟨kp2, Ld2, rfl⟩
    | some x =>
      obtain ⟨y, ey⟩ : ∃ y, S0.getLast? = some y := by
        cases e : S0.getLast? with
        | none => rw [List.getLast?_eq_none_iff] at e; rw [e] at eh; cases eh
        | some y => exact ⟨y, rfl⟩
      have xm := Sk.head_mem eh
      have ym : y ∈ S0 := List.mem_of_getLast? ey
      have yb : 0 ≤ y ∧ y < L.w ^ L.h := ⟨Ld.lo y ym, Ld.hi y ym⟩
      have xb : 0 ≤ x ∧ x < L.w ^ L.h := ⟨Ld.lo x xm, Ld.hi x xm⟩
      refine g_iteT (by
        cases S0 with
        | nil => cases eh
        | cons _ _ => rfl) ?_
      walk_at "gb"
      refine g_ixL (.of (kp2 _ _ ea noa)) (atI_lastI ey) ?_
      walk_at "gb"
      refine ⟨p, y, L, S0, rfl, Ld2, fun _ _ _ u3 H3 kp3 nu3 tu3 Ld3 => ?_, fun z => absurd yb z, fun _ _ z => absurd ym z⟩
      have X3 := Ld3.toLadX
      have kp13 := kp2.trans kp3
      walk_at "gb"
      refine g_ixL (.of (kp13 _ _ ea noa)) (atI_lastI ey) ?_
      walk_at "gb"
      have nd : y ∉ Sk.del S0 y := fun z => (Sk.mem_del.mp z).2 rfl
      refine ⟨p, y, L, _, rfl, Ld3, fun _ _ _ => ⟨by have := Sk.len_del hs ym; omega, fun u4 H4 kp4 nu4 tu4 Ld4 => ?_⟩, fun z => absurd yb z, fun _ _ z => absurd z nd⟩
      rw [Sk.ins_del hs ym] at Ld4
      have X4 := Ld4.toLadX
      have kp14 := kp13.trans kp4
      walk_at "gb"
      refine g_ixL (.of (kp14 _ _ ea noa)) (atI_headI eh) ?_
      walk_at "gb"
      refine ⟨p, x, L, S0, rfl, Ld4, fun _ _ _ u5 H5 kp5 nu5 tu5 Ld5 => ?_, fun z => absurd xb z, fun _ _ z => absurd xm z⟩
      rw [del_head hs eh] at Ld5
      walk_at "gb"
      exact hN _ _ ⟨kp14.trans kp5, Ld5, rfl⟩
  rintro σ' H2 ⟨kp2, Ld2, rfl⟩
  have Md2 := Md.keep kp2 dis
  have X2 := Ld2.toLadX
  have Y2 := Md2.toLadX
  -- the other part's first
  walk_at "gb"
  refine g_cut (fun σ' H3 => (∀ b o, H2 b = some o → ¬ M.own f b → H3 b = some o) ∧ Lad A.Ladder H3 f M (R0.drop 1) ∧ ∃ v5 : Option V, σ' = [some (.ref p), some (.ref f), some (.ref a), some (.ref r), some (.ref sp), v5, none]) (fun N hN => ?_) ?_
  · walk_at "gb"
    refine g_newL (by decide) fun nl H3 nn t3 e3 => ?_
    have er2 := kp2 _ _ er nor
    refine g_neNil (dp_ints (.of (t3 _ _ er2))) (dp_nil (.of e3)) (sh_ints (k := 0) _) ?_
    have Ld3 := Ld2.same t3
    have X3 := Ld3.toLadX
    walk_at "gb"
    cases eh : R0.head? with
    | none =>
      obtain rfl := Sk.head_nil eh
      refine g_iteF rfl ?_
      walk_at "gb"
      exact hN _ _ ⟨fun b o e _ => t3 b o e, Md2.same t3, _, rfl⟩
    | some x =>
      have xm := Sk.head_mem eh
      have xb : 0 ≤ x ∧ x < M.w ^ M.h := ⟨Md.lo x xm, Md.hi x xm⟩
      refine g_iteT (by
        cases R0 with
        | nil => cases eh
        | cons _ _ => rfl) ?_
      walk_at "gb"
      refine ⟨r, L.w, L.h, R0, rfl, t3 _ _ er2, ok.w1, ok.w2, ok.h1, ok.h2, Md.srt, Md.lo, fun z hz => by rw [← elim]; exact Md.hi z hz, by omega, fun g N1 H4 ng e1w e1h t4 fr4 Nd4 => ?_⟩
      have t24 := t3.trans t4
      have fr2 : ∀ b, N1.own g b → H2 b = none := fun b z => t3.free (fr4 b z)
      have Md4 := Md2.same t24
      have Y4 := Md4.toLadX
      have er4 := t24 _ _ er2
      have gd : ∀ b, N1.own g b → ¬ M.own f b := own_dis Md2 fr2
      have ngr : ¬ N1.own g r := fun z => by rw [fr2 r z] at er2; cases er2
      walk_at "gb"
      refine g_ixL (.of er4) (atI_headI eh) ?_
      walk_at "gb"
      refine ⟨f, x, M, R0, rfl, Md4, fun _ _ _ u5 H5 kp5 nu5 tu5 Md5 => ?_, fun z => absurd xb z, fun _ _ z => absurd xm z⟩
      rw [del_head Md.srt eh] at Md5
      have Nd5 := Nd4.keep kp5 gd
      have Z5 := Nd5.toLadX
      have er5 := kp5 _ _ er4 mfr
      have ng5 : ¬ N1.own g u5 := own_no Nd4.toLadX nu5
      walk_at "gb"
      refine g_ixL (.of er5) (atI_headI eh) ?_
      walk_at "gb"
      refine ⟨g, x, N1, R0, rfl, Nd5, fun _ _ _ u6 H6 kp6 nu6 tu6 Nd6 => ?_, fun z => absurd ⟨xb.1, by rw [e1w, e1h, ← elim]; exact xb.2⟩ z, fun _ _ z => absurd xm z⟩
      rw [takeT_to e1w e1h] at tu6
      rw [takeT_to eMw eMh] at tu5
      refine g_neD ((tu5.keep Z5 ng5 kp6).dp takeT_plain) (tu6.dp takeT_plain) (sh_tups (k := 0) _) ?_
      walk_at "gb"
      refine hN _ _ ⟨fun b o e nb => kp6 b o (kp5 b o (t24 b o e) nb) fun z => (by rw [fr2 b z] at e; cases e), Md5.keep kp6 fun b y z => gd b z y, _, rfl⟩
  rintro σ' H3 ⟨fr3, Md3, v5, rfl⟩
  have Ld3 : Lad A.Ladder H3 p L (S0.drop 1) := Ld2.at fun b hb => by
    obtain ⟨o, e⟩ := X2.there hb
    rw [e]
    exact fr3 b o e (dis2 b hb)
  have X3 := Ld3.toLadX
  have ea3 := fr3 _ _ (kp2 _ _ ea noa) mfa
  have er3 := fr3 _ _ (kp2 _ _ er nor) mfr
  have es3 := fr3 _ _ (kp2 _ _ es nos) mfs
  have l1 : (S0.drop 1).length ≤ 99 := by rw [List.length_drop]; omega
  have l2 : (R0.drop 1).length ≤ 99 := by rw [List.length_drop]; omega
  walk_at "gb"
  refine g_sl0 ?_
  walk_at "gb"
  refine g_part (g_noPart (g_sliceX (.of ea3) fun q4 H4 n4 t4 e4 => ?_))
  rw [cut_1] at e4
  walk_at "gb"
  refine ⟨q4, L.w, L.h, _, rfl, e4, ok.w1, ok.w2, ok.h1, ok.h2, Ld3.srt, Ld3.lo, Ld3.hi, by omega, fun g N1 H5 ng e1w e1h t5 _ Nd5 => ?_⟩
  have t35 := t4.trans t5
  have tw : N1.w ^ N1.h = L.w ^ L.h := by rw [e1w, e1h]
  walk_at "gb"
  refine ⟨p, sp, L, _, s0, s1, s2, fun _ => False, rfl, Ld3.same t35, t35 _ _ es3, a0, a1, b0, b1, zok_none, fun q6 H6 n6 t6 d6 => ?_⟩
  have d6 := Dp.mono rst_le _ _ d6
  walk_at "gb"
  refine ⟨g, sp, N1, _, s0, s1, s2, fun _ => False, rfl, Nd5.same t6, (t35.trans t6) _ _ es3, a0, by rw [tw]; exact a1, b0, by rw [tw]; exact b1, zok_none, fun q7 H7 n7 t7 d7 => ?_⟩
  have d7 := Dp.mono rst_le _ _ d7
  rw [e1w, e1h] at d7
  have t37 := (t35.trans t6).trans t7
  refine g_neD (Dp.mono t7 _ _ d6) d7 told_sh ?_
  walk_at "gb"
  refine g_sl0 ?_
  walk_at "gb"
  refine g_part (g_noPart (g_sliceX (.of (t37 _ _ er3)) fun q8 H8 n8 t8 e8 => ?_))
  rw [cut_1] at e8
  have t38 := t37.trans t8
  have Md7 := Md3.same t37
  have nf8 := own_no Md7.toLadX n8
  walk_at "gb"
  refine ⟨f, q8, sp, M, _, s0, s1, s2, rfl, Md7.same t8, l2, e8, t38 _ _ es3, a0, by rw [elim]; exact a1, b0, by rw [elim]; exact b1, nf8, mfs, fun H9 kp9 => ?_⟩
  have Ld9 := (Ld3.same t38).keep kp9 dis2
  have X9 := Ld9.toLadX
  have ea9 := kp9 _ _ (t38 _ _ ea3) mfa
  have es9 := kp9 _ _ (t38 _ _ es3) mfs
  walk_at "gb"
  refine g_sl0 ?_
  walk_at "gb"
  refine g_part (g_noPart (g_sliceX (.of ea9) fun q10 H10 n10 t10 e10 => ?_))
  rw [cut_1] at e10
  have np10 := own_no X9 n10
  walk_at "gb"
  refine ⟨p, q10, sp, L, _, s0, s1, s2, rfl, Ld9.same t10, l1, e10, t10 _ _ es9, a0, a1, b0, b1, np10, nos, fun H11 _ => ?_⟩
  exact k _
end
end Lk

namespace Lk
open PySem PySem.Spec PyProof.Rows L2
section
variable {P : Program} {w : World} {K : PySem.W.Frag} {mg : Str → Option Value} {base : Heap} {A : Ads}
/-- lists, and what they hold, beside Z -/
def LsZ (K : PySem.W.Frag) (Z : Addr → Prop) (H : Hp) (as : List Addr) (xs : List (List V × List PyData)) : Prop := Paired (fun a x => H a = some (.lst x.1) ∧ ¬ Z a ∧ DpAll K (rst Z H) x.1 x.2 ∧ Sh 2 (.list x.2)) as xs
theorem lsz_dpl {Z : Addr → Prop} {H : Hp} : ∀ {as : List Addr} {xs : List (List V × List PyData)}, LsZ K Z H as xs → DpAll K (rst Z H) (as.map V.ref) (xs.map fun x => PyData.list x.2)
  | _, _, .nil => .nil
  | _, _, .cons h t => .cons (.lst (.of (rst_at h.2.1 h.1)) h.2.2.1) (lsz_dpl t)
theorem lsz_sh {Z : Addr → Prop} {H : Hp} : ∀ {as : List Addr} {xs : List (List V × List PyData)}, LsZ K Z H as xs → ∀ d ∈ xs.map (fun x => PyData.list x.2), Sh 2 d
  | _, _, .nil, d, hd => nomatch hd
  | _, _, .cons h t, d, hd => by
    rcases List.mem_cons.mp hd with rfl | hd
    · exact h.2.2.2
    · exact lsz_sh t d hd
theorem keep_dp {L : LS} {p : Addr} {H H' : Hp} {v : V} {d : PyData} (k : Keeps L p H H') (x : Dp K (rst (L.own p) H) v d) : Dp K (rst (L.own p) H') v d := Dp.mono (same_rst fun b o e n => ⟨n, k b o e n⟩) _ _ x
def sp__law_by_turns (K : PySem.W.Frag) (C : Addr) : Sp := fun vs H Q _ => ∃ (p a wh sp : Addr) (L : LS) (S : List Int) (s0 s1 s2 : Int), vs = [.ref p, .ref a, .ref wh, .ref sp] ∧ Lad C H p L S ∧ S.length ≤ 99 ∧ H a = some (.lst (S.map V.int)) ∧ H sp = some (.lst [.int s0, .int s1, .int s2]) ∧ 0 ≤ s1 ∧ s1 < L.w ^ L.h ∧ 0 ≤ s2 ∧ s2 < L.w ^ L.h ∧ ¬ L.own p a ∧ ¬ L.own p sp ∧
  Dp K (rst (L.own p) H) (.ref wh) (.list (toldD L.w L.h S s0 s1 s2)) ∧ ∀ H', Keeps L p H H' → Lad C H' p L S → Q (.bl true) H'
theorem ok__law_by_turns (T : Txt K mg A) : FO P w K mg base 7 A._law_by_turns ["_law_ladder", "_law_row", "_law_whole", "_law_spot"] (sp__law_by_turns K A.Ladder) := by
  obtain ⟨fd_put, G_put, B_put⟩ := ok_put (P := P) (w := w) (base := base) T
  obtain ⟨fd_row, G_row, B_row⟩ := ok_row (P := P) (w := w) (base := base) T
  obtain ⟨fd_level, G_level, B_level⟩ := ok_level (P := P) (w := w) (base := base) T
  obtain ⟨fd_trail, G_trail, B_trail⟩ := ok_trail (P := P) (w := w) (base := base) T
  obtain ⟨fd_stretch, G_stretch, B_stretch⟩ := ok_stretch (P := P) (w := w) (base := base) T
  obtain ⟨fd_take, G_take, B_take⟩ := ok_take (P := P) (w := w) (base := base) T
  obtain ⟨fd__law_ends, G__law_ends, B__law_ends⟩ := ok__law_ends (P := P) (w := w) (base := base) T
  obtain ⟨fd__law_told, G__law_told, B__law_told⟩ := ok__law_told (P := P) (w := w) (base := base) T
  obtain ⟨fd__law_is_there, G__law_is_there, B__law_is_there⟩ := ok__law_is_there (P := P) (w := w) (base := base) T
  obtain ⟨fd__law_made, G__law_made, B__law_made⟩ := ok__law_made (P := P) (w := w) (base := base) T
  have S := sc__law_by_turns
  refine FO.mk' T.f__law_by_turns S b__law_by_turns (fun vs H Q E h => by obtain ⟨_, _, _, _, _, _, _, _, _, rfl, _⟩ := h; rfl) (fun cdv Ar outer s H vs Q E hr h => ?_)
  have hu := hu_of hr
  obtain ⟨p, a, wh, sp, L, S0, s0, s1, s2, rfl, Ld, hl, ea, es, a0, a1, b0, b1, noa, nos, dw, k⟩ := h
  have X := Ld.toLadX
  have lt := T.lt
  have ok := Ld.ok
  have hs := Ld.srt
  have hh := ok.h2
  have lim := two_le ok
  have zk := zok_own X
  have inR : ¬ ¬ (0 ≤ s2 ∧ s2 < L.w ^ L.h) := fun z => z ⟨b0, b1⟩
  refine ⟨_, (pss_cons (ps_set (i := 4) S.nd rfl (Or.inr rfl) (pe_ix (k_ixL (K := K) rfl) (pv 3) pe_int (fun _ _ => rfl)))
  (pss_cons (ps_set (i := 5) S.nd rfl (Or.inl rfl) (pe_lst (pa_cons (pe_meth0 (pv 0) T.lt.cl T.m_row G_row (hr.mono (by decide)) B_row .nil passL) (pa_cons (pe_meth (pv 0) T.lt.cl T.m_level G_level (hr.mono (by decide)) B_level .nil (passes_call (takes_of rfl rfl rfl rfl) (fun _ _ _ _ z => z)) (pa_cons (k_fld (K := K) rfl (pv 0) rfl) pa_nil)) (pa_cons (pe_meth (pv 0) T.lt.cl T.m_trail G_trail (hr.mono (by decide)) B_trail .nil (passes_call (takes_of rfl rfl rfl rfl) (fun _ _ _ _ z => z)) (pa_cons (pv 4) pa_nil)) (pa_cons (pe_meth (pv 0) T.lt.cl T.m_stretch G_stretch (hr.mono (by decide)) B_stretch .nil (passes_call (takes_of rfl rfl rfl rfl) (fun _ _ _ _ z => z)) (pa_cons pe_int (pa_cons (k_fld (K := K) rfl (pv 0) rfl) pa_nil))) pa_nil))))))
  (pss_cons (ps_setLc (i := 6) (own := [("_law_one", 8)]) (g := gName 8) (tt := tYes) rfl S.nd rfl rfl (sw_true rfl rfl rfl (by decide +kernel)) (k_iL (K := K) rfl (pv 5)) (blkOk_by (N := N__law_by_turns) (sc := defScope s__law_by_turns) (by decide +kernel)) (fun _ _ _ _ _ => pg_name (i := 8) S.nd rfl (Or.inl rfl)) (fun _ _ _ _ _ => pts_nil) (fun _ _ _ _ _ => (pe_callTy (k_listOf (K := K) rfl) (by rfl) T.z_list PyProof.Rows.boot_list (pa_cons (pv 8) pa_nil))))
  (pss_cons (ps_setLc (i := 7) (own := [("_law_one", 8)]) (g := gName 8) rfl S.nd rfl rfl (sw_true rfl rfl rfl (by decide +kernel)) (k_iL (K := K) rfl (pv 1)) (blkOk_by (N := N__law_by_turns) (sc := defScope s__law_by_turns) (by decide +kernel)) (fun _ _ _ _ _ => pg_name (i := 8) S.nd rfl (Or.inl rfl)) (fun _ _ _ _ _ => (pts_one (pt_cmpR op_ne (pv 8) (pv 4) (nomark _)))) (fun _ _ _ _ _ => (pv 8)))
  (pss_consC (ps_if (pt_cmpR (k_in (K := K) rfl) (pv 4) (pv 1) (by rfl))
    (pss_one (ps_expr (pe_meth (pv 0) T.lt.cl T.m_take G_take (hr.mono (by decide)) B_take .nil (passes_call (takes_of rfl rfl rfl rfl) (fun _ _ _ _ z => z)) (pa_cons (pv 4) pa_nil))))
    pss_nil)
  (pss_cons (ps_if (pt_not (pt_val (pe_call G__law_ends (hr.mono (by decide)) rfl T.g__law_ends T.k__law_ends B__law_ends .nil passL (pa_cons (pv 0) (pa_cons (pv 4) pa_nil)))))
    (pss_one (ps_ret pe_bl))
    pss_nil)
  (pss_consC (ps_if (pt_cmpR (k_nin (K := K) rfl) (pv 4) (pv 1) (by rfl))
    (pss_cons (ps_expr (pe_meth (pv 0) T.lt.cl T.m_put G_put (hr.mono (by decide)) B_put .nil (passes_call (takes_of rfl rfl rfl rfl) (fun _ _ _ _ z => z)) (pa_cons (pv 4) pa_nil)))
    (pss_one (ps_set (i := 7) S.nd rfl (Or.inl rfl) (pe_op op_cat (pv 1) (pe_lst (pa_cons (pv 4) pa_nil))))))
    pss_nil)
  (pss_cons (ps_if (PW.pt (pw_and (pt_cmpR (k_nin (K := K) rfl) (pv 4) (pv 1) (by rfl)) (pw_and1 (pt_not (pt_val (pe_call G__law_is_there (hr.mono (by decide)) rfl T.g__law_is_there T.k__law_is_there B__law_is_there .nil passL (pa_cons (pv 0) (pa_cons (pv 4) pa_nil))))))))
    (pss_one (ps_ret pe_bl))
    pss_nil)
  (pss_cons (ps_if (pt_cmpR (k_neD (K := K) rfl hr.units) (pe_call G__law_told (hr.mono (by decide)) rfl T.g__law_told T.k__law_told B__law_told .nil passL (pa_cons (pv 0) (pa_cons (pv 3) pa_nil))) (pe_call G__law_told (hr.mono (by decide)) rfl T.g__law_told T.k__law_told B__law_told .nil passL (pa_cons (pe_call G__law_made (hr.mono (by decide)) rfl T.g__law_made T.k__law_made B__law_made .nil passL (pa_cons (k_fld (K := K) rfl (pv 0) rfl) (pa_cons (k_fld (K := K) rfl (pv 0) rfl) (pa_cons (pe_callB (k_sorted (K := K) rfl) (by rfl) T.z_sorted (by decide +kernel) (pa_cons (pv 7) pa_nil)) pa_nil)))) (pa_cons (pv 3) pa_nil))) (nomark _))
    (pss_one (ps_ret pe_bl))
    pss_nil)
  (pss_cons (ps_if (pt_cmpR (k_nin (K := K) rfl) (pv 4) (pv 1) (by rfl))
    (pss_cons (ps_expr (pe_meth (pv 0) T.lt.cl T.m_take G_take (hr.mono (by decide)) B_take .nil (passes_call (takes_of rfl rfl rfl rfl) (fun _ _ _ _ z => z)) (pa_cons (pv 4) pa_nil)))
    (pss_one (ps_ret (pe_and (pe_cmpR (k_eqD (K := K) rfl hr.units) (pe_call G__law_told (hr.mono (by decide)) rfl T.g__law_told T.k__law_told B__law_told .nil passL (pa_cons (pv 0) (pa_cons (pv 3) pa_nil))) (pv 2) (nomark _)) (pe_one (pe_cmpR (k_eqD (K := K) rfl hr.units) (pv 5) (pv 6) (nomark _)))))))
    pss_nil)
  (pss_cons (ps_expr (pe_meth (pv 0) T.lt.cl T.m_put G_put (hr.mono (by decide)) B_put .nil (passes_call (takes_of rfl rfl rfl rfl) (fun _ _ _ _ z => z)) (pa_cons (pv 4) pa_nil)))
  (pss_one (ps_ret (pe_and (pe_call G__law_is_there (hr.mono (by decide)) rfl T.g__law_is_there T.k__law_is_there B__law_is_there .nil passL (pa_cons (pv 0) (pa_cons (pv 4) pa_nil))) (pe_and (pe_cmpR (k_eqD (K := K) rfl hr.units) (pe_call G__law_told (hr.mono (by decide)) rfl T.g__law_told T.k__law_told B__law_told .nil passL (pa_cons (pv 0) (pa_cons (pv 3) pa_nil))) (pv 2) (nomark _)) (pe_one (pe_cmpR (k_eqD (K := K) rfl hr.units) (pv 5) (pv 6) (nomark _)))))))))))))))))), ?_⟩
  walk_at "gb"
  refine g_ixL (.of es) (atI_c2 rfl) ?_
  walk_at "gb"
  refine ⟨p, L, S0, rfl, Ld, fun q1 H1 n1 t1 e1 => ?_⟩
  have Ld1 := Ld.same t1
  have X1 := Ld1.toLadX
  walk_at "gb"
  refine ⟨p, (L.h : Int), L, S0, rfl, Ld1, fun l el hl2 q2 H2 n2 t2 e2 => ?_, fun bad => absurd ⟨by omega, Int.le_refl _⟩ bad⟩
  obtain rfl : l = L.h := by omega
  have Ld2 := Ld1.same t2
  have X2 := Ld2.toLadX
  walk_at "gb"
  refine ⟨p, s2, L, S0, rfl, Ld2, fun _ _ q3 H3 t3 n3 tq3 => ?_, fun z => absurd z inR⟩
  have Ld3 := Ld2.same t3
  have X3 := Ld3.toLadX
  walk_at "gb"
  refine ⟨p, 0, L.w ^ L.h, L, S0, rfl, Ld3, fun _ _ _ _ q4 H4 t4 n4 e4 => ?_, fun z => absurd ⟨Int.le_refl _, by omega, by omega, Int.le_refl _⟩ z⟩
  walk_at "gb"
  refine g_newL (by show 4 ≤ 1000; decide) fun hd H5 n5 t5 e5 => ?_
  have t35 := t4.trans t5
  have t25 := t3.trans t35
  have t15 := t2.trans t25
  have t05 := t1.trans t15
  have zk5 := zk.same t05
  obtain ⟨as3, h3, p3⟩ := tq3
  have tup5 : ∀ {u : Addr} {xs : List V}, H5 u = some (.tup xs) → ¬ L.own p u := fun e => zk5.tup e
  obtain ⟨xs, exl, ls5⟩ : ∃ xs : List (List V × List PyData), xs.length = 4 ∧ LsZ K (L.own p) H5 [q1, q2, q3, q4] xs := ⟨_, rfl,
    .cons (b := (S0.map V.int, S0.map PyData.int)) ⟨t15 _ _ e1, own_no X n1, dpl_ints _, sh_ints (k := 1) _⟩
    (.cons (b := ((Sk.lv (L.w ^ L.h) S0).map V.int, (Sk.lv (L.w ^ L.h) S0).map PyData.int)) ⟨t25 _ _ e2, own_no X1 n2, dpl_ints _, sh_ints (k := 1) _⟩
    (.cons (b := (as3.map V.ref, ((Sk.trail L.w L.h S0 s2).map sV).map fun y => PyData.tuple (y.map vD))) ⟨t35 _ _ h3, own_no X2 n3, dp_tups (Paired.mapP p3 fun u x e => by
        have e5 := t35 _ _ e
        exact rst_at (tup5 e5) e5) sV_plain, sh_tups (k := 0) _⟩
    (.cons (b := ((Sk.mid S0 0 (L.w ^ L.h)).map V.int, (Sk.mid S0 0 (L.w ^ L.h)).map PyData.int)) ⟨t5 _ _ e4, own_no X3 n4, dpl_ints _, sh_ints (k := 1) _⟩ .nil)))⟩
  have hd5 : H5 hd = some (.lst ([q1, q2, q3, q4].map V.ref)) := e5
  have nohd : ¬ L.own p hd := zk.new ((((t1.trans t2).trans t3).trans t4).free n5)
  have lsl : [q1, q2, q3, q4].length = xs.length := exl.symm
  generalize [q1, q2, q3, q4] = as at hd5 ls5 lsl
  walk_at "gb"
  refine g_lit (.of hd5) ?_
  refine g_lcPL (.of hd5) (fun j y H => ∀ x, xs[j]? = some x → Dp K (rst (L.own p) H) y (.list x.2)) (fun j y H H' s h x hx => Dp.mono (rst_same s) _ _ (h x hx)) (by rw [List.length_map, lsl, exl]; decide) (fun D i x H' hD hi s6 ⟨ys, eD⟩ N hN => ?_) fun ke H6 ys nke t6 e6 l6 f6 => ?_
  · obtain ⟨b, hb, rfl⟩ := map_get hi
    have hil : i < xs.length := by
      rw [← lsl]
      exact (List.getElem?_eq_some_iff.mp hb).1
    obtain ⟨b2, hb2, eb, nb, db, _⟩ := paired_get ls5 (List.getElem?_eq_getElem hil)
    rw [hb] at hb2
    obtain rfl := Option.some.inj hb2
    walk_at "gb"
    refine ⟨rfl, ?_⟩
    walk_at "gb"
    refine g_listOf (.of (s6 _ _ eb)) fun q H7 nq s7 e7 => ?_
    refine hN _ _ s7 fun x hx => ?_
    rw [List.getElem?_eq_getElem hil] at hx
    obtain rfl := Option.some.inj hx
    have nq' : ¬ L.own p q := (zk5.same s6).new nq
    refine .lst (.of (rst_at nq' (off_at (Ne.symm (ne_of_none eD nq)) e7))) (DpAll.mono (same_rst fun c o e n => ⟨n, off_at (ne_of_none e hD) ((s6.trans s7) _ _ e)⟩) _ _ db)
  have t06 := t05.trans t6
  have dh6 : Dp K (rst (L.own p) H6) (.ref hd) (.list (xs.map fun x => PyData.list x.2)) := Dp.mono (rst_same t6) _ _ (.lst (.of (rst_at nohd hd5)) (lsz_dpl ls5))
  have dk6 : Dp K (rst (L.own p) H6) (.ref ke) (.list (xs.map fun x => PyData.list x.2)) := .lst (.of (rst_at (zk5.new nke) e6)) (dpl_get (by rw [l6, List.length_map, List.length_map, lsl]) fun j y d ey ed => by
    obtain ⟨x, hx, rfl⟩ := map_get ed
    exact Dp.mono (rst_same off_le) _ _ (f6 j y ey x hx))
  have sh3 : Sh 3 (.list (xs.map fun x => PyData.list x.2)) := sh_lst (k := 2) (lsz_sh ls5)
  generalize (xs.map fun x => PyData.list x.2) = DD at dh6 dk6 sh3
  clear ls5 f6 e6
  have Ld6 := Ld.same t06
  have X6 := Ld6.toLadX
  have dw6 := keep_dp (Same.keeps t06) dw
  walk_at "gb"
  refine g_lit (.of (t06 _ _ ea)) ?_
  refine g_lcF (p := fun z => !decide (z = s2)) (.of (t06 _ _ ea)) (by omega) (fun _ => rfl) (fun _ => rfl) (fun x H' R hx s hR => ?_) fun so H7 nso t7 eso => ?_
  · walk_at "gb"
    exact hR
  have t07 := t06.trans t7
  have Ld7 := Ld.same t07
  have X7 := Ld7.toLadX
  have zk7 := zk.same t07
  have noso : ¬ L.own p so := (zk.same t06).new nso
  have ea7 := t07 _ _ ea
  have es7 := t07 _ _ es
  have dh7 := keep_dp (Same.keeps t7) dh6
  have dk7 := keep_dp (Same.keeps t7) dk6
  have dw7 := keep_dp (Same.keeps t7) dw6
  walk_at "gb"
  have edel : (S0.filter fun z => !decide (z = s2)) = Sk.del S0 s2 := List.filter_congr fun z _ => by
    by_cases q : z = s2
    · rw [decide_eq_true q, decide_eq_false (fun y => y q)]; rfl
    · rw [decide_eq_false q, decide_eq_true q]; rfl
  rw [edel] at eso
  have nd : s2 ∉ Sk.del S0 s2 := fun z => (Sk.mem_del.mp z).2 rfl
  by_cases hn : s2 ∈ S0
  · refine g_seqC ?_
    walk_at "gb"
    refine g_inI (.of ea7) ?_
    rw [decide_eq_true hn]
    walk_at "gb"
    refine ⟨p, s2, L, S0, rfl, Ld7, fun _ _ _ u8 H8 kp8 nu8 tu8 Ld8 => ?_, fun z => absurd z inR, fun _ _ z => absurd hn z⟩
    have ea8 := kp8 _ _ ea7 noa
    have es8 := kp8 _ _ es7 nos
    have so8 := kp8 _ _ eso noso
    have X8 := Ld8.toLadX
    walk_at "gb"
    refine ⟨p, s2, L, _, rfl, Ld8, nd, ?_⟩
    walk_at "gb"
    refine g_seqC ?_
    walk_at "gb"
    refine g_ninI (.of ea8) ?_
    rw [decide_eq_true hn]
    walk_at "gb"
    refine g_ninI (.of ea8) ?_
    rw [decide_eq_true hn]
    walk_at "gb"
    refine ⟨p, sp, L, _, s0, s1, s2, fun _ => False, rfl, Ld8, es8, a0, a1, b0, b1, zok_none, fun q9 H9 n9 t9 d9 => ?_⟩
    have d9 := Dp.mono rst_le _ _ d9
    have X9 := (Ld8.same t9).toLadX
    walk_at "gb"
    refine g_sorted (S := Sk.del S0 s2) (.of (t9 _ _ so8)) (Sk.srt_nodup Ld8.srt) Ld8.srt (fun _ => .rfl) fun q10 H10 n10 t10 e10 => ?_
    walk_at "gb"
    refine ⟨q10, L.w, L.h, _, rfl, e10, ok.w1, ok.w2, ok.h1, ok.h2, Ld8.srt, Ld8.lo, Ld8.hi, Ld8.len, fun f M H11 _ eMw eMh t11 _ Md => ?_⟩
    have t811 := (t9.trans t10).trans t11
    have tw : M.w ^ M.h = L.w ^ L.h := by rw [eMw, eMh]
    walk_at "gb"
    refine ⟨f, sp, M, _, s0, s1, s2, fun _ => False, rfl, Md, t811 _ _ es8, a0, by rw [tw]; exact a1, b0, by rw [tw]; exact b1, zok_none, fun q12 H12 n12 t12 d12 => ?_⟩
    have d12 := Dp.mono rst_le _ _ d12
    rw [eMw, eMh] at d12
    refine g_neD (Dp.mono ((t10.trans t11).trans t12) _ _ d9) d12 told_sh ?_
    have t812 := t811.trans t12
    have Ld12 := Ld8.same t812
    have X12 := Ld12.toLadX
    walk_at "gb"
    refine g_ninI (.of (t812 _ _ ea8)) ?_
    rw [decide_eq_true hn]
    walk_at "gb"
    refine ⟨p, s2, L, _, rfl, Ld12, fun _ _ _ => ⟨by have := Sk.len_del hs hn; omega, fun u13 H13 kp13 nu13 tu13 Ld13 => ?_⟩, fun z => absurd z inR, fun _ _ z => absurd z nd⟩
    rw [Sk.ins_del hs hn] at Ld13
    have kp713 := (kp8.same t812).trans kp13
    have es13 := kp713 _ _ es7 nos
    walk_at "gb"
    refine ⟨p, s2, L, S0, rfl, Ld13, hn, fun H14 t14 => ?_⟩
    walk_at "gb"
    refine ⟨p, sp, L, S0, s0, s1, s2, fun _ => False, rfl, Ld13.same t14, t14 _ _ es13, a0, a1, b0, b1, zok_none, fun q15 H15 n15 t15 d15 => ?_⟩
    have d15 := Dp.mono rst_le _ _ d15
    have kp715 := (kp713.same t14).same t15
    walk_at "gb"
    refine g_eqD d15 (Dp.mono rst_le _ _ (keep_dp kp715 dw7)) told_sh ?_
    walk_at "gb"
    refine g_eqD (Dp.mono rst_le _ _ (keep_dp kp715 dh7)) (Dp.mono rst_le _ _ (keep_dp kp715 dk7)) sh3 ?_
    exact k _ ((Same.keeps t07).trans kp715) ((Ld13.same t14).same t15)
  · have edn : Sk.del S0 s2 = S0 := List.filter_eq_self.mpr fun z hz => decide_eq_true fun q => hn (q ▸ hz)
    refine g_seqC ?_
    walk_at "gb"
    refine g_inI (.of ea7) ?_
    rw [decide_eq_false hn]
    walk_at "gb"
    refine ⟨p, s2, L, _, rfl, Ld7, hn, ?_⟩
    walk_at "gb"
    refine g_seqC ?_
    walk_at "gb"
    refine g_ninI (.of ea7) ?_
    rw [decide_eq_false hn]
    walk_at "gb"
    refine ⟨p, s2, L, S0, rfl, Ld7, fun _ _ _ => ⟨hl, fun u8 H8 kp8 nu8 tu8 Ld8 => ?_⟩, fun z => absurd z inR, fun _ _ z => absurd z hn⟩
    have ea8 := kp8 _ _ ea7 noa
    have es8 := kp8 _ _ es7 nos
    walk_at "gb"
    refine g_newL (by show 1 ≤ 1000; decide) fun q9 H9 n9 t9 e9 => ?_
    refine g_cat (ys := [s2].map V.int) (t9 _ _ ea8) e9 (by rw [List.length_map]; show _ + 1 ≤ 1000; omega) fun so2 H10 n10 t10 e10 => ?_
    rw [← List.map_append] at e10
    have t810 := t9.trans t10
    have Ld10 := Ld8.same t810
    have X10 := Ld10.toLadX
    walk_at "gb"
    refine g_ninI (.of (t810 _ _ ea8)) ?_
    rw [decide_eq_false hn]
    walk_at "gb"
    refine ⟨p, s2, L, _, rfl, Ld10, Sk.mem_ins.mpr (.inl rfl), fun H11 t11 => ?_⟩
    have t811 := t810.trans t11
    have Ld11 := Ld10.same t11
    have X11 := Ld11.toLadX
    walk_at "gb"
    refine ⟨p, sp, L, _, s0, s1, s2, fun _ => False, rfl, Ld11, t811 _ _ es8, a0, a1, b0, b1, zok_none, fun q12 H12 n12 t12 d12 => ?_⟩
    have d12 := Dp.mono rst_le _ _ d12
    have X12 := (Ld11.same t12).toLadX
    walk_at "gb"
    refine g_sorted (S := Sk.ins S0 s2) (.of ((t11.trans t12) _ _ e10)) (List.nodup_append.mpr ⟨Sk.srt_nodup hs, List.nodup_cons.mpr ⟨List.not_mem_nil, .nil⟩, fun x hx y hy q => by rw [List.mem_singleton] at hy; exact hn (hy ▸ q ▸ hx)⟩) Ld8.srt (fun x => by
      rw [List.mem_append, List.mem_singleton, Sk.mem_ins]; exact Or.comm) fun q13 H13 n13 t13 e13 => ?_
    walk_at "gb"
    refine ⟨q13, L.w, L.h, _, rfl, e13, ok.w1, ok.w2, ok.h1, ok.h2, Ld8.srt, Ld8.lo, Ld8.hi, Ld8.len, fun f M H14 _ eMw eMh t14 _ Md => ?_⟩
    have t814 := ((t811.trans t12).trans t13).trans t14
    have tw : M.w ^ M.h = L.w ^ L.h := by rw [eMw, eMh]
    walk_at "gb"
    refine ⟨f, sp, M, _, s0, s1, s2, fun _ => False, rfl, Md, t814 _ _ es8, a0, by rw [tw]; exact a1, b0, by rw [tw]; exact b1, zok_none, fun q15 H15 n15 t15 d15 => ?_⟩
    have d15 := Dp.mono rst_le _ _ d15
    rw [eMw, eMh] at d15
    refine g_neD (Dp.mono ((t13.trans t14).trans t15) _ _ d12) d15 told_sh ?_
    have t815 := t814.trans t15
    have Ld15 := Ld8.same t815
    have X15 := Ld15.toLadX
    walk_at "gb"
    refine g_ninI (.of (t815 _ _ ea8)) ?_
    rw [decide_eq_false hn]
    walk_at "gb"
    refine ⟨p, s2, L, _, rfl, Ld15, fun _ _ _ u16 H16 kp16 nu16 tu16 Ld16 => ?_, fun z => absurd z inR, fun _ _ z => absurd (Sk.mem_ins.mpr (.inl rfl)) z⟩
    rw [Sk.del_ins hs hn] at Ld16
    have kp716 := (kp8.same t815).trans kp16
    walk_at "gb"
    refine ⟨p, sp, L, S0, s0, s1, s2, fun _ => False, rfl, Ld16, kp716 _ _ es7 nos, a0, a1, b0, b1, zok_none, fun q17 H17 n17 t17 d17 => ?_⟩
    have d17 := Dp.mono rst_le _ _ d17
    have kp717 := kp716.same t17
    walk_at "gb"
    refine g_eqD d17 (Dp.mono rst_le _ _ (keep_dp kp717 dw7)) told_sh ?_
    walk_at "gb"
    refine g_eqD (Dp.mono rst_le _ _ (keep_dp kp717 dh7)) (Dp.mono rst_le _ _ (keep_dp kp717 dk7)) sh3 ?_
    exact k _ ((Same.keeps t07).trans kp717) (Ld16.same t17)
end
end Lk

namespace Lk
open PySem PySem.Spec PyProof.Rows L2
section
variable {P : Program} {w : World} {K : PySem.W.Frag} {mg : Str → Option Value} {base : Heap} {A : Ads}
theorem halves_at {S : List Int} (hs : Sk.Srt S) (n : Int) : Halves S (S.filter fun z => decide (z < n)) (S.filter fun z => decide (n ≤ z)) where
  sx := Sk.srt_filter hs _
  sy := Sk.srt_filter hs _
  mem := fun x => by
    rw [List.mem_filter, List.mem_filter, decide_eq_true_eq, decide_eq_true_eq]
    constructor
    · intro h
      rcases Int.lt_or_le x n with q | q
      · exact .inl ⟨h, q⟩
      · exact .inr ⟨h, q⟩
    · rintro (h | h) <;> exact h.1
  dis := fun x hx hy => by
    have := of_decide_eq_true (List.mem_filter.mp hx).2
    have := of_decide_eq_true (List.mem_filter.mp hy).2
    omega
theorem ins_take {rs : List Int} (h : Sk.Srt rs) {i : Nat} {x : Int} (e : rs[i]? = some x) : Sk.ins (rs.take i) x = rs.take (i + 1) ∧ x ∉ rs.take i := by
  refine ⟨Sk.srt_ext (Sk.srt_ins (Sk.srt_take h _) x) (Sk.srt_take h _) fun z => ?_, fun z => ?_⟩
  · rw [Sk.take_snoc e, List.mem_append, List.mem_singleton, Sk.mem_ins]
    exact Or.comm
  · obtain ⟨j, hj, ej⟩ := List.mem_take_iff_getElem.mp z
    have e2 : rs[j]? = some x := by rw [List.getElem?_eq_getElem (by omega), ej]
    have := Sk.get_lt h e2 e (by omega)
    omega
def sp__law_cut (C : Addr) : Sp := fun vs H Q _ => ∃ (p a sp : Addr) (n : Int) (L : LS) (S : List Int) (s0 s1 s2 : Int), vs = [.ref p, .ref a, .int n, .ref sp] ∧ Lad C H p L S ∧ S.length ≤ 99 ∧ H a = some (.lst (S.map V.int)) ∧ H sp = some (.lst [.int s0, .int s1, .int s2]) ∧ 0 ≤ s1 ∧ s1 < L.w ^ L.h ∧ 0 ≤ s2 ∧ s2 < L.w ^ L.h ∧ 0 ≤ n ∧ n ≤ L.w ^ L.h ∧ ¬ L.own p a ∧ ¬ L.own p sp ∧ ∀ H', Q (.bl true) H'
theorem ok__law_cut (T : Txt K mg A) : FO P w K mg base 9 A._law_cut ["_law_ladder", "_law_row", "_law_at", "_law_spot"] (sp__law_cut A.Ladder) := by
  obtain ⟨fd__law_told, G__law_told, B__law_told⟩ := ok__law_told (P := P) (w := w) (base := base) T
  obtain ⟨fd__law_made, G__law_made, B__law_made⟩ := ok__law_made (P := P) (w := w) (base := base) T
  obtain ⟨fd_cut, G_cut, B_cut⟩ := ok_cut (P := P) (w := w) (base := base) T
  obtain ⟨fd___init__, G___init__, B___init__⟩ := ok___init__ (P := P) (w := w) (base := base) T
  obtain ⟨fd__law_goes_on, G__law_goes_on, B__law_goes_on⟩ := ok__law_goes_on (P := P) (w := w) (base := base) T
  obtain ⟨fd_put, G_put, B_put⟩ := ok_put (P := P) (w := w) (base := base) T
  obtain ⟨fd_take, G_take, B_take⟩ := ok_take (P := P) (w := w) (base := base) T
  obtain ⟨fd__law_by_turns, G__law_by_turns, B__law_by_turns⟩ := ok__law_by_turns (P := P) (w := w) (base := base) T
  obtain ⟨fd__law_woven, G__law_woven, B__law_woven⟩ := ok__law_woven (P := P) (w := w) (base := base) T
  obtain ⟨fd_poured, G_poured, B_poured⟩ := ok_poured (P := P) (w := w) (base := base) T
  obtain ⟨fd__law_refused, G__law_refused, B__law_refused⟩ := ok__law_refused (P := P) (w := w) (base := base) T
  obtain ⟨fd_row, G_row, B_row⟩ := ok_row (P := P) (w := w) (base := base) T
  obtain ⟨fd__law_half, G__law_half, B__law_half⟩ := ok__law_half (P := P) (w := w) (base := base) T
  obtain ⟨fd__law_mated, G__law_mated, B__law_mated⟩ := ok__law_mated (P := P) (w := w) (base := base) T
  have S := sc__law_cut
  refine FO.mk' T.f__law_cut S b__law_cut (fun vs H Q E h => by obtain ⟨_, _, _, _, _, _, _, _, _, rfl, _⟩ := h; rfl) (fun cdv Ar outer s H vs Q E hr h => ?_)
  have hu := hu_of hr
  obtain ⟨p, a, sp, n, L, S0, s0, s1, s2, rfl, Ld, hl, ea, es, a0, a1, b0, b1, n0, n1, noa, nos, k⟩ := h
  have X := Ld.toLadX
  have lt := T.lt
  have ok := Ld.ok
  have w1 := ok.w1
  have w2 := ok.w2
  have h1 := ok.h1
  have h2 := ok.h2
  have hs := Ld.srt
  have tw : ∀ {M : LS}, M.w = L.w → M.h = L.h → M.w ^ M.h = L.w ^ L.h := fun h1 h2 => by rw [h1, h2]
  refine ⟨_, (pss_cons (ps_set (i := 4) S.nd rfl (Or.inl rfl) (k_fld (K := K) rfl (pv 0) rfl))
  (pss_cons (ps_set (i := 5) S.nd rfl (Or.inl rfl) (k_fld (K := K) rfl (pv 0) rfl))
  (pss_cons (ps_set (i := 6) S.nd rfl (Or.inl rfl) (pe_call G__law_told (hr.mono (by decide)) rfl T.g__law_told T.k__law_told B__law_told .nil passL (pa_cons (pv 0) (pa_cons (pv 3) pa_nil))))
  (pss_cons (ps_if (PW.pt (pw_or (pt_not (pt_val (pe_call G__law_by_turns (hr.mono (by decide)) rfl T.g__law_by_turns T.k__law_by_turns B__law_by_turns .nil passL (pa_cons (pv 0) (pa_cons (pv 1) (pa_cons (pv 6) (pa_cons (pv 3) pa_nil))))))) (pw_or1 (pt_not (pt_val (pe_call G__law_woven (hr.mono (by decide)) rfl T.g__law_woven T.k__law_woven B__law_woven .nil passL (pa_cons (pv 1) (pa_cons (pv 6) (pa_cons (pe_lst (pa_cons (pv 4) (pa_cons (pv 5) pa_nil))) (pa_cons (pv 3) pa_nil))))))))))
    (pss_one (ps_ret pe_bl))
    pss_nil)
  (pss_cons (ps_setLc (i := 7) (own := [("_law_number_here", 13)]) (g := gName 13) rfl S.nd rfl rfl (sw_true rfl rfl rfl (by decide +kernel)) (k_iL (K := K) rfl (pv 1)) (blkOk_by (N := N__law_cut) (sc := defScope s__law_cut) (by decide +kernel)) (fun _ _ _ _ _ => pg_name (i := 13) S.nd rfl (Or.inl rfl)) (fun _ _ _ _ _ => (pts_one (pt_cmpR o_ge (pv 13) (pv 2) (nomark _)))) (fun _ _ _ _ _ => (pv 13)))
  (pss_cons (ps_set (i := 8) S.nd rfl (Or.inl rfl) (pe_call G__law_made (hr.mono (by decide)) rfl T.g__law_made T.k__law_made B__law_made .nil passL (pa_cons (pv 4) (pa_cons (pv 5) (pa_cons (pe_lc (own := [("_law_number_here", 13)]) (g := gName 13) (by rfl) S.nd (k_iL (K := K) rfl (pv 1)) (blkOk_by (N := N__law_cut) (sc := defScope s__law_cut) (by decide +kernel)) (fun _ _ _ _ _ => pg_name (i := 13) S.nd rfl (Or.inl rfl)) (fun _ _ _ _ _ => (pts_one (pt_cmpR o_lt (pv 13) (pv 2) (nomark _)))) (fun _ _ _ _ _ => (pv 13))) pa_nil)))))
  (pss_cons (ps_set (i := 9) S.nd rfl (Or.inl rfl) (pe_call G_cut (hr.mono (by decide)) rfl T.g_cut T.k_cut B_cut .nil (passes_call (takes_of rfl rfl rfl rfl) (fun _ _ _ _ z => z)) (pa_cons (pv 0) (pa_cons (pv 2) pa_nil))))
  (pss_cons (ps_set (i := 10) S.nd rfl (Or.inl rfl) (pe_call G__law_told (hr.mono (by decide)) rfl T.g__law_told T.k__law_told B__law_told .nil passL (pa_cons (pe_call G__law_made (hr.mono (by decide)) rfl T.g__law_made T.k__law_made B__law_made .nil passL (pa_cons (pv 4) (pa_cons (pv 5) (pa_cons (pv 7) pa_nil)))) (pa_cons (pv 3) pa_nil))))
  (pss_cons (ps_if (PW.pt (pw_or (pt_cmpR (k_neD (K := K) rfl hr.units) (pe_call G__law_told (hr.mono (by decide)) rfl T.g__law_told T.k__law_told B__law_told .nil passL (pa_cons (pv 9) (pa_cons (pv 3) pa_nil))) (pv 10) (nomark _)) (pw_or1 (pt_cmpR (k_neD (K := K) rfl hr.units) (pe_call G__law_told (hr.mono (by decide)) rfl T.g__law_told T.k__law_told B__law_told .nil passL (pa_cons (pv 0) (pa_cons (pv 3) pa_nil))) (pe_call G__law_told (hr.mono (by decide)) rfl T.g__law_told T.k__law_told B__law_told .nil passL (pa_cons (pv 8) (pa_cons (pv 3) pa_nil))) (nomark _)))))
    (pss_one (ps_ret pe_bl))
    pss_nil)
  (pss_cons (ps_if (PW.pt (pw_or (pt_cmpR o_notN (pe_call G_poured (hr.mono (by decide)) rfl T.g_poured T.k_poured B_poured .nil (passes_call (takes_of rfl rfl rfl rfl) (fun _ _ _ _ z => z)) (pa_cons (pv 0) (pa_cons (pv 9) pa_nil))) pe_non (nomark _)) (pw_or (pt_cmpR (k_neD (K := K) rfl hr.units) (pe_call G__law_told (hr.mono (by decide)) rfl T.g__law_told T.k__law_told B__law_told .nil passL (pa_cons (pv 0) (pa_cons (pv 3) pa_nil))) (pv 6) (nomark _)) (pw_or1 (pt_cmpR (k_neD (K := K) rfl hr.units) (pe_call G__law_told (hr.mono (by decide)) rfl T.g__law_told T.k__law_told B__law_told .nil passL (pa_cons (pv 9) (pa_cons (pv 3) pa_nil))) (pv 10) (nomark _))))))
    (pss_one (ps_ret pe_bl))
    pss_nil)
  (pss_cons (ps_if (PW.pt (pw_and (pt_cmpR (k_neD (K := K) rfl hr.units) (pv 7) (pe_lst pa_nil) (nomark _)) (pw_and1 (pt_cmpR op_ne (pe_call G__law_refused (hr.mono (by decide)) rfl T.g__law_refused T.k__law_refused B__law_refused .nil passL (pa_cons (pv 0) (pa_cons (pv 9) pa_nil))) pe_int (nomark _)))))
    (pss_one (ps_ret pe_bl))
    pss_nil)
  (pss_cons (ps_set (i := 11) S.nd rfl (Or.inr rfl) (pe_make T.mk_Ladder G___init__ (hr.mono (by decide)) rfl T.g_Ladder B___init__ .nil (passes_call (takes_of rfl rfl rfl rfl) (fun _ _ _ _ z => z)) (pa_cons (pv 4) (pa_cons (pe_op o_add (pe_op o_mod (pv 5) pe_int) pe_int) pa_nil))))
  (pss_consC (ps_if (PW.pt (pw_and (pt_cmpR o_lt (pv 4) pe_int (nomark _)) (pw_and1 (pt_cmpR op_eq (pe_op o_mod (pv 5) pe_int) pe_int (nomark _)))))
    (pss_one (ps_set (i := 11) S.nd rfl (Or.inr rfl) (pe_make T.mk_Ladder G___init__ (hr.mono (by decide)) rfl T.g_Ladder B___init__ .nil (passes_call (takes_of rfl rfl rfl rfl) (fun _ _ _ _ z => z)) (pa_cons (pe_op o_mul (pv 4) (pv 4)) (pa_cons (pe_op o_div (pv 5) pe_int) pa_nil)))))
    pss_nil)
  (pss_cons (ps_setLc (i := 12) (own := [("_law_number_here", 13)]) (g := gName 13) rfl S.nd rfl rfl (sw_true rfl rfl rfl (by decide +kernel)) (k_iL (K := K) rfl (pe_slice (k_slL (K := K) rfl) (pv 7) po_none (po_some pe_int))) (blkOk_by (N := N__law_cut) (sc := defScope s__law_cut) (by decide +kernel)) (fun _ _ _ _ _ => pg_name (i := 13) S.nd rfl (Or.inl rfl)) (fun _ _ _ _ _ => (pts_one (pt_cmpR o_lt (pv 13) (k_fld (K := K) rfl (pv 11) rfl) (nomark _)))) (fun _ _ _ _ _ => (pv 13)))
  (pss_cons (ps_for (passes_of rfl) rfl (k_iL (K := K) rfl (pv 12)) (pg_name (i := 13) S.nd rfl (Or.inl rfl))
    (pss_one (ps_expr (pe_meth (pv 11) T.lt.cl T.m_put G_put (hr.mono (by decide)) B_put .nil (passes_call (takes_of rfl rfl rfl rfl) (fun _ _ _ _ z => z)) (pa_cons (pv 13) pa_nil)))))
  (pss_cons (ps_if (PW.pt (pw_or (pt_cmpR op_ne (pe_call G__law_refused (hr.mono (by decide)) rfl T.g__law_refused T.k__law_refused B__law_refused .nil passL (pa_cons (pv 11) (pa_cons (pv 9) pa_nil))) pe_int (nomark _)) (pw_or (pt_cmpR (k_neD (K := K) rfl hr.units) (pe_meth0 (pv 11) T.lt.cl T.m_row G_row (hr.mono (by decide)) B_row .nil passL) (pv 12) (nomark _)) (pw_or1 (pt_cmpR op_ne (pe_call G__law_refused (hr.mono (by decide)) rfl T.g__law_refused T.k__law_refused B__law_refused .nil passL (pa_cons (pe_make T.mk_Ladder G___init__ (hr.mono (by decide)) rfl T.g_Ladder B___init__ .nil (passes_call (takes_of rfl rfl rfl rfl) (fun _ _ _ _ z => z)) (pa_cons (pe_op o_add (pe_op o_mod (pv 4) pe_int) pe_int) (pa_cons (pv 5) pa_nil))) (pa_cons (pv 9) pa_nil))) pe_int (nomark _))))))
    (pss_one (ps_ret pe_bl))
    pss_nil)
  (pss_cons (ps_if (PW.pt (pw_or (pt_not (pt_val (pe_call G__law_half (hr.mono (by decide)) rfl T.g__law_half T.k__law_half B__law_half .nil passL (pa_cons (pv 0) (pa_cons (pv 1) (pa_cons (pv 3) pa_nil)))))) (pw_or1 (pt_not (pt_val (pe_call G__law_mated (hr.mono (by decide)) rfl T.g__law_mated T.k__law_mated B__law_mated .nil passL (pa_cons (pv 11) (pa_cons (pv 12) pa_nil))))))))
    (pss_one (ps_ret pe_bl))
    pss_nil)
  (pss_cons (ps_if (PW.pt (pw_or (pt_cmpR (k_neD (K := K) rfl hr.units) (pe_call G__law_told (hr.mono (by decide)) rfl T.g__law_told T.k__law_told B__law_told .nil passL (pa_cons (pv 0) (pa_cons (pv 3) pa_nil))) (pv 6) (nomark _)) (pw_or1 (pt_cmpR (k_neD (K := K) rfl hr.units) (pe_call G__law_told (hr.mono (by decide)) rfl T.g__law_told T.k__law_told B__law_told .nil passL (pa_cons (pv 9) (pa_cons (pv 3) pa_nil))) (pv 10) (nomark _)))))
    (pss_one (ps_ret pe_bl))
    pss_nil)
  (pss_cons (ps_for (passes_of rfl) rfl (k_iL (K := K) rfl (pv 7)) (pg_name (i := 13) S.nd rfl (Or.inl rfl))
    (pss_one (ps_expr (pe_meth (pv 0) T.lt.cl T.m_take G_take (hr.mono (by decide)) B_take .nil (passes_call (takes_of rfl rfl rfl rfl) (fun _ _ _ _ z => z)) (pa_cons (pv 13) pa_nil)))))
  (pss_cons (ps_if (PW.pt (pw_or (pt_cmpR op_ne (pe_call G__law_refused (hr.mono (by decide)) rfl T.g__law_refused T.k__law_refused B__law_refused .nil passL (pa_cons (pv 0) (pa_cons (pv 9) pa_nil))) pe_int (nomark _)) (pw_or (pt_cmpR (k_neD (K := K) rfl hr.units) (pe_call G__law_told (hr.mono (by decide)) rfl T.g__law_told T.k__law_told B__law_told .nil passL (pa_cons (pv 0) (pa_cons (pv 3) pa_nil))) (pv 6) (nomark _)) (pw_or1 (pt_cmpR (k_neD (K := K) rfl hr.units) (pe_call G__law_told (hr.mono (by decide)) rfl T.g__law_told T.k__law_told B__law_told .nil passL (pa_cons (pv 9) (pa_cons (pv 3) pa_nil))) (pv 10) (nomark _))))))
    (pss_one (ps_ret pe_bl))
    pss_nil)
  (pss_one (ps_ret (pe_call G__law_goes_on (hr.mono (by decide)) rfl T.g__law_goes_on T.k__law_goes_on B__law_goes_on .nil passL (pa_cons (pv 0) (pa_cons (pv 9) (pa_cons (pv 1) (pa_cons (pv 7) (pa_cons (pv 3) pa_nil)))))))))))))))))))))))))))), ?_⟩
  walk_at "gb"
  refine ⟨p, sp, L, S0, s0, s1, s2, L.own p, rfl, Ld, es, a0, a1, b0, b1, zok_own X, fun wh H1 nwh t1 dw1 => ?_⟩
  walk_at "gb"
  refine ⟨p, a, wh, sp, L, S0, s0, s1, s2, rfl, Ld.same t1, hl, t1 _ _ ea, t1 _ _ es, a0, a1, b0, b1, noa, nos, dw1, fun H2 kp2 Ld2 => ?_⟩
  have kp02 := (Same.keeps t1).trans kp2
  have ea2 := kp02 _ _ ea noa
  have es2 := kp02 _ _ es nos
  have dw2 := keep_dp kp2 dw1
  walk_at "gb"
  refine g_newL (by show 2 ≤ 1000; decide) fun sz H3 nsz t3 ez => ?_
  walk_at "gb"
  refine ⟨a, wh, sz, sp, L.w, L.h, S0, s0, s1, s2, rfl, w1, w2, h1, h2, hs, Ld.lo, Ld.hi, by omega, t3 _ _ ea2, ez, t3 _ _ es2, a0, a1, b0, b1, Dp.mono rst_le _ _ (keep_dp (Same.keeps t3) dw2), fun H4 t4 => ?_⟩
  have t24 := t3.trans t4
  have Ld4 := Ld2.same t24
  have X4 := Ld4.toLadX
  have ea4 := t24 _ _ ea2
  have es4 := t24 _ _ es2
  have dw4 := keep_dp (Same.keeps t24) dw2
  have hal := halves_at hs n
  have hlen := hal.len hs
  have elo : ∀ x ∈ S0.filter (fun z => decide (z < n)), x ∈ S0 := fun x hx => (List.mem_filter.mp hx).1
  have ehi : ∀ x ∈ S0.filter (fun z => decide (n ≤ z)), x ∈ S0 := fun x hx => (List.mem_filter.mp hx).1
  walk_at "gb"
  refine g_lit (.of ea4) ?_
  refine g_lcF (p := fun z => decide (n ≤ z)) (.of ea4) (by omega) (fun _ => rfl) (fun _ => rfl) (fun x H' R hx s hR => ?_) fun r H5 nr t5 er5 => ?_
  · walk_at "gb"
    exact hR
  walk_at "gb"
  refine g_lit (.of (t5 _ _ ea4)) ?_
  refine g_lcF (p := fun z => decide (z < n)) (.of (t5 _ _ ea4)) (by omega) (fun _ => rfl) (fun _ => rfl) (fun x H' R hx s hR => ?_) fun lf H6 nlf t6 elf => ?_
  · walk_at "gb"
    exact hR
  generalize eA : (S0.filter fun z => decide (z < n)) = Lo at *
  generalize eR : (S0.filter fun z => decide (n ≤ z)) = R0 at *
  walk_at "gb"
  refine ⟨lf, L.w, L.h, Lo, rfl, elf, w1, w2, h1, h2, hal.sx, fun z hz => Ld.lo z (elo z hz), fun z hz => Ld.hi z (elo z hz), by omega, fun f1 M1 H7 nf1 e1w e1h t7 fr1 Md1 => ?_⟩
  have t47 := (t5.trans t6).trans t7
  have Ld7 := Ld4.same t47
  have dis1 : ∀ b, M1.own f1 b → ¬ L.own p b := own_dis (Ld4.same (t5.trans t6)) fr1
  have nor : ¬ L.own p r := own_no X4 nr
  have er7 := (t6.trans t7) _ _ er5
  have dw7 := keep_dp (Same.keeps t47) dw4
  walk_at "gb"
  refine ⟨p, n, L, S0, rfl, Ld7, fun bad => absurd ⟨n0, n1⟩ bad, fun _ _ f M H8 nf eMw eMh kp8 frM Md8 Ld8 => ?_⟩
  rw [eR] at Md8
  rw [eA] at Ld8
  have eMlim := tw eMw eMh
  have dis : ∀ b, M.own f b → ¬ L.own p b := own_dis Ld7 frM
  have Md18 := Md1.keep kp8 dis1
  have ea8 := kp8 _ _ (t47 _ _ ea4) noa
  have es8 := kp8 _ _ (t47 _ _ es4) nos
  have er8 := kp8 _ _ er7 nor
  have dw8 := keep_dp kp8 dw7
  have mfa : ¬ M.own f a := fun z => by have := t47 _ _ ea4; rw [frM a z] at this; cases this
  have mfs : ¬ M.own f sp := fun z => by have := t47 _ _ es4; rw [frM sp z] at this; cases this
  have mfr : ¬ M.own f r := fun z => by rw [frM r z] at er7; cases er7
  walk_at "gb"
  refine ⟨r, L.w, L.h, R0, rfl, er8, w1, w2, h1, h2, hal.sy, fun z hz => Ld.lo z (ehi z hz), fun z hz => Ld.hi z (ehi z hz), by omega, fun f3 M3 H9 nf3 e3w e3h t9 fr3 Md3 => ?_⟩
  walk_at "gb"
  refine ⟨f3, sp, M3, R0, s0, s1, s2, L.own p, rfl, Md3, t9 _ _ es8, a0, by rw [tw e3w e3h]; exact a1, b0, by rw [tw e3w e3h]; exact b1, zok_own (Ld8.same t9).toLadX, fun du H10 ndu t10 dd10 => ?_⟩
  rw [e3w, e3h] at dd10
  have t810 := t9.trans t10
  -- all that is to stay, at H10
  have Ld10 := Ld8.same t810
  have Md10 := Md8.same t810
  have Md110 := Md18.same t810
  have ea10 := t810 _ _ ea8
  have es10 := t810 _ _ es8
  have er10 := t810 _ _ er8
  have dw10 := keep_dp (Same.keeps t810) dw8
  -- told of the ladder, and of the part, wherever they stand
  have tellP : ∀ {H' : Hp} {Q : VK} {E : XK} (v : V), Keeps L p H10 H' → (∀ q H'', Same H' H'' → Dp K H'' (.ref q) (.list (toldD L.w L.h R0 s0 s1 s2)) → Q (.ref q) H'') → sp__law_told K A.Ladder [.ref f, .ref sp] H' Q E := fun {H' Q E} _ kp q => by
    refine ⟨f, sp, M, R0, s0, s1, s2, fun _ => False, rfl, Md10.keep kp dis, kp _ _ es10 nos, a0, by rw [eMlim]; exact a1, b0, by rw [eMlim]; exact b1, zok_none, fun x H'' _ t d => ?_⟩
    rw [eMw, eMh] at d
    exact q x H'' t (Dp.mono rst_le _ _ d)
  have tellL : ∀ {H' : Hp} {S : List Int} {Q : VK} {E : XK}, Keeps L p H10 H' → Lad A.Ladder H' p L S → (∀ q H'', Same H' H'' → Dp K H'' (.ref q) (.list (toldD L.w L.h S s0 s1 s2)) → Q (.ref q) H'') → sp__law_told K A.Ladder [.ref p, .ref sp] H' Q E := fun {H' S Q E} kp Ld' q =>
    ⟨p, sp, L, S, s0, s1, s2, fun _ => False, rfl, Ld', kp _ _ es10 nos, a0, a1, b0, b1, zok_none, fun x H'' _ t d => q x H'' t (Dp.mono rst_le _ _ d)⟩
  have dwA : ∀ {H' : Hp}, Keeps L p H10 H' → Dp K H' (.ref wh) (.list (toldD L.w L.h S0 s0 s1 s2)) := fun kp => Dp.mono rst_le _ _ (keep_dp kp dw10)
  have ddA : ∀ {H' : Hp}, Keeps L p H10 H' → Dp K H' (.ref du) (.list (toldD L.w L.h R0 s0 s1 s2)) := fun kp => Dp.mono rst_le _ _ (keep_dp kp dd10)
  walk_at "gb"
  refine tellP .non .refl fun q11 H11 t11 d11 => ?_
  walk_at "gb"
  refine g_neD d11 (ddA (Same.keeps t11)) told_sh ?_
  walk_at "gb"
  refine tellL (Same.keeps t11) (Ld10.same t11) fun q12 H12 t12 d12 => ?_
  have t1012 := t11.trans t12
  walk_at "gb"
  refine ⟨f1, sp, M1, Lo, s0, s1, s2, fun _ => False, rfl, Md110.same t1012, t1012 _ _ es10, a0, by rw [tw e1w e1h]; exact a1, b0, by rw [tw e1w e1h]; exact b1, zok_none, fun q13 H13 n13 t13 d13 => ?_⟩
  have d13 := Dp.mono rst_le _ _ d13
  rw [e1w, e1h] at d13
  have t1013 := t1012.trans t13
  refine g_neD (Dp.mono t13 _ _ d12) d13 told_sh ?_
  walk_at "gb"
  refine ⟨p, f, L, M, Lo, R0, rfl, Ld10.same t1013, Md10.same t1013, fun ne => absurd ⟨eMw.symm, eMh.symm⟩ ne, fun _ _ x hx hy => absurd hy (hal.dis x hx), fun _ _ _ => ⟨by omega, fun H14 kp14 Ld14 => ?_⟩⟩
  rw [hal.uni hs] at Ld14
  have kp1014 := (Same.keeps t1013).trans kp14
  walk_at "gb"
  rw [show decide (V.non = V.non) = true from rfl]
  walk_at "gb"
  refine tellL kp1014 Ld14 fun q15 H15 t15 d15 => ?_
  have kp1015 := kp1014.same t15
  walk_at "gb"
  refine g_neD d15 (dwA kp1015) told_sh ?_
  walk_at "gb"
  refine tellP .non kp1015 fun q16 H16 t16 d16 => ?_
  have kp1016 := kp1015.same t16
  walk_at "gb"
  refine g_neD d16 (ddA kp1016) told_sh ?_
  have Ld16 := (Ld14.same t15).same t16
  walk_at "gw"
  refine g_ifP false (fun H17 => Same H16 H17) (fun R hR => ?_) (fun z => nomatch z) (fun _ H17 t17 => ?_)
  · walk_at "gb"
    refine g_newL (by decide) fun nl H17 nn t17 e17 => ?_
    have kp17 := kp1016.same t17
    refine g_neNil (dp_ints (.of (kp17 _ _ er10 nor))) (dp_nil (.of e17)) (sh_ints (k := 0) _) ?_
    walk_at "gb"
    refine g_ite (fun e => ?_) (fun _ => ?_)
    · obtain ⟨x, xr⟩ : ∃ x, x ∈ R0 := by
        cases R0 with
        | nil => cases e
        | cons x _ => exact ⟨x, List.mem_cons_self⟩
      walk_at "gb"
      refine ⟨p, f, L, M, S0, R0, rfl, Ld16.same t17, Md10.keep kp17 dis, fun ne => absurd ⟨eMw.symm, eMh.symm⟩ ne, fun _ _ _ _ _ H18 t18 => ?_, fun _ _ d => absurd xr (d x ((hal.mem x).mpr (.inr xr)))⟩
      walk_at "gb"
      exact hR _ (t17.trans t18)
    · exact hR _ t17
  have kp1017 := kp1016.same t17
  have Ld17 := Ld16.same t17
  -- a ladder of another size
  have mk : ∀ {w h : Int} {Q : VK} {E : XK} {H' : Hp}, 2 ≤ w ∧ w ≤ 9 ∧ 1 ≤ h ∧ h ≤ 12 → ¬ (w = L.w ∧ h = (L.h : Int)) → (∀ o (N : LS) H'', H' o = none → ¬ (N.w = L.w ∧ N.h = L.h) → Lad A.Ladder H'' o N [] → Same H' H'' → (∀ b, N.own o b → H' b = none) → Q (.ref o) H'') → dMake A.Ladder (sp_init A.Ladder A.BadSize) E [.int w, .int h] H' Q := fun {w h Q E H'} b ne q =>
    g_ladder b fun o N H'' no ew eh Nd t fr => q o N H'' no (fun z => ne ⟨ew ▸ z.1, by rw [← eh, z.2]⟩) Nd t fr
  walk_at "gb"
  refine mk ⟨w1, w2, by omega, by omega⟩ (fun z => by omega) fun o1 N1 H18 no1 ne1 Nd18 t18 fro1 => ?_
  walk_at "gb"
  refine g_cut (fun σ' H19 => Same H17 H19 ∧ ∃ (ot : Addr) (N : LS), Lad A.Ladder H19 ot N [] ∧ ¬ (N.w = L.w ∧ N.h = L.h) ∧ (∀ b, N.own ot b → H17 b = none) ∧ σ' = [some (.ref p), some (.ref a), some (.int n), some (.ref sp), some (.int L.w), some (.int (L.h : Int)), some (.ref wh), some (.ref r), some (.ref f1), some (.ref f), some (.ref du), some (.ref ot), none, none]) (fun N hN => ?_) ?_
  · have plain : N [some (.ref p), some (.ref a), some (.int n), some (.ref sp), some (.int L.w), some (.int (L.h : Int)), some (.ref wh), some (.ref r), some (.ref f1), some (.ref f), some (.ref du), some (.ref o1), none, none] H18 := hN _ _ ⟨t18, o1, N1, Nd18, ne1, fro1, rfl⟩
    walk_at "gb"
    refine g_ite (fun e => ?_) (fun _ => ?_)
    · have e := of_decide_eq_true e
      walk_at "gb"
      refine g_ite (fun e2 => ?_) (fun _ => ?_)
      · have e2 := of_decide_eq_true e2
        have ww : 4 ≤ L.w * L.w ∧ L.w * L.w ≤ 9 ∧ L.w * L.w ≠ L.w := by
          obtain q | q : L.w = 2 ∨ L.w = 3 := by omega
          · rw [q]; decide
          · rw [q]; decide
        walk_at "gb"
        refine g_mul (.inr (by omega)) ?_
        walk_at "gb"
        refine mk ⟨by omega, by omega, by omega, by omega⟩ (fun z => ww.2.2 z.1) fun o2 N2 H19 no2 ne2 Nd19 t19 fro2 => ?_
        walk_at "gb"
        exact hN _ _ ⟨t18.trans t19, o2, N2, Nd19, ne2, fun b z => t18.free (fro2 b z), rfl⟩
      · walk_at "gb"
        exact plain
    · walk_at "gb"
      exact plain
  rintro σ' H19 ⟨t19, ot, N, Nd19, neN, froN, rfl⟩
  clear Nd18 fro1 ne1
  have kp1019 := kp1017.same t19
  have limN := two_le Nd19.ok
  have Y19 := Nd19.toLadX
  have er19 := kp1019 _ _ er10 nor
  walk_at "gb"
  refine g_sl0 ?_
  walk_at "gb"
  refine g_noPart (g_part (g_sliceX (.of er19) fun q20 H20 n20 t20 e20 => ?_))
  rw [cut_t1] at e20
  refine g_lit (.of e20) ?_
  refine g_lcF (p := fun z => decide (z < N.w ^ N.h)) (.of e20) (by rw [List.length_take]; omega) (fun _ => rfl) (fun _ => rfl) (fun x H' R hx s hR => ?_) fun ow H21 now t21 eow => ?_
  · have YN := ((Nd19.same t20).same s).toLadX
    walk_at "gb"
    exact hR
  have osr : Sk.Srt ((R0.take 1).filter fun z => decide (z < N.w ^ N.h)) := Sk.srt_filter (Sk.srt_take hal.sy 1) _
  have osl : ((R0.take 1).filter fun z => decide (z < N.w ^ N.h)).length ≤ 1 := Nat.le_trans (List.length_filter_le _ _) (by rw [List.length_take]; omega)
  have osb : ∀ z ∈ (R0.take 1).filter (fun z => decide (z < N.w ^ N.h)), 0 ≤ z ∧ z < N.w ^ N.h := fun z hz => by
    obtain ⟨h1, h2⟩ := List.mem_filter.mp hz
    exact ⟨Ld.lo z (ehi z (List.mem_of_mem_take h1)), of_decide_eq_true h2⟩
  generalize ((R0.take 1).filter fun z => decide (z < N.w ^ N.h)) = O at *
  have t1921 := t20.trans t21
  have Nd21 := Nd19.same t1921
  have noow : ¬ N.own ot ow := own_no (Nd19.same t20).toLadX now
  have fr17 : ∀ b, N.own ot b → H17 b = none := froN
  have kp1721 : Same H17 H21 := t19.trans t1921
  walk_at "gb"
  refine g_lit (.of eow) ?_
  refine for_list (K := K) (a := ow) (xs := O.map V.int) (fun i σ H' => Same H17 H' ∧ Lad A.Ladder H' ot N (O.take i) ∧ H' ow = some (.lst (O.map V.int)) ∧ ∃ v13 : Option V, σ = [some (.ref p), some (.ref a), some (.int n), some (.ref sp), some (.int L.w), some (.int (L.h : Int)), some (.ref wh), some (.ref r), some (.ref f1), some (.ref f), some (.ref du), some (.ref ot), some (.ref ow), v13])
    ⟨kp1721, Nd21, eow, none, rfl⟩ (fun i σ H' _ ⟨_, _, e, _⟩ => .of e) ?_ ?_
  · rintro i x σ H' hi ⟨t22, Nd', eo', v13, rfl⟩
    obtain ⟨z, hz, rfl⟩ := map_get hi
    have zb := osb z (List.mem_of_getElem? hz)
    have it := ins_take osr hz
    have Y' := Nd'.toLadX
    walk_at "gb"
    refine ⟨ot, z, N, _, rfl, Nd', fun _ _ _ => ⟨by rw [List.length_take]; omega, fun u H23 kp23 nu tu Nd23 => ?_⟩, fun q => absurd zb q, fun _ _ q => absurd q it.2⟩
    rw [it.1] at Nd23
    walk_at "gb"
    exact ⟨keeps_fresh t22 kp23 fr17, Nd23, kp23 _ _ eo' noow, _, rfl⟩
  rintro σ H22 ⟨t22, Nd22, eo22, v13, rfl⟩
  rw [List.length_map, List.take_length] at Nd22
  have kp1022 := kp1017.same t22
  have Y22 := Nd22.toLadX
  walk_at "gb"
  refine ⟨ot, f, N, M, O, R0, rfl, Nd22, Md10.keep kp1022 dis, fun _ => ?_, fun z1 z2 => absurd ⟨z1.trans eMw, z2.trans eMh⟩ neN, fun z1 z2 => absurd ⟨z1.trans eMw, z2.trans eMh⟩ neN⟩
  walk_at "gb"
  rw [show decide ((1 : Int) = 1) = true from rfl]
  walk_at "gb"
  refine ⟨ot, N, O, rfl, Nd22, fun q23 H23 n23 t23 e23 => ?_⟩
  walk_at "gb"
  refine g_neD (dp_ints (.of e23)) (dp_ints (.of (t23 _ _ eo22))) (sh_ints (k := 0) _) ?_
  walk_at "gb"
  refine mk ⟨by omega, by omega, by omega, by omega⟩ (fun z => by omega) fun o3 N3 H24 no3 ne3 Nd24 t24' fro3 => ?_
  have t2224 := t23.trans t24'
  have kp1024 := kp1022.same t2224
  walk_at "gb"
  refine ⟨o3, f, N3, M, [], R0, rfl, Nd24, Md10.keep kp1024 dis, fun _ => ?_, fun z1 z2 => absurd ⟨z1.trans eMw, z2.trans eMh⟩ ne3, fun z1 z2 => absurd ⟨z1.trans eMw, z2.trans eMh⟩ ne3⟩
  walk_at "gb"
  rw [show decide ((1 : Int) = 1) = true from rfl]
  walk_at "gb"
  have Ld24 := (Ld17.same t22).same t2224
  refine ⟨p, a, sp, L, S0, s0, s1, s2, rfl, Ld24, kp1024 _ _ ea10 noa, kp1024 _ _ es10 nos, a0, a1, b0, b1, fun H25 t25 => ?_⟩
  have t2225 := t2224.trans t25
  walk_at "gb"
  refine ⟨ot, ow, N, O, rfl, Nd22.same t2225, t2225 _ _ eo22, by omega, noow, fun H26 kp26 => ?_⟩
  have t1726 : Same H17 H26 := keeps_fresh (t22.trans t2225) kp26 fr17
  have kp1026 := kp1017.same t1726
  have Ld26 := Ld17.same t1726
  walk_at "gb"
  refine tellL kp1026 Ld26 fun q27 H27 t27 d27 => ?_
  have kp1027 := kp1026.same t27
  walk_at "gb"
  refine g_neD d27 (dwA kp1027) told_sh ?_
  walk_at "gb"
  refine tellP .non kp1027 fun q28 H28 t28 d28 => ?_
  have kp1028 := kp1027.same t28
  have Ld28 := (Ld26.same t27).same t28
  walk_at "gb"
  refine g_neD d28 (ddA kp1028) told_sh ?_
  walk_at "gb"
  have er28 := kp1028 _ _ er10 nor
  refine g_lit (.of er28) ?_
  refine for_list (K := K) (a := r) (xs := R0.map V.int) (fun i σ H' => Keeps L p H10 H' ∧ Lad A.Ladder H' p L (S0.filter fun z => decide (z ∉ R0.take i)) ∧ ∃ v13 : Option V, σ = [some (.ref p), some (.ref a), some (.int n), some (.ref sp), some (.int L.w), some (.int (L.h : Int)), some (.ref wh), some (.ref r), some (.ref f1), some (.ref f), some (.ref du), some (.ref ot), some (.ref ow), v13])
    ⟨kp1028, by
      have : (S0.filter fun z => decide (z ∉ R0.take 0)) = S0 := List.filter_eq_self.mpr fun z _ => by simp
      rw [this]; exact Ld28, _, rfl⟩ (fun i σ H' _ ⟨kp, _⟩ => .of (kp _ _ er10 nor)) ?_ ?_
  · rintro i x σ H' hi ⟨kp', Ld', v13, rfl⟩
    obtain ⟨z, hz, rfl⟩ := map_get hi
    have zR := List.mem_of_getElem? hz
    have zS := ehi z zR
    have it := ins_take hal.sy hz
    have zin : z ∈ S0.filter fun z => decide (z ∉ R0.take i) := List.mem_filter.mpr ⟨zS, decide_eq_true it.2⟩
    have X' := Ld'.toLadX
    walk_at "gb"
    refine ⟨p, z, L, _, rfl, Ld', fun _ _ _ u H29 kp29 nu tu Ld29 => ?_, fun q => absurd ⟨Ld.lo z zS, Ld.hi z zS⟩ q, fun _ _ q => absurd zin q⟩
    walk_at "gb"
    refine ⟨kp'.trans kp29, ?_, _, rfl⟩
    have : (S0.filter fun z => decide (z ∉ R0.take (i + 1))) = Sk.del (S0.filter fun z => decide (z ∉ R0.take i)) z := by
      unfold Sk.del
      rw [List.filter_filter]
      refine List.filter_congr fun y _ => ?_
      rw [Sk.take_snoc hz, ← Bool.decide_and, decide_eq_decide, List.mem_append, List.mem_singleton]
      constructor
      · intro h; exact ⟨fun q => h (.inr q), fun q => h (.inl q)⟩
      · rintro ⟨h1, h2⟩ (q | q)
        · exact h2 q
        · exact h1 q
    rw [this]; exact Ld29
  rintro σ H29 ⟨kp29, Ld29, v14, rfl⟩
  rw [List.length_map, List.take_length] at Ld29
  have eLo : (S0.filter fun z => decide (z ∉ R0)) = Lo := by
    refine Sk.srt_ext (Sk.srt_filter hs _) hal.sx fun z => ?_
    rw [List.mem_filter, decide_eq_true_eq, hal.mem]
    constructor
    · rintro ⟨h | h, h2⟩
      · exact h
      · exact absurd h h2
    · intro h; exact ⟨.inl h, hal.dis z h⟩
  rw [eLo] at Ld29
  walk_at "gb"
  refine ⟨p, f, L, M, Lo, R0, rfl, Ld29, Md10.keep kp29 dis, fun ne => absurd ⟨eMw.symm, eMh.symm⟩ ne, fun _ _ x hx hy => absurd hy (hal.dis x hx), fun _ _ _ => ⟨by omega, fun H30 kp30 Ld30 => ?_⟩⟩
  rw [hal.uni hs] at Ld30
  have kp1030 := kp29.trans kp30
  walk_at "gb"
  rw [show decide ((0 : Int) = 0) = true from rfl]
  walk_at "gb"
  refine tellL kp1030 Ld30 fun q31 H31 t31 d31 => ?_
  have kp1031 := kp1030.same t31
  walk_at "gb"
  refine g_neD d31 (dwA kp1031) told_sh ?_
  walk_at "gb"
  refine tellP .non kp1031 fun q32 H32 t32 d32 => ?_
  have kp1032 := kp1031.same t32
  walk_at "gb"
  refine g_neD d32 (ddA kp1032) told_sh ?_
  walk_at "gb"
  refine ⟨p, f, a, r, sp, L, M, S0, R0, s0, s1, s2, rfl, (Ld30.same t31).same t32, Md10.keep kp1032 dis, eMw, eMh, dis, hl, by omega, kp1032 _ _ ea10 noa, kp1032 _ _ er10 nor, kp1032 _ _ es10 nos, a0, a1, b0, b1, noa, nor, nos, mfa, mfr, mfs, fun H33 => ?_⟩
  exact k _
end
end Lk

namespace Lk
open PySem PySem.Spec PyProof.Rows L2
section
variable {P : Program} {w : World} {K : PySem.W.Frag} {mg : Str → Option Value} {base : Heap} {A : Ads}
theorem ok_law {f : Addr} {fd : FuncData} (F : Fun K "law" "law" s_law f fd) (T : Txt K mg A) : FnOk P w K mg base CX0 10 f fd ["_law_script"] (spLaw K) := by
  obtain ⟨fd___init__, G___init__, B___init__⟩ := ok___init__ (P := P) (w := w) (base := base) T
  obtain ⟨fd__law_number, G__law_number, B__law_number⟩ := ok__law_number (P := P) (w := w) (base := base) T
  obtain ⟨fd__law_cut, G__law_cut, B__law_cut⟩ := ok__law_cut (P := P) (w := w) (base := base) T
  obtain ⟨fd__law_deed, G__law_deed, B__law_deed⟩ := ok__law_deed (P := P) (w := w) (base := base) T
  obtain ⟨fd__law_told, G__law_told, B__law_told⟩ := ok__law_told (P := P) (w := w) (base := base) T
  obtain ⟨fd__law_cell_at, G__law_cell_at, B__law_cell_at⟩ := ok__law_cell_at (P := P) (w := w) (base := base) T
  obtain ⟨fd__law_made, G__law_made, B__law_made⟩ := ok__law_made (P := P) (w := w) (base := base) T
  obtain ⟨fd__law_refused_by_any, G__law_refused_by_any, B__law_refused_by_any⟩ := ok__law_refused_by_any (P := P) (w := w) (base := base) T
  have S := sc_law
  refine F.ok S (fun vs H Q E h => by obtain ⟨_, _, rfl, _⟩ := h; rfl) (fun cdv Ar outer s H vs Q E hr h => ?_)
  have hu := hu_of hr
  obtain ⟨a, ns, rfl, hS, hlen, k⟩ := h
  have lt := T.lt
  refine ⟨_, (pss_cons (ps_set (i := 1) S.nd rfl (Or.inl rfl) (pe_op o_add pe_int (pe_op o_mod (pe_call G__law_cell_at (hr.mono (by decide)) rfl T.g__law_cell_at T.k__law_cell_at B__law_cell_at .nil passL (pa_cons (pv 0) (pa_cons pe_int pa_nil))) pe_int)))
  (pss_cons (ps_set (i := 2) S.nd rfl (Or.inl rfl) (pe_op o_add pe_int (pe_op o_mod (pe_call G__law_cell_at (hr.mono (by decide)) rfl T.g__law_cell_at T.k__law_cell_at B__law_cell_at .nil passL (pa_cons (pv 0) (pa_cons pe_int pa_nil))) pe_int)))
  (pss_cons (ps_set (i := 3) S.nd rfl (Or.inl rfl) pe_int)
  (pss_cons (ps_for PassesOwn.never rfl (pi_range1 rfl T.z_range (pa_cons (pv 2) pa_nil)) (pg_name (i := 4) S.nd rfl (Or.inl rfl))
    (pss_one (ps_set (i := 3) S.nd rfl (Or.inl rfl) (pe_op o_mul (pv 3) (pv 1)))))
  (pss_cons (ps_set (i := 5) S.nd rfl (Or.inl rfl) (pe_make T.mk_Ladder G___init__ (hr.mono (by decide)) rfl T.g_Ladder B___init__ .nil passL (pa_cons (pv 1) (pa_cons (pv 2) pa_nil))))
  (pss_cons (ps_set (i := 6) S.nd rfl (Or.inl rfl) pe_dnewK)
  (pss_cons (ps_set (i := 7) S.nd rfl (Or.inl rfl) (pe_slice (k_slL (K := K) rfl) (pv 0) (po_some pe_int) (po_some pe_int)))
  (pss_consC (ps_if (pt_cmpR op_eq (pe_op o_mod (pe_call G__law_cell_at (hr.mono (by decide)) rfl T.g__law_cell_at T.k__law_cell_at B__law_cell_at .nil passL (pa_cons (pv 0) (pa_cons pe_int pa_nil))) pe_int) pe_int (nomark _))
    (pss_one (ps_setLc (i := 7) (own := [("_law_k", 13)]) (g := gName 13) (tt := tYes) rfl S.nd rfl rfl (sw_true rfl rfl rfl (by decide +kernel)) (pi_range1 rfl T.z_range (pa_cons pe_int pa_nil)) (blkOk_by (N := N_law) (sc := defScope s_law) (by decide +kernel)) (fun _ _ _ _ _ => pg_name (i := 13) S.nd rfl (Or.inl rfl)) (fun _ _ _ _ _ => pts_nil) (fun _ _ _ _ _ => (pe_op o_mul pe_int (pe_op o_add (pe_op o_mul pe_int (pe_op o_add (pe_call G__law_cell_at (hr.mono (by decide)) rfl T.g__law_cell_at T.k__law_cell_at B__law_cell_at .nil passL (pa_cons (pv 0) (pa_cons pe_int pa_nil))) (pe_op o_mul (pe_op o_mul pe_int (pv 13)) (pv 13)))) pe_int)))))
    pss_nil)
  (pss_cons (ps_for PassesOwn.never rfl (k_iL (K := K) rfl (pv 7)) (pg_name (i := 8) S.nd rfl (Or.inl rfl))
    (pss_one (ps_expr (pe_call G__law_deed (hr.mono (by decide)) rfl T.g__law_deed T.k__law_deed B__law_deed .nil passL (pa_cons (pv 5) (pa_cons (pv 6) (pa_cons (pv 8) (pa_cons (pv 3) pa_nil))))))))
  (pss_cons (ps_set (i := 6) S.nd rfl (Or.inl rfl) (pe_callB (c_sortD rfl) (by rfl) T.z_sorted (by decide +kernel) (pa_cons (pv 6) pa_nil)))
  (pss_cons (ps_set (i := 9) S.nd rfl (Or.inl rfl) (pe_call G__law_number (hr.mono (by decide)) rfl T.g__law_number T.k__law_number B__law_number .nil passL (pa_cons (pe_op o_div (pe_call G__law_cell_at (hr.mono (by decide)) rfl T.g__law_cell_at T.k__law_cell_at B__law_cell_at .nil passL (pa_cons (pv 0) (pa_cons pe_int pa_nil))) pe_int) (pa_cons (pv 3) pa_nil))))
  (pss_cons (ps_set (i := 10) S.nd rfl (Or.inl rfl) (pe_lst (pa_cons (pe_op o_add (pe_op o_div (pe_call G__law_cell_at (hr.mono (by decide)) rfl T.g__law_cell_at T.k__law_cell_at B__law_cell_at .nil passL (pa_cons (pv 0) (pa_cons pe_int pa_nil))) pe_int) (pe_call G__law_cell_at (hr.mono (by decide)) rfl T.g__law_cell_at T.k__law_cell_at B__law_cell_at .nil passL (pa_cons (pv 0) (pa_cons pe_int pa_nil)))) (pa_cons pe_int (pa_cons (pv 9) pa_nil)))))
  (pss_consC (ps_if (pt_cmpR (k_neD (K := K) rfl hr.units) (pv 6) (pe_lst pa_nil) (nomark _))
    (pss_one (ps_asg (pe_ix (k_ixL (K := K) rfl) (pv 6) (pe_op o_mod (pe_op o_div (pe_call G__law_cell_at (hr.mono (by decide)) rfl T.g__law_cell_at T.k__law_cell_at B__law_cell_at .nil passL (pa_cons (pv 0) (pa_cons pe_int pa_nil))) pe_int) (pe_callB (k_len (K := K) rfl) (by rfl) T.z_len PySem.boot_len (pa_cons (pv 6) pa_nil))) (fun _ _ => rfl)) (pg_sub (pv 10) pe_int set_list)))
    pss_nil)
  (pss_cons (ps_if (pt_cmpR (k_neD (K := K) rfl hr.units) (pe_call G__law_told (hr.mono (by decide)) rfl T.g__law_told T.k__law_told B__law_told .nil passL (pa_cons (pv 5) (pa_cons (pv 10) pa_nil))) (pe_call G__law_told (hr.mono (by decide)) rfl T.g__law_told T.k__law_told B__law_told .nil passL (pa_cons (pe_call G__law_made (hr.mono (by decide)) rfl T.g__law_made T.k__law_made B__law_made .nil passL (pa_cons (pv 1) (pa_cons (pv 2) (pa_cons (pv 6) pa_nil)))) (pa_cons (pv 10) pa_nil))) (nomark _))
    (pss_one (ps_ret pe_bl))
    pss_nil)
  (pss_cons (ps_set (i := 11) S.nd rfl (Or.inl rfl) (pe_op o_mod (pe_call G__law_cell_at (hr.mono (by decide)) rfl T.g__law_cell_at T.k__law_cell_at B__law_cell_at .nil passL (pa_cons (pv 0) (pa_cons pe_int pa_nil))) (pe_op o_pow pe_int pe_int)))
  (pss_cons (ps_if (PW.pt (pw_or (pt_not (pt_val (pe_call G__law_refused_by_any (hr.mono (by decide)) rfl T.g__law_refused_by_any T.k__law_refused_by_any B__law_refused_by_any .nil passL (pa_cons (pv 5) (pa_cons (pe_op o_sub (pe_un un_neg pe_int) (pv 11)) pa_nil))))) (pw_or1 (pt_not (pt_val (pe_call G__law_refused_by_any (hr.mono (by decide)) rfl T.g__law_refused_by_any T.k__law_refused_by_any B__law_refused_by_any .nil passL (pa_cons (pv 5) (pa_cons (pe_op o_add (pe_op o_add (pv 3) pe_int) (pv 11)) pa_nil))))))))
    (pss_one (ps_ret pe_bl))
    pss_nil)
  (pss_cons (ps_set (i := 12) S.nd rfl (Or.inl rfl) (pe_call G__law_number (hr.mono (by decide)) rfl T.g__law_number T.k__law_number B__law_number .nil passL (pa_cons (pe_call G__law_cell_at (hr.mono (by decide)) rfl T.g__law_cell_at T.k__law_cell_at B__law_cell_at .nil passL (pa_cons (pv 0) (pa_cons pe_int pa_nil))) (pa_cons (pe_op o_add (pv 3) pe_int) pa_nil))))
  (pss_consC (ps_if (PW.pt (pw_and (pt_cmpR op_eq (pe_op o_mod (pv 11) pe_int) pe_int (nomark _)) (pw_and1 (pt_cmpR (k_neD (K := K) rfl hr.units) (pv 6) (pe_lst pa_nil) (nomark _)))))
    (pss_one (ps_set (i := 12) S.nd rfl (Or.inl rfl) (pe_ix (k_ixL (K := K) rfl) (pv 6) (pe_op o_mod (pe_op o_div (pv 11) pe_int) (pe_callB (k_len (K := K) rfl) (by rfl) T.z_len PySem.boot_len (pa_cons (pv 6) pa_nil))) (fun _ _ => rfl))))
    pss_nil)
  (pss_one (ps_ret (pe_call G__law_cut (hr.mono (by decide)) rfl T.g__law_cut T.k__law_cut B__law_cut .nil passL (pa_cons (pv 5) (pa_cons (pv 6) (pa_cons (pv 12) (pa_cons (pv 10) pa_nil))))))))))))))))))))))))), ?_⟩
  have cell : ∀ {H' : Hp} {Q : VK} {E : XK} (j : Nat), SqL K H' a (ns.map V.int) → Q (.int (ns.getD j 0)) H' → sp__law_cell_at K [.ref a, .int (j : Int)] H' Q E := fun j hs q => ⟨a, j, ns, rfl, hs, q⟩
  obtain ⟨wd, ew⟩ : ∃ wd, 2 + ns.getD 0 0 % 8 = wd := ⟨_, rfl⟩
  have w1 : 2 ≤ wd := by omega
  have w2 : wd ≤ 9 := by omega
  obtain ⟨hh, eh⟩ : ∃ hh : Nat, 1 + ns.getD 1 0 % 12 = (hh : Int) := ⟨(1 + ns.getD 1 0 % 12).toNat, by omega⟩
  have h0 : 1 ≤ hh := by omega
  have h1 : hh ≤ 12 := by omega
  walk_at "gb"
  refine cell 0 hS ?_
  walk_at "gb"
  rw [ew]
  refine cell 1 hS ?_
  walk_at "gb"
  rw [eh]
  refine g_rng (by omega) (by omega) ?_
  rw [show ((hh : Int)).toNat = hh by omega]
  refine for_range (lo := 0) (fun i σ H' => H' = H ∧ ∃ v, σ = [some (.ref a), some (.int wd), some (.int (hh : Int)), some (.int (wd ^ i)), v, none, none, none, none, none, none, none, none, none]) ⟨rfl, none, by rw [Int.pow_zero]; rfl⟩ ?_ ?_
  · rintro i σ H' hi ⟨rfl, v, rfl⟩
    walk_at "gb"
    refine g_mul (.inr (by omega)) ?_
    walk_at "gb"
    refine ⟨rfl, some (.int (0 + (i : Int))), ?_⟩
    rw [Int.pow_succ]
    rfl
  rintro σ H' ⟨rfl, v, rfl⟩
  walk_at "gb"
  refine g_ladder (by omega) fun p L H3 np eLw eLh Ld s3 fr => ?_
  subst eLw
  obtain rfl : hh = L.h := by omega
  have lim := pow_ok Ld.ok (Nat.le_refl L.h)
  have kS : ∀ {H4 : Hp}, Keeps L p H3 H4 → SqL K H4 a (ns.map V.int) := fun k => k.seqOf s3 fr hS
  walk_at "gb"
  intro r nr
  have e6 : (upd H3 r (.dK [])) r = some (.dK []) := upd_same
  have s6 : Same H3 (upd H3 r (.dK [])) := same_new nr
  generalize upd H3 r (HO.dK []) = H6 at *
  have nor := own_no Ld.toLadX nr
  have Ld6 := Ld.same s6
  have hS6 := kS (Same.keeps s6)
  walk_at "gb"
  refine g_sl0 ?_
  walk_at "gb"
  refine g_part (g_part ?_)
  refine g_slice hS6 fun q7 H7 ms nq7 s7 hms e7 => ?_
  walk_at "gb"
  refine g_cut (fun σ' H8 => Same H6 H8 ∧ ∃ (cl : Addr) (ms : List Int) (v13 : Option V), H6 cl = none ∧ H8 cl = some (.lst (ms.map V.int)) ∧ ms.length ≤ 63 ∧ σ' = [some (.ref a), some (.int L.w), some (.int (L.h : Int)), some (.int (L.w ^ L.h)), v, some (.ref p), some (.ref r), some (.ref cl), none, none, none, none, none, v13]) (fun N hN => ?_) ?_
  · have hS7 := s7.seq hS6
    walk_at "gb"
    refine cell 2 hS7 ?_
    walk_at "gb"
    refine g_ite (fun _ => ?_) (fun _ => ?_)
    · walk_at "gb"
      refine g_rng (by omega) (by omega) ?_
      rw [show ((24 : Int)).toNat = 24 from rfl]
      refine g_lcR (fun i => ((List.range i).map fun k : Nat => 3 * (4 * (ns.getD 1 0 + 17 * (0 + (k : Int)) * (0 + (k : Int))) + 3)).map V.int) rfl ?_ ?_
      · intro D i H' hD hi s8 e8
        walk_at "gb"
        refine ⟨rfl, ?_⟩
        walk_at "gb"
        refine cell 1 (s8.seq hS7) ?_
        walk_at "gb"
        refine g_mul (.inl (by decide)) ?_
        walk_at "gb"
        refine g_mul (.inr (by omega)) ?_
        walk_at "gb"
        refine g_mul (.inl (by decide)) ?_
        walk_at "gb"
        refine g_mul (.inl (by decide)) ?_
        refine g_add1 hD s8 e8 (by rw [List.length_map, List.length_map, List.length_range]; omega) ?_
        rw [List.range_succ, List.map_append, List.map_append]
        rfl
      intro D H8 hD s8 e8
      walk_at "gb"
      exact hN _ _ ⟨s7.trans s8, D, _, _, s7.free hD, e8, by rw [List.length_map, List.length_range]; decide, rfl⟩
    · walk_at "gb"
      exact hN _ _ ⟨s7, q7, ms, _, nq7, e7, by omega, rfl⟩
  clear e7
  rintro σ' H8 ⟨s8, cl, ms, v13, ncl, ecl, hm63, rfl⟩
  have nocl := own_no Ld6.toLadX ncl
  have clr : cl ≠ r := Ne.symm (ne_of_none e6 ncl)
  walk_at "gb"
  refine g_lit (.of ecl) ?_
  refine for_list (K := K) (a := cl) (xs := ms.map V.int) (fun i σ H' => ∃ (rs S : List Int) (v8 : Option V), σ = [some (.ref a), some (.int L.w), some (.int (L.h : Int)), some (.int (L.w ^ L.h)), v, some (.ref p), some (.ref r), some (.ref cl), v8, none, none, none, none, v13] ∧
      Lad A.Ladder H' p L S ∧ RowOf rs S ∧ S.length ≤ i ∧ DR H' r rs ∧ Keeps L p H3 H' ∧ H' cl = some (.lst (ms.map V.int)))
    ⟨[], [], none, rfl, Ld6.same s8, .nil, Nat.zero_le _, (DR.new e6).same s8, Same.keeps (s6.trans s8), ecl⟩
    (fun i σ H' _ ⟨_, _, _, _, _, _, _, _, _, e⟩ => .of e) ?_ ?_
  · rintro i x σ H' hi ⟨rs, S0, v8, rfl, Ld', ro, hl, er, kp, eq⟩
    rw [List.getElem?_map] at hi
    obtain ⟨c, hc, rfl⟩ := Option.map_eq_some_iff.mp hi
    have := Sk.lt_of_get hc
    walk_at "gb"
    refine ⟨p, r, c, L, rs, S0, rfl, Ld', er, ro, by omega, nor, fun H9 S1 rs1 fr1 Ld1 er1 ro1 hl1 => ?_⟩
    walk_at "gb"
    exact ⟨rs1, S1, _, rfl, Ld1, ro1, by omega, er1, fun b o e nb => fr1 b o (kp b o e nb) nb (ne_of_none e nr), fr1 _ _ eq nocl clr⟩
  rintro σ H9 ⟨rs, S0, v8, rfl, Ld9, ro, hl, er, kp9, _⟩
  rw [List.length_map] at hl
  have hrl := ro.len
  have ok := Ld9.ok
  have hS9 := kS kp9
  walk_at "gb"
  refine g_rdSorted er (by omega) ro fun r2 H10 nr2 s10 e10 => ?_
  have hS10 := s10.seq hS9
  have Ld10 := Ld9.same s10
  have nor2 := own_no Ld9.toLadX nr2
  walk_at "gb"
  refine cell 0 hS10 ?_
  walk_at "gb"
  refine ⟨_, _, rfl, lim.1, Int.le_trans lim.2 (by decide), fun dr d0 d1 => ?_⟩
  walk_at "gb"
  refine cell 1 hS10 ?_
  walk_at "gb"
  refine cell 2 hS10 ?_
  walk_at "gb"
  generalize ns.getD 1 0 / 12 + ns.getD 2 0 = s0
  refine g_newL (by show 3 ≤ 1000; decide) fun sp H11 nsp s11 e11 => ?_
  have s1011 := s10.trans s11
  have Ld11 := Ld9.same s1011
  have nosp := own_no Ld10.toLadX nsp
  have spr : sp ≠ r2 := Ne.symm (ne_of_none e10 nsp)
  walk_at "gb"
  refine g_cut (fun σ' H12 => (∀ b o, H10 b = some o → H12 b = some o) ∧ (∃ s1 : Int, 0 ≤ s1 ∧ s1 < L.w ^ L.h ∧ H12 sp = some (.lst [.int s0, .int s1, .int dr])) ∧ σ' = [some (.ref a), some (.int L.w), some (.int (L.h : Int)), some (.int (L.w ^ L.h)), v, some (.ref p), some (.ref r2), some (.ref cl), v8, some (.int dr), some (.ref sp), none, none, v13]) (fun N hN => ?_) ?_
  · walk_at "gb"
    refine g_newL (by decide) fun nl H12 nn s12 e12 => ?_
    have r12 := (s11.trans s12) _ _ e10
    refine g_neNil (dp_ints (.of r12)) (dp_nil (.of e12)) (sh_ints (k := 0) _) ?_
    walk_at "gb"
    refine g_ite (fun e => ?_) (fun _ => ?_)
    · have hne : 0 < S0.length := by
        cases S0 with
        | nil => cases e
        | cons x y => exact Nat.succ_pos _
      walk_at "gb"
      refine cell 2 ((s11.trans s12).seq hS10) ?_
      walk_at "gb"
      refine g_lenL (.of r12) ?_
      walk_at "gb"
      rw [List.length_map]
      refine g_mod (by omega) ?_
      generalize ei : ns.getD 2 0 / 5 % (S0.length : Int) = ix
      have i1 : 0 ≤ ix := by rw [← ei]; exact Int.emod_nonneg _ (by omega)
      have i2 : ix < S0.length := by rw [← ei]; exact Int.emod_lt_of_pos _ (by omega)
      obtain ⟨j, rfl⟩ : ∃ j : Nat, ix = (j : Int) := ⟨ix.toNat, by omega⟩
      have hj : j < S0.length := by omega
      refine g_ixL (.of r12) (atI_nat (get_map (List.getElem?_eq_getElem hj))) ?_
      have xm := List.getElem_mem hj
      generalize S0[j] = x at xm
      walk_at "gb"
      refine g_setL (j := 1) (s12 _ _ e11) (by show 1 < 3; decide) ?_
      refine hN _ _ ⟨fun b o e => ?_, ⟨x, Ld9.lo x xm, Ld9.hi x xm, upd_same⟩, rfl⟩
      rw [upd_ne (ne_of_none e nsp)]
      exact (s11.trans s12) b o e
    · walk_at "gb"
      exact hN _ _ ⟨fun b o e => (s11.trans s12) b o e, ⟨0, Int.le_refl _, lim.1, s12 _ _ e11⟩, rfl⟩
  rintro σ' H12 ⟨s1012, ⟨s1, a0, a1, es⟩, rfl⟩
  replace s1012 : Same H10 H12 := s1012
  have Ld12 := Ld10.same s1012
  have X12 := Ld12.toLadX
  have r12 := s1012 _ _ e10
  have hS12 := s1012.seq hS10
  walk_at "gb"
  refine ⟨p, sp, L, S0, s0, s1, dr, fun _ => False, rfl, Ld12, es, a0, a1, d0, d1, zok_none, fun q13 H13 n13 t13 d13 => ?_⟩
  have d13 := Dp.mono rst_le _ _ d13
  walk_at "gb"
  refine ⟨r2, L.w, L.h, S0, rfl, t13 _ _ r12, ok.w1, ok.w2, ok.h1, ok.h2, Ld9.srt, Ld9.lo, Ld9.hi, by omega, fun f1 M1 H14 _ eMw eMh t14 _ Md => ?_⟩
  have tw : M1.w ^ M1.h = L.w ^ L.h := by rw [eMw, eMh]
  have t1214 := t13.trans t14
  walk_at "gb"
  refine ⟨f1, sp, M1, S0, s0, s1, dr, fun _ => False, rfl, Md, t1214 _ _ es, a0, by rw [tw]; exact a1, d0, by rw [tw]; exact d1, zok_none, fun q15 H15 n15 t15 d15 => ?_⟩
  have d15 := Dp.mono rst_le _ _ d15
  rw [eMw, eMh] at d15
  refine g_neD (Dp.mono (t14.trans t15) _ _ d13) d15 told_sh ?_
  have t1215 := t1214.trans t15
  have Ld15 := Ld12.same t1215
  have hS15 := t1215.seq hS12
  walk_at "gb"
  refine cell 2 hS15 ?_
  walk_at "gb"
  refine g_pow ⟨by decide, by decide, by decide⟩ ?_
  refine g_mod (by decide) ?_
  have f15 : 0 ≤ ns.getD 2 0 % (10 ^ (15 : Int).toNat) := Int.emod_nonneg _ (by decide)
  generalize ns.getD 2 0 % (10 ^ (15 : Int).toNat) = far at f15
  walk_at "gb"
  refine ⟨p, -1 - far, L, S0, rfl, Ld15, by omega, fun H16 t16 => ?_⟩
  walk_at "gb"
  refine ⟨p, L.w ^ L.h + 1 + far, L, S0, rfl, Ld15.same t16, by omega, fun H17 t17 => ?_⟩
  have t1217 := (t1215.trans t16).trans t17
  have Ld17 := Ld12.same t1217
  have r17 := t1217 _ _ r12
  have es17 := t1217 _ _ es
  walk_at "gb"
  refine cell 2 (t1217.seq hS12) ?_
  walk_at "gb"
  refine ⟨_, _, rfl, by omega, by omega, fun at0 o0 o1 => ?_⟩
  walk_at "gb"
  refine g_cut (fun σ' H18 => Same H17 H18 ∧ ∃ n : Int, 0 ≤ n ∧ n ≤ L.w ^ L.h ∧ σ' = [some (.ref a), some (.int L.w), some (.int (L.h : Int)), some (.int (L.w ^ L.h)), v, some (.ref p), some (.ref r2), some (.ref cl), v8, some (.int dr), some (.ref sp), some (.int far), some (.int n), v13]) (fun N hN => ?_) ?_
  · walk_at "gb"
    refine g_ite (fun _ => ?_) (fun _ => ?_)
    · walk_at "gb"
      refine g_newL (by decide) fun nl H18 nn s18 e18 => ?_
      have r18 := s18 _ _ r17
      refine g_neNil (dp_ints (.of r18)) (dp_nil (.of e18)) (sh_ints (k := 0) _) ?_
      walk_at "gb"
      refine g_ite (fun e => ?_) (fun _ => ?_)
      · have hne : 0 < S0.length := by
          cases S0 with
          | nil => cases e
          | cons x y => exact Nat.succ_pos _
        walk_at "gb"
        refine g_lenL (.of r18) ?_
        walk_at "gb"
        rw [List.length_map]
        refine g_mod (by omega) ?_
        generalize ei : far / 3 % (S0.length : Int) = ix
        have i1 : 0 ≤ ix := by rw [← ei]; exact Int.emod_nonneg _ (by omega)
        have i2 : ix < S0.length := by rw [← ei]; exact Int.emod_lt_of_pos _ (by omega)
        obtain ⟨j, rfl⟩ : ∃ j : Nat, ix = (j : Int) := ⟨ix.toNat, by omega⟩
        have hj : j < S0.length := by omega
        refine g_ixL (.of r18) (atI_nat (get_map (List.getElem?_eq_getElem hj))) ?_
        have xm := List.getElem_mem hj
        generalize S0[j] = x at xm
        walk_at "gb"
        exact hN _ _ ⟨s18, x, Ld9.lo x xm, Int.le_of_lt (Ld9.hi x xm), rfl⟩
      · walk_at "gb"
        exact hN _ _ ⟨s18, at0, o0, by omega, rfl⟩
    · walk_at "gb"
      exact hN _ _ ⟨fun _ _ e => e, at0, o0, by omega, rfl⟩
  rintro σ' H18 ⟨s18, n, n0, n1, rfl⟩
  walk_at "gb"
  refine ⟨p, r2, sp, n, L, S0, s0, s1, dr, rfl, Ld17.same s18, by omega, s18 _ _ r17, s18 _ _ es17, a0, a1, d0, d1, n0, n1, nor2, nosp, fun H19 => ?_⟩
  exact k _
end
end Lk

namespace Lk
open PySem PySem.Spec PyProof.Rows L2
theorem all_mk {l : PySem.W.OpenLaw} {w : World} {K : PySem.W.Frag} {h : Heap} {mg : Str → Option Value} {fa f_Ladder f_power f_init f__law_number f_need_level f_level_row f_level f_need f_nearest f_place f_counted f_has f_steps f_trail f_below f_behind f_above f_row f_steps_by_gaps f_way f_a_at f_stretch f_ahead f__law_told f_block f_tall f_alike f_stand_in f_put f__law_made f_go_out f_take f_cut f_poured f__law_refused f__law_ends f__law_again f__law_goes_on f__law_is_there f__law_by_turns f__law_woven f__law_half f__law_mated f__law_cut f__law_deed f__law_cell_at f__law_refused_by_any f_law f_BadSize f_LadderError f_Missing f_NoLevel f_NoPlace f_OtherSize f_OutOfRange f_Present : Addr} (X : K.In h) (G : h.Ns mainGlobals mg) (hfa : mg "law" = some (.ref fa))
    {od0 an0 : Option Addr} {sl0 : Array (Option Value)} {oc0 kV0 dc0 pm0 cd0 ct0 : Value} {od1 an1 : Option Addr} {sl1 : Array (Option Value)} {oc1 kV1 dc1 pm1 cd1 ct1 : Value} {od2 an2 : Option Addr} {sl2 : Array (Option Value)} {oc2 kV2 dc2 pm2 cd2 ct2 : Value} {od3 an3 : Option Addr} {sl3 : Array (Option Value)} {oc3 kV3 dc3 pm3 cd3 ct3 : Value} {od4 an4 : Option Addr} {sl4 : Array (Option Value)} {oc4 kV4 dc4 pm4 cd4 ct4 : Value} {od5 an5 : Option Addr} {sl5 : Array (Option Value)} {oc5 kV5 dc5 pm5 cd5 ct5 : Value} {od6 an6 : Option Addr} {sl6 : Array (Option Value)} {oc6 kV6 dc6 pm6 cd6 ct6 : Value} {od7 an7 : Option Addr} {sl7 : Array (Option Value)} {oc7 kV7 dc7 pm7 cd7 ct7 : Value} {od8 an8 : Option Addr} {sl8 : Array (Option Value)} {oc8 kV8 dc8 pm8 cd8 ct8 : Value} {od9 an9 : Option Addr} {sl9 : Array (Option Value)} {oc9 kV9 dc9 pm9 cd9 ct9 : Value} {od10 an10 : Option Addr} {sl10 : Array (Option Value)} {oc10 kV10 dc10 pm10 cd10 ct10 : Value} {od11 an11 : Option Addr} {sl11 : Array (Option Value)} {oc11 kV11 dc11 pm11 cd11 ct11 : Value} {od12 an12 : Option Addr} {sl12 : Array (Option Value)} {oc12 kV12 dc12 pm12 cd12 ct12 : Value} {od13 an13 : Option Addr} {sl13 : Array (Option Value)} {oc13 kV13 dc13 pm13 cd13 ct13 : Value} {od14 an14 : Option Addr} {sl14 : Array (Option Value)} {oc14 kV14 dc14 pm14 cd14 ct14 : Value} {od15 an15 : Option Addr} {sl15 : Array (Option Value)} {oc15 kV15 dc15 pm15 cd15 ct15 : Value} {od16 an16 : Option Addr} {sl16 : Array (Option Value)} {oc16 kV16 dc16 pm16 cd16 ct16 : Value} {od17 an17 : Option Addr} {sl17 : Array (Option Value)} {oc17 kV17 dc17 pm17 cd17 ct17 : Value} {od18 an18 : Option Addr} {sl18 : Array (Option Value)} {oc18 kV18 dc18 pm18 cd18 ct18 : Value} {od19 an19 : Option Addr} {sl19 : Array (Option Value)} {oc19 kV19 dc19 pm19 cd19 ct19 : Value} {od20 an20 : Option Addr} {sl20 : Array (Option Value)} {oc20 kV20 dc20 pm20 cd20 ct20 : Value} {od21 an21 : Option Addr} {sl21 : Array (Option Value)} {oc21 kV21 dc21 pm21 cd21 ct21 : Value} {od22 an22 : Option Addr} {sl22 : Array (Option Value)} {oc22 kV22 dc22 pm22 cd22 ct22 : Value} {od23 an23 : Option Addr} {sl23 : Array (Option Value)} {oc23 kV23 dc23 pm23 cd23 ct23 : Value} {od24 an24 : Option Addr} {sl24 : Array (Option Value)} {oc24 kV24 dc24 pm24 cd24 ct24 : Value} {od25 an25 : Option Addr} {sl25 : Array (Option Value)} {oc25 kV25 dc25 pm25 cd25 ct25 : Value} {od26 an26 : Option Addr} {sl26 : Array (Option Value)} {oc26 kV26 dc26 pm26 cd26 ct26 : Value} {od27 an27 : Option Addr} {sl27 : Array (Option Value)} {oc27 kV27 dc27 pm27 cd27 ct27 : Value} {od28 an28 : Option Addr} {sl28 : Array (Option Value)} {oc28 kV28 dc28 pm28 cd28 ct28 : Value} {od29 an29 : Option Addr} {sl29 : Array (Option Value)} {oc29 kV29 dc29 pm29 cd29 ct29 : Value} {od30 an30 : Option Addr} {sl30 : Array (Option Value)} {oc30 kV30 dc30 pm30 cd30 ct30 : Value} {od31 an31 : Option Addr} {sl31 : Array (Option Value)} {oc31 kV31 dc31 pm31 cd31 ct31 : Value} {od32 an32 : Option Addr} {sl32 : Array (Option Value)} {oc32 kV32 dc32 pm32 cd32 ct32 : Value} {od33 an33 : Option Addr} {sl33 : Array (Option Value)} {oc33 kV33 dc33 pm33 cd33 ct33 : Value} {od34 an34 : Option Addr} {sl34 : Array (Option Value)} {oc34 kV34 dc34 pm34 cd34 ct34 : Value} {od35 an35 : Option Addr} {sl35 : Array (Option Value)} {oc35 kV35 dc35 pm35 cd35 ct35 : Value} {od36 an36 : Option Addr} {sl36 : Array (Option Value)} {oc36 kV36 dc36 pm36 cd36 ct36 : Value} {od37 an37 : Option Addr} {sl37 : Array (Option Value)} {oc37 kV37 dc37 pm37 cd37 ct37 : Value} {od38 an38 : Option Addr} {sl38 : Array (Option Value)} {oc38 kV38 dc38 pm38 cd38 ct38 : Value} {od39 an39 : Option Addr} {sl39 : Array (Option Value)} {oc39 kV39 dc39 pm39 cd39 ct39 : Value} {od40 an40 : Option Addr} {sl40 : Array (Option Value)} {oc40 kV40 dc40 pm40 cd40 ct40 : Value} {od41 an41 : Option Addr} {sl41 : Array (Option Value)} {oc41 kV41 dc41 pm41 cd41 ct41 : Value} {od42 an42 : Option Addr} {sl42 : Array (Option Value)} {oc42 kV42 dc42 pm42 cd42 ct42 : Value} {od43 an43 : Option Addr} {sl43 : Array (Option Value)} {oc43 kV43 dc43 pm43 cd43 ct43 : Value} {od44 an44 : Option Addr} {sl44 : Array (Option Value)} {oc44 kV44 dc44 pm44 cd44 ct44 : Value} {od45 an45 : Option Addr} {sl45 : Array (Option Value)} {oc45 kV45 dc45 pm45 cd45 ct45 : Value} {od46 an46 : Option Addr} {sl46 : Array (Option Value)} {oc46 kV46 dc46 pm46 cd46 ct46 : Value}
    (aC : PySem.W.nsIn K mainGlobals "Ladder" = some (some (.ref f_Ladder)))
    (a0 : PySem.W.nsIn K mainGlobals "power" = some (some (.ref f_power)))
    (l0 : K.lookup f_power = some ⟨oc0, od0, .func (PySem.W.fnOf "power" "power" (defArgs s_power) (defBody s_power) (defScope s_power) .none kV0 dc0 pm0 an0 cd0 ct0), sl0⟩)
    (c0 : PySem.W.codeIn K cd0 "power" = true)
    (k0 : PySem.W.keepIn K (.ref f_power) = true)
    (a1 : PySem.W.findIn K (.ref f_Ladder) "__init__" = some (some (.ref f_init)))
    (i1 : PySem.W.isFn K (.ref f_init) = true)
    (l1 : K.lookup f_init = some ⟨oc1, od1, .func (PySem.W.fnOf "__init__" "Ladder.__init__" (defArgs s___init__) (defBody s___init__) (defScope s___init__) .none kV1 dc1 pm1 an1 cd1 ct1), sl1⟩)
    (c1 : PySem.W.codeIn K cd1 "Ladder.__init__" = true)
    (k1 : PySem.W.keepIn K (.ref f_init) = true)
    (a2 : PySem.W.nsIn K mainGlobals "_law_number" = some (some (.ref f__law_number)))
    (l2 : K.lookup f__law_number = some ⟨oc2, od2, .func (PySem.W.fnOf "_law_number" "_law_number" (defArgs s__law_number) (defBody s__law_number) (defScope s__law_number) .none kV2 dc2 pm2 an2 cd2 ct2), sl2⟩)
    (c2 : PySem.W.codeIn K cd2 "_law_number" = true)
    (k2 : PySem.W.keepIn K (.ref f__law_number) = true)
    (a3 : PySem.W.findIn K (.ref f_Ladder) "need_level" = some (some (.ref f_need_level)))
    (i3 : PySem.W.isFn K (.ref f_need_level) = true)
    (l3 : K.lookup f_need_level = some ⟨oc3, od3, .func (PySem.W.fnOf "need_level" "Ladder.need_level" (defArgs s_need_level) (defBody s_need_level) (defScope s_need_level) .none kV3 dc3 pm3 an3 cd3 ct3), sl3⟩)
    (c3 : PySem.W.codeIn K cd3 "Ladder.need_level" = true)
    (k3 : PySem.W.keepIn K (.ref f_need_level) = true)
    (a4 : PySem.W.nsIn K mainGlobals "level_row" = some (some (.ref f_level_row)))
    (l4 : K.lookup f_level_row = some ⟨oc4, od4, .func (PySem.W.fnOf "level_row" "level_row" (defArgs s_level_row) (defBody s_level_row) (defScope s_level_row) .none kV4 dc4 pm4 an4 cd4 ct4), sl4⟩)
    (c4 : PySem.W.codeIn K cd4 "level_row" = true)
    (k4 : PySem.W.keepIn K (.ref f_level_row) = true)
    (a5 : PySem.W.findIn K (.ref f_Ladder) "level" = some (some (.ref f_level)))
    (i5 : PySem.W.isFn K (.ref f_level) = true)
    (l5 : K.lookup f_level = some ⟨oc5, od5, .func (PySem.W.fnOf "level" "Ladder.level" (defArgs s_level) (defBody s_level) (defScope s_level) .none kV5 dc5 pm5 an5 cd5 ct5), sl5⟩)
    (c5 : PySem.W.codeIn K cd5 "Ladder.level" = true)
    (k5 : PySem.W.keepIn K (.ref f_level) = true)
    (a6 : PySem.W.findIn K (.ref f_Ladder) "need" = some (some (.ref f_need)))
    (i6 : PySem.W.isFn K (.ref f_need) = true)
    (l6 : K.lookup f_need = some ⟨oc6, od6, .func (PySem.W.fnOf "need" "Ladder.need" (defArgs s_need) (defBody s_need) (defScope s_need) .none kV6 dc6 pm6 an6 cd6 ct6), sl6⟩)
    (c6 : PySem.W.codeIn K cd6 "Ladder.need" = true)
    (k6 : PySem.W.keepIn K (.ref f_need) = true)
    (a7 : PySem.W.nsIn K mainGlobals "nearest" = some (some (.ref f_nearest)))
    (l7 : K.lookup f_nearest = some ⟨oc7, od7, .func (PySem.W.fnOf "nearest" "nearest" (defArgs s_nearest) (defBody s_nearest) (defScope s_nearest) .none kV7 dc7 pm7 an7 cd7 ct7), sl7⟩)
    (c7 : PySem.W.codeIn K cd7 "nearest" = true)
    (k7 : PySem.W.keepIn K (.ref f_nearest) = true)
    (a8 : PySem.W.findIn K (.ref f_Ladder) "place" = some (some (.ref f_place)))
    (i8 : PySem.W.isFn K (.ref f_place) = true)
    (l8 : K.lookup f_place = some ⟨oc8, od8, .func (PySem.W.fnOf "place" "Ladder.place" (defArgs s_place) (defBody s_place) (defScope s_place) .none kV8 dc8 pm8 an8 cd8 ct8), sl8⟩)
    (c8 : PySem.W.codeIn K cd8 "Ladder.place" = true)
    (k8 : PySem.W.keepIn K (.ref f_place) = true)
    (a9 : PySem.W.findIn K (.ref f_Ladder) "counted" = some (some (.ref f_counted)))
    (i9 : PySem.W.isFn K (.ref f_counted) = true)
    (l9 : K.lookup f_counted = some ⟨oc9, od9, .func (PySem.W.fnOf "counted" "Ladder.counted" (defArgs s_counted) (defBody s_counted) (defScope s_counted) .none kV9 dc9 pm9 an9 cd9 ct9), sl9⟩)
    (c9 : PySem.W.codeIn K cd9 "Ladder.counted" = true)
    (k9 : PySem.W.keepIn K (.ref f_counted) = true)
    (a10 : PySem.W.findIn K (.ref f_Ladder) "has" = some (some (.ref f_has)))
    (i10 : PySem.W.isFn K (.ref f_has) = true)
    (l10 : K.lookup f_has = some ⟨oc10, od10, .func (PySem.W.fnOf "has" "Ladder.has" (defArgs s_has) (defBody s_has) (defScope s_has) .none kV10 dc10 pm10 an10 cd10 ct10), sl10⟩)
    (c10 : PySem.W.codeIn K cd10 "Ladder.has" = true)
    (k10 : PySem.W.keepIn K (.ref f_has) = true)
    (a11 : PySem.W.nsIn K mainGlobals "steps" = some (some (.ref f_steps)))
    (l11 : K.lookup f_steps = some ⟨oc11, od11, .func (PySem.W.fnOf "steps" "steps" (defArgs s_steps) (defBody s_steps) (defScope s_steps) .none kV11 dc11 pm11 an11 cd11 ct11), sl11⟩)
    (c11 : PySem.W.codeIn K cd11 "steps" = true)
    (k11 : PySem.W.keepIn K (.ref f_steps) = true)
    (a12 : PySem.W.findIn K (.ref f_Ladder) "trail" = some (some (.ref f_trail)))
    (i12 : PySem.W.isFn K (.ref f_trail) = true)
    (l12 : K.lookup f_trail = some ⟨oc12, od12, .func (PySem.W.fnOf "trail" "Ladder.trail" (defArgs s_trail) (defBody s_trail) (defScope s_trail) .none kV12 dc12 pm12 an12 cd12 ct12), sl12⟩)
    (c12 : PySem.W.codeIn K cd12 "Ladder.trail" = true)
    (k12 : PySem.W.keepIn K (.ref f_trail) = true)
    (a13 : PySem.W.findIn K (.ref f_Ladder) "below" = some (some (.ref f_below)))
    (i13 : PySem.W.isFn K (.ref f_below) = true)
    (l13 : K.lookup f_below = some ⟨oc13, od13, .func (PySem.W.fnOf "below" "Ladder.below" (defArgs s_below) (defBody s_below) (defScope s_below) .none kV13 dc13 pm13 an13 cd13 ct13), sl13⟩)
    (c13 : PySem.W.codeIn K cd13 "Ladder.below" = true)
    (k13 : PySem.W.keepIn K (.ref f_below) = true)
    (a14 : PySem.W.findIn K (.ref f_Ladder) "behind" = some (some (.ref f_behind)))
    (i14 : PySem.W.isFn K (.ref f_behind) = true)
    (l14 : K.lookup f_behind = some ⟨oc14, od14, .func (PySem.W.fnOf "behind" "Ladder.behind" (defArgs s_behind) (defBody s_behind) (defScope s_behind) .none kV14 dc14 pm14 an14 cd14 ct14), sl14⟩)
    (c14 : PySem.W.codeIn K cd14 "Ladder.behind" = true)
    (k14 : PySem.W.keepIn K (.ref f_behind) = true)
    (a15 : PySem.W.findIn K (.ref f_Ladder) "above" = some (some (.ref f_above)))
    (i15 : PySem.W.isFn K (.ref f_above) = true)
    (l15 : K.lookup f_above = some ⟨oc15, od15, .func (PySem.W.fnOf "above" "Ladder.above" (defArgs s_above) (defBody s_above) (defScope s_above) .none kV15 dc15 pm15 an15 cd15 ct15), sl15⟩)
    (c15 : PySem.W.codeIn K cd15 "Ladder.above" = true)
    (k15 : PySem.W.keepIn K (.ref f_above) = true)
    (a16 : PySem.W.findIn K (.ref f_Ladder) "row" = some (some (.ref f_row)))
    (i16 : PySem.W.isFn K (.ref f_row) = true)
    (l16 : K.lookup f_row = some ⟨oc16, od16, .func (PySem.W.fnOf "row" "Ladder.row" (defArgs s_row) (defBody s_row) (defScope s_row) .none kV16 dc16 pm16 an16 cd16 ct16), sl16⟩)
    (c16 : PySem.W.codeIn K cd16 "Ladder.row" = true)
    (k16 : PySem.W.keepIn K (.ref f_row) = true)
    (a17 : PySem.W.nsIn K mainGlobals "steps_by_gaps" = some (some (.ref f_steps_by_gaps)))
    (l17 : K.lookup f_steps_by_gaps = some ⟨oc17, od17, .func (PySem.W.fnOf "steps_by_gaps" "steps_by_gaps" (defArgs s_steps_by_gaps) (defBody s_steps_by_gaps) (defScope s_steps_by_gaps) .none kV17 dc17 pm17 an17 cd17 ct17), sl17⟩)
    (c17 : PySem.W.codeIn K cd17 "steps_by_gaps" = true)
    (k17 : PySem.W.keepIn K (.ref f_steps_by_gaps) = true)
    (a18 : PySem.W.findIn K (.ref f_Ladder) "way" = some (some (.ref f_way)))
    (i18 : PySem.W.isFn K (.ref f_way) = true)
    (l18 : K.lookup f_way = some ⟨oc18, od18, .func (PySem.W.fnOf "way" "Ladder.way" (defArgs s_way) (defBody s_way) (defScope s_way) .none kV18 dc18 pm18 an18 cd18 ct18), sl18⟩)
    (c18 : PySem.W.codeIn K cd18 "Ladder.way" = true)
    (k18 : PySem.W.keepIn K (.ref f_way) = true)
    (a19 : PySem.W.findIn K (.ref f_Ladder) "at" = some (some (.ref f_a_at)))
    (i19 : PySem.W.isFn K (.ref f_a_at) = true)
    (l19 : K.lookup f_a_at = some ⟨oc19, od19, .func (PySem.W.fnOf "at" "Ladder.at" (defArgs s_at) (defBody s_at) (defScope s_at) .none kV19 dc19 pm19 an19 cd19 ct19), sl19⟩)
    (c19 : PySem.W.codeIn K cd19 "Ladder.at" = true)
    (k19 : PySem.W.keepIn K (.ref f_a_at) = true)
    (a20 : PySem.W.findIn K (.ref f_Ladder) "stretch" = some (some (.ref f_stretch)))
    (i20 : PySem.W.isFn K (.ref f_stretch) = true)
    (l20 : K.lookup f_stretch = some ⟨oc20, od20, .func (PySem.W.fnOf "stretch" "Ladder.stretch" (defArgs s_stretch) (defBody s_stretch) (defScope s_stretch) .none kV20 dc20 pm20 an20 cd20 ct20), sl20⟩)
    (c20 : PySem.W.codeIn K cd20 "Ladder.stretch" = true)
    (k20 : PySem.W.keepIn K (.ref f_stretch) = true)
    (a21 : PySem.W.findIn K (.ref f_Ladder) "ahead" = some (some (.ref f_ahead)))
    (i21 : PySem.W.isFn K (.ref f_ahead) = true)
    (l21 : K.lookup f_ahead = some ⟨oc21, od21, .func (PySem.W.fnOf "ahead" "Ladder.ahead" (defArgs s_ahead) (defBody s_ahead) (defScope s_ahead) .none kV21 dc21 pm21 an21 cd21 ct21), sl21⟩)
    (c21 : PySem.W.codeIn K cd21 "Ladder.ahead" = true)
    (k21 : PySem.W.keepIn K (.ref f_ahead) = true)
    (a22 : PySem.W.nsIn K mainGlobals "_law_told" = some (some (.ref f__law_told)))
    (l22 : K.lookup f__law_told = some ⟨oc22, od22, .func (PySem.W.fnOf "_law_told" "_law_told" (defArgs s__law_told) (defBody s__law_told) (defScope s__law_told) .none kV22 dc22 pm22 an22 cd22 ct22), sl22⟩)
    (c22 : PySem.W.codeIn K cd22 "_law_told" = true)
    (k22 : PySem.W.keepIn K (.ref f__law_told) = true)
    (a23 : PySem.W.nsIn K mainGlobals "block" = some (some (.ref f_block)))
    (l23 : K.lookup f_block = some ⟨oc23, od23, .func (PySem.W.fnOf "block" "block" (defArgs s_block) (defBody s_block) (defScope s_block) .none kV23 dc23 pm23 an23 cd23 ct23), sl23⟩)
    (c23 : PySem.W.codeIn K cd23 "block" = true)
    (k23 : PySem.W.keepIn K (.ref f_block) = true)
    (a24 : PySem.W.nsIn K mainGlobals "tall" = some (some (.ref f_tall)))
    (l24 : K.lookup f_tall = some ⟨oc24, od24, .func (PySem.W.fnOf "tall" "tall" (defArgs s_tall) (defBody s_tall) (defScope s_tall) .none kV24 dc24 pm24 an24 cd24 ct24), sl24⟩)
    (c24 : PySem.W.codeIn K cd24 "tall" = true)
    (k24 : PySem.W.keepIn K (.ref f_tall) = true)
    (a25 : PySem.W.findIn K (.ref f_Ladder) "alike" = some (some (.ref f_alike)))
    (i25 : PySem.W.isFn K (.ref f_alike) = true)
    (l25 : K.lookup f_alike = some ⟨oc25, od25, .func (PySem.W.fnOf "alike" "Ladder.alike" (defArgs s_alike) (defBody s_alike) (defScope s_alike) .none kV25 dc25 pm25 an25 cd25 ct25), sl25⟩)
    (c25 : PySem.W.codeIn K cd25 "Ladder.alike" = true)
    (k25 : PySem.W.keepIn K (.ref f_alike) = true)
    (a26 : PySem.W.findIn K (.ref f_Ladder) "stand_in" = some (some (.ref f_stand_in)))
    (i26 : PySem.W.isFn K (.ref f_stand_in) = true)
    (l26 : K.lookup f_stand_in = some ⟨oc26, od26, .func (PySem.W.fnOf "stand_in" "Ladder.stand_in" (defArgs s_stand_in) (defBody s_stand_in) (defScope s_stand_in) .none kV26 dc26 pm26 an26 cd26 ct26), sl26⟩)
    (c26 : PySem.W.codeIn K cd26 "Ladder.stand_in" = true)
    (k26 : PySem.W.keepIn K (.ref f_stand_in) = true)
    (a27 : PySem.W.findIn K (.ref f_Ladder) "put" = some (some (.ref f_put)))
    (i27 : PySem.W.isFn K (.ref f_put) = true)
    (l27 : K.lookup f_put = some ⟨oc27, od27, .func (PySem.W.fnOf "put" "Ladder.put" (defArgs s_put) (defBody s_put) (defScope s_put) .none kV27 dc27 pm27 an27 cd27 ct27), sl27⟩)
    (c27 : PySem.W.codeIn K cd27 "Ladder.put" = true)
    (k27 : PySem.W.keepIn K (.ref f_put) = true)
    (a28 : PySem.W.nsIn K mainGlobals "_law_made" = some (some (.ref f__law_made)))
    (l28 : K.lookup f__law_made = some ⟨oc28, od28, .func (PySem.W.fnOf "_law_made" "_law_made" (defArgs s__law_made) (defBody s__law_made) (defScope s__law_made) .none kV28 dc28 pm28 an28 cd28 ct28), sl28⟩)
    (c28 : PySem.W.codeIn K cd28 "_law_made" = true)
    (k28 : PySem.W.keepIn K (.ref f__law_made) = true)
    (a29 : PySem.W.findIn K (.ref f_Ladder) "go_out" = some (some (.ref f_go_out)))
    (i29 : PySem.W.isFn K (.ref f_go_out) = true)
    (l29 : K.lookup f_go_out = some ⟨oc29, od29, .func (PySem.W.fnOf "go_out" "Ladder.go_out" (defArgs s_go_out) (defBody s_go_out) (defScope s_go_out) .none kV29 dc29 pm29 an29 cd29 ct29), sl29⟩)
    (c29 : PySem.W.codeIn K cd29 "Ladder.go_out" = true)
    (k29 : PySem.W.keepIn K (.ref f_go_out) = true)
    (a30 : PySem.W.findIn K (.ref f_Ladder) "take" = some (some (.ref f_take)))
    (i30 : PySem.W.isFn K (.ref f_take) = true)
    (l30 : K.lookup f_take = some ⟨oc30, od30, .func (PySem.W.fnOf "take" "Ladder.take" (defArgs s_take) (defBody s_take) (defScope s_take) .none kV30 dc30 pm30 an30 cd30 ct30), sl30⟩)
    (c30 : PySem.W.codeIn K cd30 "Ladder.take" = true)
    (k30 : PySem.W.keepIn K (.ref f_take) = true)
    (a31 : PySem.W.nsIn K mainGlobals "cut" = some (some (.ref f_cut)))
    (l31 : K.lookup f_cut = some ⟨oc31, od31, .func (PySem.W.fnOf "cut" "cut" (defArgs s_cut) (defBody s_cut) (defScope s_cut) .none kV31 dc31 pm31 an31 cd31 ct31), sl31⟩)
    (c31 : PySem.W.codeIn K cd31 "cut" = true)
    (k31 : PySem.W.keepIn K (.ref f_cut) = true)
    (a32 : PySem.W.nsIn K mainGlobals "poured" = some (some (.ref f_poured)))
    (l32 : K.lookup f_poured = some ⟨oc32, od32, .func (PySem.W.fnOf "poured" "poured" (defArgs s_poured) (defBody s_poured) (defScope s_poured) .none kV32 dc32 pm32 an32 cd32 ct32), sl32⟩)
    (c32 : PySem.W.codeIn K cd32 "poured" = true)
    (k32 : PySem.W.keepIn K (.ref f_poured) = true)
    (a33 : PySem.W.nsIn K mainGlobals "_law_refused" = some (some (.ref f__law_refused)))
    (l33 : K.lookup f__law_refused = some ⟨oc33, od33, .func (PySem.W.fnOf "_law_refused" "_law_refused" (defArgs s__law_refused) (defBody s__law_refused) (defScope s__law_refused) .none kV33 dc33 pm33 an33 cd33 ct33), sl33⟩)
    (c33 : PySem.W.codeIn K cd33 "_law_refused" = true)
    (k33 : PySem.W.keepIn K (.ref f__law_refused) = true)
    (a34 : PySem.W.nsIn K mainGlobals "_law_ends" = some (some (.ref f__law_ends)))
    (l34 : K.lookup f__law_ends = some ⟨oc34, od34, .func (PySem.W.fnOf "_law_ends" "_law_ends" (defArgs s__law_ends) (defBody s__law_ends) (defScope s__law_ends) .none kV34 dc34 pm34 an34 cd34 ct34), sl34⟩)
    (c34 : PySem.W.codeIn K cd34 "_law_ends" = true)
    (k34 : PySem.W.keepIn K (.ref f__law_ends) = true)
    (a35 : PySem.W.nsIn K mainGlobals "_law_again" = some (some (.ref f__law_again)))
    (l35 : K.lookup f__law_again = some ⟨oc35, od35, .func (PySem.W.fnOf "_law_again" "_law_again" (defArgs s__law_again) (defBody s__law_again) (defScope s__law_again) .none kV35 dc35 pm35 an35 cd35 ct35), sl35⟩)
    (c35 : PySem.W.codeIn K cd35 "_law_again" = true)
    (k35 : PySem.W.keepIn K (.ref f__law_again) = true)
    (a36 : PySem.W.nsIn K mainGlobals "_law_goes_on" = some (some (.ref f__law_goes_on)))
    (l36 : K.lookup f__law_goes_on = some ⟨oc36, od36, .func (PySem.W.fnOf "_law_goes_on" "_law_goes_on" (defArgs s__law_goes_on) (defBody s__law_goes_on) (defScope s__law_goes_on) .none kV36 dc36 pm36 an36 cd36 ct36), sl36⟩)
    (c36 : PySem.W.codeIn K cd36 "_law_goes_on" = true)
    (k36 : PySem.W.keepIn K (.ref f__law_goes_on) = true)
    (a37 : PySem.W.nsIn K mainGlobals "_law_is_there" = some (some (.ref f__law_is_there)))
    (l37 : K.lookup f__law_is_there = some ⟨oc37, od37, .func (PySem.W.fnOf "_law_is_there" "_law_is_there" (defArgs s__law_is_there) (defBody s__law_is_there) (defScope s__law_is_there) .none kV37 dc37 pm37 an37 cd37 ct37), sl37⟩)
    (c37 : PySem.W.codeIn K cd37 "_law_is_there" = true)
    (k37 : PySem.W.keepIn K (.ref f__law_is_there) = true)
    (a38 : PySem.W.nsIn K mainGlobals "_law_by_turns" = some (some (.ref f__law_by_turns)))
    (l38 : K.lookup f__law_by_turns = some ⟨oc38, od38, .func (PySem.W.fnOf "_law_by_turns" "_law_by_turns" (defArgs s__law_by_turns) (defBody s__law_by_turns) (defScope s__law_by_turns) .none kV38 dc38 pm38 an38 cd38 ct38), sl38⟩)
    (c38 : PySem.W.codeIn K cd38 "_law_by_turns" = true)
    (k38 : PySem.W.keepIn K (.ref f__law_by_turns) = true)
    (a39 : PySem.W.nsIn K mainGlobals "_law_woven" = some (some (.ref f__law_woven)))
    (l39 : K.lookup f__law_woven = some ⟨oc39, od39, .func (PySem.W.fnOf "_law_woven" "_law_woven" (defArgs s__law_woven) (defBody s__law_woven) (defScope s__law_woven) .none kV39 dc39 pm39 an39 cd39 ct39), sl39⟩)
    (c39 : PySem.W.codeIn K cd39 "_law_woven" = true)
    (k39 : PySem.W.keepIn K (.ref f__law_woven) = true)
    (a40 : PySem.W.nsIn K mainGlobals "_law_half" = some (some (.ref f__law_half)))
    (l40 : K.lookup f__law_half = some ⟨oc40, od40, .func (PySem.W.fnOf "_law_half" "_law_half" (defArgs s__law_half) (defBody s__law_half) (defScope s__law_half) .none kV40 dc40 pm40 an40 cd40 ct40), sl40⟩)
    (c40 : PySem.W.codeIn K cd40 "_law_half" = true)
    (k40 : PySem.W.keepIn K (.ref f__law_half) = true)
    (a41 : PySem.W.nsIn K mainGlobals "_law_mated" = some (some (.ref f__law_mated)))
    (l41 : K.lookup f__law_mated = some ⟨oc41, od41, .func (PySem.W.fnOf "_law_mated" "_law_mated" (defArgs s__law_mated) (defBody s__law_mated) (defScope s__law_mated) .none kV41 dc41 pm41 an41 cd41 ct41), sl41⟩)
    (c41 : PySem.W.codeIn K cd41 "_law_mated" = true)
    (k41 : PySem.W.keepIn K (.ref f__law_mated) = true)
    (a42 : PySem.W.nsIn K mainGlobals "_law_cut" = some (some (.ref f__law_cut)))
    (l42 : K.lookup f__law_cut = some ⟨oc42, od42, .func (PySem.W.fnOf "_law_cut" "_law_cut" (defArgs s__law_cut) (defBody s__law_cut) (defScope s__law_cut) .none kV42 dc42 pm42 an42 cd42 ct42), sl42⟩)
    (c42 : PySem.W.codeIn K cd42 "_law_cut" = true)
    (k42 : PySem.W.keepIn K (.ref f__law_cut) = true)
    (a43 : PySem.W.nsIn K mainGlobals "_law_deed" = some (some (.ref f__law_deed)))
    (l43 : K.lookup f__law_deed = some ⟨oc43, od43, .func (PySem.W.fnOf "_law_deed" "_law_deed" (defArgs s__law_deed) (defBody s__law_deed) (defScope s__law_deed) .none kV43 dc43 pm43 an43 cd43 ct43), sl43⟩)
    (c43 : PySem.W.codeIn K cd43 "_law_deed" = true)
    (k43 : PySem.W.keepIn K (.ref f__law_deed) = true)
    (a44 : PySem.W.nsIn K mainGlobals "_law_cell_at" = some (some (.ref f__law_cell_at)))
    (l44 : K.lookup f__law_cell_at = some ⟨oc44, od44, .func (PySem.W.fnOf "_law_cell_at" "_law_cell_at" (defArgs s__law_cell_at) (defBody s__law_cell_at) (defScope s__law_cell_at) .none kV44 dc44 pm44 an44 cd44 ct44), sl44⟩)
    (c44 : PySem.W.codeIn K cd44 "_law_cell_at" = true)
    (k44 : PySem.W.keepIn K (.ref f__law_cell_at) = true)
    (a45 : PySem.W.nsIn K mainGlobals "_law_refused_by_any" = some (some (.ref f__law_refused_by_any)))
    (l45 : K.lookup f__law_refused_by_any = some ⟨oc45, od45, .func (PySem.W.fnOf "_law_refused_by_any" "_law_refused_by_any" (defArgs s__law_refused_by_any) (defBody s__law_refused_by_any) (defScope s__law_refused_by_any) .none kV45 dc45 pm45 an45 cd45 ct45), sl45⟩)
    (c45 : PySem.W.codeIn K cd45 "_law_refused_by_any" = true)
    (k45 : PySem.W.keepIn K (.ref f__law_refused_by_any) = true)
    (a46 : PySem.W.nsIn K mainGlobals "law" = some (some (.ref f_law)))
    (l46 : K.lookup f_law = some ⟨oc46, od46, .func (PySem.W.fnOf "law" "law" (defArgs s_law) (defBody s_law) (defScope s_law) .none kV46 dc46 pm46 an46 cd46 ct46), sl46⟩)
    (c46 : PySem.W.codeIn K cd46 "law" = true)
    (k46 : PySem.W.keepIn K (.ref f_law) = true)
    (z_ValueError : PySem.W.nsIn K mainGlobals "ValueError" = some none)
    (z_all : PySem.W.nsIn K mainGlobals "all" = some none)
    (z_int : PySem.W.nsIn K mainGlobals "int" = some none)
    (z_isinstance : PySem.W.nsIn K mainGlobals "isinstance" = some none)
    (z_len : PySem.W.nsIn K mainGlobals "len" = some none)
    (z_list : PySem.W.nsIn K mainGlobals "list" = some none)
    (z_max : PySem.W.nsIn K mainGlobals "max" = some none)
    (z_min : PySem.W.nsIn K mainGlobals "min" = some none)
    (z_range : PySem.W.nsIn K mainGlobals "range" = some none)
    (z_reversed : PySem.W.nsIn K mainGlobals "reversed" = some none)
    (z_sorted : PySem.W.nsIn K mainGlobals "sorted" = some none)
    (z_tuple : PySem.W.nsIn K mainGlobals "tuple" = some none)
    (pg : PySem.W.plainGet K f_Ladder Str.empty = true)
    (hd : PySem.W.hasDictIn K f_Ladder = true)
    (po : PySem.W.plainOver K f_Ladder = true)
    (sa : PySem.W.findIn K (.ref f_Ladder) "__setattr__" = some (some (.builtin "object.__setattr__")))
    (n_width : PySem.W.findIn K (.ref f_Ladder) "width" = some none)
    (n_high : PySem.W.findIn K (.ref f_Ladder) "high" = some none)
    (n_limit : PySem.W.findIn K (.ref f_Ladder) "limit" = some none)
    (n_many : PySem.W.findIn K (.ref f_Ladder) "many" = some none)
    (n_least : PySem.W.findIn K (.ref f_Ladder) "least" = some none)
    (n_nexts : PySem.W.findIn K (.ref f_Ladder) "nexts" = some none)
    (n_gaps : PySem.W.findIn K (.ref f_Ladder) "gaps" = some none)
    (mk : PySem.W.makesIn K f_Ladder = true)
    (kc : PySem.W.keepIn K (.ref f_Ladder) = true)
    (x1BadSize : PySem.W.nsIn K mainGlobals "BadSize" = some (some (.ref f_BadSize)))
    (x2BadSize : PySem.W.excIn K f_BadSize [.type "ValueError", .type "Exception", .type "BaseException", .type "object"] "ValueError.__new__" = true)
    (x3BadSize : PySem.W.keepIn K (.ref f_BadSize) = true)
    (x4BadSize : PySem.W.subIn K (.ref f_BadSize) (.type "BaseException") = some true)
    (x5BadSize : PySem.W.typeIn K (.ref f_BadSize) = some (.type "type"))
    (x6BadSize : PySem.W.hasDictIn K f_BadSize = true)
    (x1LadderError : PySem.W.nsIn K mainGlobals "LadderError" = some (some (.ref f_LadderError)))
    (x2LadderError : PySem.W.excIn K f_LadderError [.type "ValueError", .type "Exception", .type "BaseException", .type "object"] "ValueError.__new__" = true)
    (x3LadderError : PySem.W.keepIn K (.ref f_LadderError) = true)
    (x4LadderError : PySem.W.subIn K (.ref f_LadderError) (.type "BaseException") = some true)
    (x5LadderError : PySem.W.typeIn K (.ref f_LadderError) = some (.type "type"))
    (x6LadderError : PySem.W.hasDictIn K f_LadderError = true)
    (x1Missing : PySem.W.nsIn K mainGlobals "Missing" = some (some (.ref f_Missing)))
    (x2Missing : PySem.W.excIn K f_Missing [.type "ValueError", .type "Exception", .type "BaseException", .type "object"] "ValueError.__new__" = true)
    (x3Missing : PySem.W.keepIn K (.ref f_Missing) = true)
    (x4Missing : PySem.W.subIn K (.ref f_Missing) (.type "BaseException") = some true)
    (x5Missing : PySem.W.typeIn K (.ref f_Missing) = some (.type "type"))
    (x6Missing : PySem.W.hasDictIn K f_Missing = true)
    (x1NoLevel : PySem.W.nsIn K mainGlobals "NoLevel" = some (some (.ref f_NoLevel)))
    (x2NoLevel : PySem.W.excIn K f_NoLevel [.type "ValueError", .type "Exception", .type "BaseException", .type "object"] "ValueError.__new__" = true)
    (x3NoLevel : PySem.W.keepIn K (.ref f_NoLevel) = true)
    (x4NoLevel : PySem.W.subIn K (.ref f_NoLevel) (.type "BaseException") = some true)
    (x5NoLevel : PySem.W.typeIn K (.ref f_NoLevel) = some (.type "type"))
    (x6NoLevel : PySem.W.hasDictIn K f_NoLevel = true)
    (x1NoPlace : PySem.W.nsIn K mainGlobals "NoPlace" = some (some (.ref f_NoPlace)))
    (x2NoPlace : PySem.W.excIn K f_NoPlace [.type "ValueError", .type "Exception", .type "BaseException", .type "object"] "ValueError.__new__" = true)
    (x3NoPlace : PySem.W.keepIn K (.ref f_NoPlace) = true)
    (x4NoPlace : PySem.W.subIn K (.ref f_NoPlace) (.type "BaseException") = some true)
    (x5NoPlace : PySem.W.typeIn K (.ref f_NoPlace) = some (.type "type"))
    (x6NoPlace : PySem.W.hasDictIn K f_NoPlace = true)
    (x1OtherSize : PySem.W.nsIn K mainGlobals "OtherSize" = some (some (.ref f_OtherSize)))
    (x2OtherSize : PySem.W.excIn K f_OtherSize [.type "ValueError", .type "Exception", .type "BaseException", .type "object"] "ValueError.__new__" = true)
    (x3OtherSize : PySem.W.keepIn K (.ref f_OtherSize) = true)
    (x4OtherSize : PySem.W.subIn K (.ref f_OtherSize) (.type "BaseException") = some true)
    (x5OtherSize : PySem.W.typeIn K (.ref f_OtherSize) = some (.type "type"))
    (x6OtherSize : PySem.W.hasDictIn K f_OtherSize = true)
    (x1OutOfRange : PySem.W.nsIn K mainGlobals "OutOfRange" = some (some (.ref f_OutOfRange)))
    (x2OutOfRange : PySem.W.excIn K f_OutOfRange [.type "ValueError", .type "Exception", .type "BaseException", .type "object"] "ValueError.__new__" = true)
    (x3OutOfRange : PySem.W.keepIn K (.ref f_OutOfRange) = true)
    (x4OutOfRange : PySem.W.subIn K (.ref f_OutOfRange) (.type "BaseException") = some true)
    (x5OutOfRange : PySem.W.typeIn K (.ref f_OutOfRange) = some (.type "type"))
    (x6OutOfRange : PySem.W.hasDictIn K f_OutOfRange = true)
    (x1Present : PySem.W.nsIn K mainGlobals "Present" = some (some (.ref f_Present)))
    (x2Present : PySem.W.excIn K f_Present [.type "ValueError", .type "Exception", .type "BaseException", .type "object"] "ValueError.__new__" = true)
    (x3Present : PySem.W.keepIn K (.ref f_Present) = true)
    (x4Present : PySem.W.subIn K (.ref f_Present) (.type "BaseException") = some true)
    (x5Present : PySem.W.typeIn K (.ref f_Present) = some (.type "type"))
    (x6Present : PySem.W.hasDictIn K f_Present = true)
    (qe_BadSize_LadderError : PySem.W.subIn K (.ref f_BadSize) (.ref f_LadderError) = some true)
    (qe_BadSize_Missing : PySem.W.subIn K (.ref f_BadSize) (.ref f_Missing) = some false)
    (qe_BadSize_NoPlace : PySem.W.subIn K (.ref f_BadSize) (.ref f_NoPlace) = some false)
    (qe_BadSize_OtherSize : PySem.W.subIn K (.ref f_BadSize) (.ref f_OtherSize) = some false)
    (qe_BadSize_OutOfRange : PySem.W.subIn K (.ref f_BadSize) (.ref f_OutOfRange) = some false)
    (qe_BadSize_Present : PySem.W.subIn K (.ref f_BadSize) (.ref f_Present) = some false)
    (qe_Missing_LadderError : PySem.W.subIn K (.ref f_Missing) (.ref f_LadderError) = some true)
    (qe_Missing_Missing : PySem.W.subIn K (.ref f_Missing) (.ref f_Missing) = some true)
    (qe_Missing_NoPlace : PySem.W.subIn K (.ref f_Missing) (.ref f_NoPlace) = some false)
    (qe_Missing_OtherSize : PySem.W.subIn K (.ref f_Missing) (.ref f_OtherSize) = some false)
    (qe_Missing_OutOfRange : PySem.W.subIn K (.ref f_Missing) (.ref f_OutOfRange) = some false)
    (qe_Missing_Present : PySem.W.subIn K (.ref f_Missing) (.ref f_Present) = some false)
    (qe_NoLevel_LadderError : PySem.W.subIn K (.ref f_NoLevel) (.ref f_LadderError) = some true)
    (qe_NoLevel_Missing : PySem.W.subIn K (.ref f_NoLevel) (.ref f_Missing) = some false)
    (qe_NoLevel_NoPlace : PySem.W.subIn K (.ref f_NoLevel) (.ref f_NoPlace) = some false)
    (qe_NoLevel_OtherSize : PySem.W.subIn K (.ref f_NoLevel) (.ref f_OtherSize) = some false)
    (qe_NoLevel_OutOfRange : PySem.W.subIn K (.ref f_NoLevel) (.ref f_OutOfRange) = some false)
    (qe_NoLevel_Present : PySem.W.subIn K (.ref f_NoLevel) (.ref f_Present) = some false)
    (qe_NoPlace_LadderError : PySem.W.subIn K (.ref f_NoPlace) (.ref f_LadderError) = some true)
    (qe_NoPlace_Missing : PySem.W.subIn K (.ref f_NoPlace) (.ref f_Missing) = some false)
    (qe_NoPlace_NoPlace : PySem.W.subIn K (.ref f_NoPlace) (.ref f_NoPlace) = some true)
    (qe_NoPlace_OtherSize : PySem.W.subIn K (.ref f_NoPlace) (.ref f_OtherSize) = some false)
    (qe_NoPlace_OutOfRange : PySem.W.subIn K (.ref f_NoPlace) (.ref f_OutOfRange) = some false)
    (qe_NoPlace_Present : PySem.W.subIn K (.ref f_NoPlace) (.ref f_Present) = some false)
    (qe_OtherSize_LadderError : PySem.W.subIn K (.ref f_OtherSize) (.ref f_LadderError) = some true)
    (qe_OtherSize_Missing : PySem.W.subIn K (.ref f_OtherSize) (.ref f_Missing) = some false)
    (qe_OtherSize_NoPlace : PySem.W.subIn K (.ref f_OtherSize) (.ref f_NoPlace) = some false)
    (qe_OtherSize_OtherSize : PySem.W.subIn K (.ref f_OtherSize) (.ref f_OtherSize) = some true)
    (qe_OtherSize_OutOfRange : PySem.W.subIn K (.ref f_OtherSize) (.ref f_OutOfRange) = some false)
    (qe_OtherSize_Present : PySem.W.subIn K (.ref f_OtherSize) (.ref f_Present) = some false)
    (qe_OutOfRange_LadderError : PySem.W.subIn K (.ref f_OutOfRange) (.ref f_LadderError) = some true)
    (qe_OutOfRange_Missing : PySem.W.subIn K (.ref f_OutOfRange) (.ref f_Missing) = some false)
    (qe_OutOfRange_NoPlace : PySem.W.subIn K (.ref f_OutOfRange) (.ref f_NoPlace) = some false)
    (qe_OutOfRange_OtherSize : PySem.W.subIn K (.ref f_OutOfRange) (.ref f_OtherSize) = some false)
    (qe_OutOfRange_OutOfRange : PySem.W.subIn K (.ref f_OutOfRange) (.ref f_OutOfRange) = some true)
    (qe_OutOfRange_Present : PySem.W.subIn K (.ref f_OutOfRange) (.ref f_Present) = some false)
    (qe_Present_LadderError : PySem.W.subIn K (.ref f_Present) (.ref f_LadderError) = some true)
    (qe_Present_Missing : PySem.W.subIn K (.ref f_Present) (.ref f_Missing) = some false)
    (qe_Present_NoPlace : PySem.W.subIn K (.ref f_Present) (.ref f_NoPlace) = some false)
    (qe_Present_OtherSize : PySem.W.subIn K (.ref f_Present) (.ref f_OtherSize) = some false)
    (qe_Present_OutOfRange : PySem.W.subIn K (.ref f_Present) (.ref f_OutOfRange) = some false)
    (qe_Present_Present : PySem.W.subIn K (.ref f_Present) (.ref f_Present) = some true)
    (qi_BadSize_LadderError : PySem.W.kitOne K (.ref f_BadSize) (.ref f_LadderError) = some true)
    (qi_BadSize_ValueError : PySem.W.kitOne K (.ref f_BadSize) (.type "ValueError") = some true)
    (qi_Missing_LadderError : PySem.W.kitOne K (.ref f_Missing) (.ref f_LadderError) = some true)
    (qi_Missing_ValueError : PySem.W.kitOne K (.ref f_Missing) (.type "ValueError") = some true)
    (qi_NoLevel_LadderError : PySem.W.kitOne K (.ref f_NoLevel) (.ref f_LadderError) = some true)
    (qi_NoLevel_ValueError : PySem.W.kitOne K (.ref f_NoLevel) (.type "ValueError") = some true)
    (qi_NoPlace_LadderError : PySem.W.kitOne K (.ref f_NoPlace) (.ref f_LadderError) = some true)
    (qi_NoPlace_ValueError : PySem.W.kitOne K (.ref f_NoPlace) (.type "ValueError") = some true)
    (qi_OtherSize_LadderError : PySem.W.kitOne K (.ref f_OtherSize) (.ref f_LadderError) = some true)
    (qi_OtherSize_ValueError : PySem.W.kitOne K (.ref f_OtherSize) (.type "ValueError") = some true)
    (qi_OutOfRange_LadderError : PySem.W.kitOne K (.ref f_OutOfRange) (.ref f_LadderError) = some true)
    (qi_OutOfRange_ValueError : PySem.W.kitOne K (.ref f_OutOfRange) (.type "ValueError") = some true)
    (qi_Present_LadderError : PySem.W.kitOne K (.ref f_Present) (.ref f_LadderError) = some true)
    (qi_Present_ValueError : PySem.W.kitOne K (.ref f_Present) (.type "ValueError") = some true)
    (y1BadSize : PySem.W.findIn K (.ref f_BadSize) "__getattribute__" = some (some (.builtin "BaseException.__getattribute__")))
    (y2BadSize : PySem.W.findIn K (.ref f_BadSize) "__getattr__" = some none)
    (y3BadSize : PySem.W.findIn K (.ref f_BadSize) "__class__" = some (some (.builtin "object.__class__")))
    (y4BadSize : PySem.W.specialIn K (.builtin "object.__class__") "__get__" = some (some (.builtin "getset_descriptor.__get__")))
    (y5BadSize : PySem.W.takesIn K (.builtin "object.__class__") = some true)
    (y6BadSize : PySem.W.mroIn K f_BadSize (.type "object") = some true)
    (y1Missing : PySem.W.findIn K (.ref f_Missing) "__getattribute__" = some (some (.builtin "BaseException.__getattribute__")))
    (y2Missing : PySem.W.findIn K (.ref f_Missing) "__getattr__" = some none)
    (y3Missing : PySem.W.findIn K (.ref f_Missing) "__class__" = some (some (.builtin "object.__class__")))
    (y4Missing : PySem.W.specialIn K (.builtin "object.__class__") "__get__" = some (some (.builtin "getset_descriptor.__get__")))
    (y5Missing : PySem.W.takesIn K (.builtin "object.__class__") = some true)
    (y6Missing : PySem.W.mroIn K f_Missing (.type "object") = some true)
    (y1NoLevel : PySem.W.findIn K (.ref f_NoLevel) "__getattribute__" = some (some (.builtin "BaseException.__getattribute__")))
    (y2NoLevel : PySem.W.findIn K (.ref f_NoLevel) "__getattr__" = some none)
    (y3NoLevel : PySem.W.findIn K (.ref f_NoLevel) "__class__" = some (some (.builtin "object.__class__")))
    (y4NoLevel : PySem.W.specialIn K (.builtin "object.__class__") "__get__" = some (some (.builtin "getset_descriptor.__get__")))
    (y5NoLevel : PySem.W.takesIn K (.builtin "object.__class__") = some true)
    (y6NoLevel : PySem.W.mroIn K f_NoLevel (.type "object") = some true)
    (y1NoPlace : PySem.W.findIn K (.ref f_NoPlace) "__getattribute__" = some (some (.builtin "BaseException.__getattribute__")))
    (y2NoPlace : PySem.W.findIn K (.ref f_NoPlace) "__getattr__" = some none)
    (y3NoPlace : PySem.W.findIn K (.ref f_NoPlace) "__class__" = some (some (.builtin "object.__class__")))
    (y4NoPlace : PySem.W.specialIn K (.builtin "object.__class__") "__get__" = some (some (.builtin "getset_descriptor.__get__")))
    (y5NoPlace : PySem.W.takesIn K (.builtin "object.__class__") = some true)
    (y6NoPlace : PySem.W.mroIn K f_NoPlace (.type "object") = some true)
    (y1OtherSize : PySem.W.findIn K (.ref f_OtherSize) "__getattribute__" = some (some (.builtin "BaseException.__getattribute__")))
    (y2OtherSize : PySem.W.findIn K (.ref f_OtherSize) "__getattr__" = some none)
    (y3OtherSize : PySem.W.findIn K (.ref f_OtherSize) "__class__" = some (some (.builtin "object.__class__")))
    (y4OtherSize : PySem.W.specialIn K (.builtin "object.__class__") "__get__" = some (some (.builtin "getset_descriptor.__get__")))
    (y5OtherSize : PySem.W.takesIn K (.builtin "object.__class__") = some true)
    (y6OtherSize : PySem.W.mroIn K f_OtherSize (.type "object") = some true)
    (y1OutOfRange : PySem.W.findIn K (.ref f_OutOfRange) "__getattribute__" = some (some (.builtin "BaseException.__getattribute__")))
    (y2OutOfRange : PySem.W.findIn K (.ref f_OutOfRange) "__getattr__" = some none)
    (y3OutOfRange : PySem.W.findIn K (.ref f_OutOfRange) "__class__" = some (some (.builtin "object.__class__")))
    (y4OutOfRange : PySem.W.specialIn K (.builtin "object.__class__") "__get__" = some (some (.builtin "getset_descriptor.__get__")))
    (y5OutOfRange : PySem.W.takesIn K (.builtin "object.__class__") = some true)
    (y6OutOfRange : PySem.W.mroIn K f_OutOfRange (.type "object") = some true)
    (y1Present : PySem.W.findIn K (.ref f_Present) "__getattribute__" = some (some (.builtin "BaseException.__getattribute__")))
    (y2Present : PySem.W.findIn K (.ref f_Present) "__getattr__" = some none)
    (y3Present : PySem.W.findIn K (.ref f_Present) "__class__" = some (some (.builtin "object.__class__")))
    (y4Present : PySem.W.specialIn K (.builtin "object.__class__") "__get__" = some (some (.builtin "getset_descriptor.__get__")))
    (y5Present : PySem.W.takesIn K (.builtin "object.__class__") = some true)
    (y6Present : PySem.W.mroIn K f_Present (.type "object") = some true)
    : ∃ fd : FuncData, (∀ (s : Shared) (v : Value), BindsTo s fd ⟨[v], []⟩ [("_law_script", v)]) ∧ ∀ base : Heap, K.In base → base.Ns mainGlobals mg → FnOk l.prog w K mg base CX0 10 fa fd ["_law_script"] (spLaw K) := by
  have e := hfa.symm.trans (PySem.W.mg_of X G a46)
  cases e
  have T : Txt K mg { power := f_power, init := f_init, _law_number := f__law_number, need_level := f_need_level, level_row := f_level_row, level := f_level, need := f_need, nearest := f_nearest, place := f_place, counted := f_counted, has := f_has, steps := f_steps, trail := f_trail, below := f_below, behind := f_behind, above := f_above, row := f_row, steps_by_gaps := f_steps_by_gaps, way := f_way, a_at := f_a_at, stretch := f_stretch, ahead := f_ahead, _law_told := f__law_told, block := f_block, tall := f_tall, alike := f_alike, stand_in := f_stand_in, put := f_put, _law_made := f__law_made, go_out := f_go_out, take := f_take, cut := f_cut, poured := f_poured, _law_refused := f__law_refused, _law_ends := f__law_ends, _law_again := f__law_again, _law_goes_on := f__law_goes_on, _law_is_there := f__law_is_there, _law_by_turns := f__law_by_turns, _law_woven := f__law_woven, _law_half := f__law_half, _law_mated := f__law_mated, _law_cut := f__law_cut, _law_deed := f__law_deed, _law_cell_at := f__law_cell_at, _law_refused_by_any := f__law_refused_by_any, law := fa, Ladder := f_Ladder, BadSize := f_BadSize, LadderError := f_LadderError, Missing := f_Missing, NoLevel := f_NoLevel, NoPlace := f_NoPlace, OtherSize := f_OtherSize, OutOfRange := f_OutOfRange, Present := f_Present } :=
    { f_power := ⟨_, fun_mk (st := s_power) l0 c0 k0⟩,
      g_power := PySem.W.mg_of X G a0,
      k_power := k0,
      f___init__ := ⟨_, fun_mk (st := s___init__) l1 c1 k1⟩,
      f__law_number := ⟨_, fun_mk (st := s__law_number) l2 c2 k2⟩,
      g__law_number := PySem.W.mg_of X G a2,
      k__law_number := k2,
      f_need_level := ⟨_, fun_mk (st := s_need_level) l3 c3 k3⟩,
      m_need_level := ⟨a3, i3, k3⟩,
      f_level_row := ⟨_, fun_mk (st := s_level_row) l4 c4 k4⟩,
      g_level_row := PySem.W.mg_of X G a4,
      k_level_row := k4,
      f_level := ⟨_, fun_mk (st := s_level) l5 c5 k5⟩,
      m_level := ⟨a5, i5, k5⟩,
      f_need := ⟨_, fun_mk (st := s_need) l6 c6 k6⟩,
      m_need := ⟨a6, i6, k6⟩,
      f_nearest := ⟨_, fun_mk (st := s_nearest) l7 c7 k7⟩,
      g_nearest := PySem.W.mg_of X G a7,
      k_nearest := k7,
      f_place := ⟨_, fun_mk (st := s_place) l8 c8 k8⟩,
      m_place := ⟨a8, i8, k8⟩,
      f_counted := ⟨_, fun_mk (st := s_counted) l9 c9 k9⟩,
      m_counted := ⟨a9, i9, k9⟩,
      f_has := ⟨_, fun_mk (st := s_has) l10 c10 k10⟩,
      m_has := ⟨a10, i10, k10⟩,
      f_steps := ⟨_, fun_mk (st := s_steps) l11 c11 k11⟩,
      g_steps := PySem.W.mg_of X G a11,
      k_steps := k11,
      f_trail := ⟨_, fun_mk (st := s_trail) l12 c12 k12⟩,
      m_trail := ⟨a12, i12, k12⟩,
      f_below := ⟨_, fun_mk (st := s_below) l13 c13 k13⟩,
      m_below := ⟨a13, i13, k13⟩,
      f_behind := ⟨_, fun_mk (st := s_behind) l14 c14 k14⟩,
      m_behind := ⟨a14, i14, k14⟩,
      f_above := ⟨_, fun_mk (st := s_above) l15 c15 k15⟩,
      m_above := ⟨a15, i15, k15⟩,
      f_row := ⟨_, fun_mk (st := s_row) l16 c16 k16⟩,
      m_row := ⟨a16, i16, k16⟩,
      f_steps_by_gaps := ⟨_, fun_mk (st := s_steps_by_gaps) l17 c17 k17⟩,
      g_steps_by_gaps := PySem.W.mg_of X G a17,
      k_steps_by_gaps := k17,
      f_way := ⟨_, fun_mk (st := s_way) l18 c18 k18⟩,
      m_way := ⟨a18, i18, k18⟩,
      f_at := ⟨_, fun_mk (st := s_at) l19 c19 k19⟩,
      m_at := ⟨a19, i19, k19⟩,
      f_stretch := ⟨_, fun_mk (st := s_stretch) l20 c20 k20⟩,
      m_stretch := ⟨a20, i20, k20⟩,
      f_ahead := ⟨_, fun_mk (st := s_ahead) l21 c21 k21⟩,
      m_ahead := ⟨a21, i21, k21⟩,
      f__law_told := ⟨_, fun_mk (st := s__law_told) l22 c22 k22⟩,
      g__law_told := PySem.W.mg_of X G a22,
      k__law_told := k22,
      f_block := ⟨_, fun_mk (st := s_block) l23 c23 k23⟩,
      g_block := PySem.W.mg_of X G a23,
      k_block := k23,
      f_tall := ⟨_, fun_mk (st := s_tall) l24 c24 k24⟩,
      g_tall := PySem.W.mg_of X G a24,
      k_tall := k24,
      f_alike := ⟨_, fun_mk (st := s_alike) l25 c25 k25⟩,
      m_alike := ⟨a25, i25, k25⟩,
      f_stand_in := ⟨_, fun_mk (st := s_stand_in) l26 c26 k26⟩,
      m_stand_in := ⟨a26, i26, k26⟩,
      f_put := ⟨_, fun_mk (st := s_put) l27 c27 k27⟩,
      m_put := ⟨a27, i27, k27⟩,
      f__law_made := ⟨_, fun_mk (st := s__law_made) l28 c28 k28⟩,
      g__law_made := PySem.W.mg_of X G a28,
      k__law_made := k28,
      f_go_out := ⟨_, fun_mk (st := s_go_out) l29 c29 k29⟩,
      m_go_out := ⟨a29, i29, k29⟩,
      f_take := ⟨_, fun_mk (st := s_take) l30 c30 k30⟩,
      m_take := ⟨a30, i30, k30⟩,
      f_cut := ⟨_, fun_mk (st := s_cut) l31 c31 k31⟩,
      g_cut := PySem.W.mg_of X G a31,
      k_cut := k31,
      f_poured := ⟨_, fun_mk (st := s_poured) l32 c32 k32⟩,
      g_poured := PySem.W.mg_of X G a32,
      k_poured := k32,
      f__law_refused := ⟨_, fun_mk (st := s__law_refused) l33 c33 k33⟩,
      g__law_refused := PySem.W.mg_of X G a33,
      k__law_refused := k33,
      f__law_ends := ⟨_, fun_mk (st := s__law_ends) l34 c34 k34⟩,
      g__law_ends := PySem.W.mg_of X G a34,
      k__law_ends := k34,
      f__law_again := ⟨_, fun_mk (st := s__law_again) l35 c35 k35⟩,
      g__law_again := PySem.W.mg_of X G a35,
      k__law_again := k35,
      f__law_goes_on := ⟨_, fun_mk (st := s__law_goes_on) l36 c36 k36⟩,
      g__law_goes_on := PySem.W.mg_of X G a36,
      k__law_goes_on := k36,
      f__law_is_there := ⟨_, fun_mk (st := s__law_is_there) l37 c37 k37⟩,
      g__law_is_there := PySem.W.mg_of X G a37,
      k__law_is_there := k37,
      f__law_by_turns := ⟨_, fun_mk (st := s__law_by_turns) l38 c38 k38⟩,
      g__law_by_turns := PySem.W.mg_of X G a38,
      k__law_by_turns := k38,
      f__law_woven := ⟨_, fun_mk (st := s__law_woven) l39 c39 k39⟩,
      g__law_woven := PySem.W.mg_of X G a39,
      k__law_woven := k39,
      f__law_half := ⟨_, fun_mk (st := s__law_half) l40 c40 k40⟩,
      g__law_half := PySem.W.mg_of X G a40,
      k__law_half := k40,
      f__law_mated := ⟨_, fun_mk (st := s__law_mated) l41 c41 k41⟩,
      g__law_mated := PySem.W.mg_of X G a41,
      k__law_mated := k41,
      f__law_cut := ⟨_, fun_mk (st := s__law_cut) l42 c42 k42⟩,
      g__law_cut := PySem.W.mg_of X G a42,
      k__law_cut := k42,
      f__law_deed := ⟨_, fun_mk (st := s__law_deed) l43 c43 k43⟩,
      g__law_deed := PySem.W.mg_of X G a43,
      k__law_deed := k43,
      f__law_cell_at := ⟨_, fun_mk (st := s__law_cell_at) l44 c44 k44⟩,
      g__law_cell_at := PySem.W.mg_of X G a44,
      k__law_cell_at := k44,
      f__law_refused_by_any := ⟨_, fun_mk (st := s__law_refused_by_any) l45 c45 k45⟩,
      g__law_refused_by_any := PySem.W.mg_of X G a45,
      k__law_refused_by_any := k45,
      f_law := ⟨_, fun_mk (st := s_law) l46 c46 k46⟩,
      g_law := PySem.W.mg_of X G a46,
      k_law := k46,
      z_ValueError := PySem.W.mg_none_of X G z_ValueError,
      z_all := PySem.W.mg_none_of X G z_all,
      z_int := PySem.W.mg_none_of X G z_int,
      z_isinstance := PySem.W.mg_none_of X G z_isinstance,
      z_len := PySem.W.mg_none_of X G z_len,
      z_list := PySem.W.mg_none_of X G z_list,
      z_max := PySem.W.mg_none_of X G z_max,
      z_min := PySem.W.mg_none_of X G z_min,
      z_range := PySem.W.mg_none_of X G z_range,
      z_reversed := PySem.W.mg_none_of X G z_reversed,
      z_sorted := PySem.W.mg_none_of X G z_sorted,
      z_tuple := PySem.W.mg_none_of X G z_tuple,
      lt := ⟨⟨pg, hd, po, sa⟩, n_width, n_high, n_limit, n_many, n_least, n_nexts, n_gaps⟩,
      g_Ladder := PySem.W.mg_of X G aC,
      mk_Ladder := ⟨mk, a1, i1, kc⟩,
      x_BadSize := ⟨PySem.W.mg_of X G x1BadSize, x2BadSize, x3BadSize, x4BadSize, x5BadSize, x6BadSize⟩,
      x_LadderError := ⟨PySem.W.mg_of X G x1LadderError, x2LadderError, x3LadderError, x4LadderError, x5LadderError, x6LadderError⟩,
      x_Missing := ⟨PySem.W.mg_of X G x1Missing, x2Missing, x3Missing, x4Missing, x5Missing, x6Missing⟩,
      x_NoLevel := ⟨PySem.W.mg_of X G x1NoLevel, x2NoLevel, x3NoLevel, x4NoLevel, x5NoLevel, x6NoLevel⟩,
      x_NoPlace := ⟨PySem.W.mg_of X G x1NoPlace, x2NoPlace, x3NoPlace, x4NoPlace, x5NoPlace, x6NoPlace⟩,
      x_OtherSize := ⟨PySem.W.mg_of X G x1OtherSize, x2OtherSize, x3OtherSize, x4OtherSize, x5OtherSize, x6OtherSize⟩,
      x_OutOfRange := ⟨PySem.W.mg_of X G x1OutOfRange, x2OutOfRange, x3OutOfRange, x4OutOfRange, x5OutOfRange, x6OutOfRange⟩,
      x_Present := ⟨PySem.W.mg_of X G x1Present, x2Present, x3Present, x4Present, x5Present, x6Present⟩,
      e_BadSize_LadderError := PySem.W.exm_ref x4LadderError x6LadderError x5LadderError qe_BadSize_LadderError,
      e_BadSize_Missing := PySem.W.exm_ref x4Missing x6Missing x5Missing qe_BadSize_Missing,
      e_BadSize_NoPlace := PySem.W.exm_ref x4NoPlace x6NoPlace x5NoPlace qe_BadSize_NoPlace,
      e_BadSize_OtherSize := PySem.W.exm_ref x4OtherSize x6OtherSize x5OtherSize qe_BadSize_OtherSize,
      e_BadSize_OutOfRange := PySem.W.exm_ref x4OutOfRange x6OutOfRange x5OutOfRange qe_BadSize_OutOfRange,
      e_BadSize_Present := PySem.W.exm_ref x4Present x6Present x5Present qe_BadSize_Present,
      e_Missing_LadderError := PySem.W.exm_ref x4LadderError x6LadderError x5LadderError qe_Missing_LadderError,
      e_Missing_Missing := PySem.W.exm_ref x4Missing x6Missing x5Missing qe_Missing_Missing,
      e_Missing_NoPlace := PySem.W.exm_ref x4NoPlace x6NoPlace x5NoPlace qe_Missing_NoPlace,
      e_Missing_OtherSize := PySem.W.exm_ref x4OtherSize x6OtherSize x5OtherSize qe_Missing_OtherSize,
      e_Missing_OutOfRange := PySem.W.exm_ref x4OutOfRange x6OutOfRange x5OutOfRange qe_Missing_OutOfRange,
      e_Missing_Present := PySem.W.exm_ref x4Present x6Present x5Present qe_Missing_Present,
      e_NoLevel_LadderError := PySem.W.exm_ref x4LadderError x6LadderError x5LadderError qe_NoLevel_LadderError,
      e_NoLevel_Missing := PySem.W.exm_ref x4Missing x6Missing x5Missing qe_NoLevel_Missing,
      e_NoLevel_NoPlace := PySem.W.exm_ref x4NoPlace x6NoPlace x5NoPlace qe_NoLevel_NoPlace,
      e_NoLevel_OtherSize := PySem.W.exm_ref x4OtherSize x6OtherSize x5OtherSize qe_NoLevel_OtherSize,
      e_NoLevel_OutOfRange := PySem.W.exm_ref x4OutOfRange x6OutOfRange x5OutOfRange qe_NoLevel_OutOfRange,
      e_NoLevel_Present := PySem.W.exm_ref x4Present x6Present x5Present qe_NoLevel_Present,
      e_NoPlace_LadderError := PySem.W.exm_ref x4LadderError x6LadderError x5LadderError qe_NoPlace_LadderError,
      e_NoPlace_Missing := PySem.W.exm_ref x4Missing x6Missing x5Missing qe_NoPlace_Missing,
      e_NoPlace_NoPlace := PySem.W.exm_ref x4NoPlace x6NoPlace x5NoPlace qe_NoPlace_NoPlace,
      e_NoPlace_OtherSize := PySem.W.exm_ref x4OtherSize x6OtherSize x5OtherSize qe_NoPlace_OtherSize,
      e_NoPlace_OutOfRange := PySem.W.exm_ref x4OutOfRange x6OutOfRange x5OutOfRange qe_NoPlace_OutOfRange,
      e_NoPlace_Present := PySem.W.exm_ref x4Present x6Present x5Present qe_NoPlace_Present,
      e_OtherSize_LadderError := PySem.W.exm_ref x4LadderError x6LadderError x5LadderError qe_OtherSize_LadderError,
      e_OtherSize_Missing := PySem.W.exm_ref x4Missing x6Missing x5Missing qe_OtherSize_Missing,
      e_OtherSize_NoPlace := PySem.W.exm_ref x4NoPlace x6NoPlace x5NoPlace qe_OtherSize_NoPlace,
      e_OtherSize_OtherSize := PySem.W.exm_ref x4OtherSize x6OtherSize x5OtherSize qe_OtherSize_OtherSize,
      e_OtherSize_OutOfRange := PySem.W.exm_ref x4OutOfRange x6OutOfRange x5OutOfRange qe_OtherSize_OutOfRange,
      e_OtherSize_Present := PySem.W.exm_ref x4Present x6Present x5Present qe_OtherSize_Present,
      e_OutOfRange_LadderError := PySem.W.exm_ref x4LadderError x6LadderError x5LadderError qe_OutOfRange_LadderError,
      e_OutOfRange_Missing := PySem.W.exm_ref x4Missing x6Missing x5Missing qe_OutOfRange_Missing,
      e_OutOfRange_NoPlace := PySem.W.exm_ref x4NoPlace x6NoPlace x5NoPlace qe_OutOfRange_NoPlace,
      e_OutOfRange_OtherSize := PySem.W.exm_ref x4OtherSize x6OtherSize x5OtherSize qe_OutOfRange_OtherSize,
      e_OutOfRange_OutOfRange := PySem.W.exm_ref x4OutOfRange x6OutOfRange x5OutOfRange qe_OutOfRange_OutOfRange,
      e_OutOfRange_Present := PySem.W.exm_ref x4Present x6Present x5Present qe_OutOfRange_Present,
      e_Present_LadderError := PySem.W.exm_ref x4LadderError x6LadderError x5LadderError qe_Present_LadderError,
      e_Present_Missing := PySem.W.exm_ref x4Missing x6Missing x5Missing qe_Present_Missing,
      e_Present_NoPlace := PySem.W.exm_ref x4NoPlace x6NoPlace x5NoPlace qe_Present_NoPlace,
      e_Present_OtherSize := PySem.W.exm_ref x4OtherSize x6OtherSize x5OtherSize qe_Present_OtherSize,
      e_Present_OutOfRange := PySem.W.exm_ref x4OutOfRange x6OutOfRange x5OutOfRange qe_Present_OutOfRange,
      e_Present_Present := PySem.W.exm_ref x4Present x6Present x5Present qe_Present_Present,
      i_BadSize_LadderError := qi_BadSize_LadderError,
      i_BadSize_ValueError := qi_BadSize_ValueError,
      i_Missing_LadderError := qi_Missing_LadderError,
      i_Missing_ValueError := qi_Missing_ValueError,
      i_NoLevel_LadderError := qi_NoLevel_LadderError,
      i_NoLevel_ValueError := qi_NoLevel_ValueError,
      i_NoPlace_LadderError := qi_NoPlace_LadderError,
      i_NoPlace_ValueError := qi_NoPlace_ValueError,
      i_OtherSize_LadderError := qi_OtherSize_LadderError,
      i_OtherSize_ValueError := qi_OtherSize_ValueError,
      i_OutOfRange_LadderError := qi_OutOfRange_LadderError,
      i_OutOfRange_ValueError := qi_OutOfRange_ValueError,
      i_Present_LadderError := qi_Present_LadderError,
      i_Present_ValueError := qi_Present_ValueError,
      c_BadSize := ⟨y1BadSize, y2BadSize, x4BadSize, x6BadSize, y3BadSize, y4BadSize, y5BadSize, y6BadSize⟩,
      c_Missing := ⟨y1Missing, y2Missing, x4Missing, x6Missing, y3Missing, y4Missing, y5Missing, y6Missing⟩,
      c_NoLevel := ⟨y1NoLevel, y2NoLevel, x4NoLevel, x6NoLevel, y3NoLevel, y4NoLevel, y5NoLevel, y6NoLevel⟩,
      c_NoPlace := ⟨y1NoPlace, y2NoPlace, x4NoPlace, x6NoPlace, y3NoPlace, y4NoPlace, y5NoPlace, y6NoPlace⟩,
      c_OtherSize := ⟨y1OtherSize, y2OtherSize, x4OtherSize, x6OtherSize, y3OtherSize, y4OtherSize, y5OtherSize, y6OtherSize⟩,
      c_OutOfRange := ⟨y1OutOfRange, y2OutOfRange, x4OutOfRange, x6OutOfRange, y3OutOfRange, y4OutOfRange, y5OutOfRange, y6OutOfRange⟩,
      c_Present := ⟨y1Present, y2Present, x4Present, x6Present, y3Present, y4Present, y5Present, y6Present⟩ }
  exact ⟨_, fun s v => .of_eq rfl, fun base _ _ => ok_law (fun_mk (st := s_law) l46 c46 k46) T⟩
theorem walk {l : PySem.W.OpenLaw} {q : Program} {loose : List Str} {XP : (Str → Option Value) → Heap → Prop} {YP : World → Heap → Prop} {d : DefRec} {K : Params → PySem.W.Frag} (hn : l.most = some 63) (hdf : d.params.defaults = [])
    (hY : ∀ (w : World) (h : Heap), YP w h → (K w.params).In h)
    (F : ∀ (w : World) (mg : Str → Option Value) (fa : Addr) (h : Heap), (K w.params).In h → h.Ns mainGlobals mg → mg d.name = some (.ref fa) →
      ∃ fd : FuncData, (∀ (s : Shared) (u : Value), BindsTo s fd ⟨[u], []⟩ [("_law_script", u)]) ∧ ∀ base : Heap, (K w.params).In base → base.Ns mainGlobals mg → FnOk l.prog w (K w.params) mg base CX0 10 fa fd ["_law_script"] (spLaw (K w.params))) :
    PySem.W.WalkO q loose XP YP l.row.toRowW d [] (fun f vs => PySem.call f vs) :=
  L2.walk_of (n := 63) (k := 10) (x := "_law_script") (CX := fun _ => CX0) (sp := fun w => spLaw (K w.params)) hn (by decide) hdf ⟨rfl, by decide, by decide⟩ hY F (fun _ _ a ns hl _ hS => ⟨a, ns, rfl, hS, hl, fun _ => rfl⟩) fun _ _ _ _ _ z => z
end Lk
open PySem PySem.W PyProof.Rows
set_option maxRecDepth 100000 in
set_option maxHeartbeats 0 in
theorem PySem.Challenge.cw_skipladder_k14_whole_parts_holds : PySem.Challenge.rw_skipladder_k14_whole_parts.Holds := by
  w_on; o_law; k_head; (case hw => w_witness2)
  k_fill
  refine Lk.walk (l := PySem.Challenge.rw_skipladder_k14_whole_parts) rfl rfl (fun w h Y => PySem.W.kIn_of Y) ?F
  case F =>
    intro w mg fa h KX G hmg
    refine' Lk.all_mk KX G hmg ?aC ?a0 ?l0 ?c0 ?k0 ?a1 ?i1 ?l1 ?c1 ?k1 ?a2 ?l2 ?c2 ?k2 ?a3 ?i3 ?l3 ?c3 ?k3 ?a4 ?l4 ?c4 ?k4 ?a5 ?i5 ?l5 ?c5 ?k5 ?a6 ?i6 ?l6 ?c6 ?k6 ?a7 ?l7 ?c7 ?k7 ?a8 ?i8 ?l8 ?c8 ?k8 ?a9 ?i9 ?l9 ?c9 ?k9 ?a10 ?i10 ?l10 ?c10 ?k10 ?a11 ?l11 ?c11 ?k11 ?a12 ?i12 ?l12 ?c12 ?k12 ?a13 ?i13 ?l13 ?c13 ?k13 ?a14 ?i14 ?l14 ?c14 ?k14 ?a15 ?i15 ?l15 ?c15 ?k15 ?a16 ?i16 ?l16 ?c16 ?k16 ?a17 ?l17 ?c17 ?k17 ?a18 ?i18 ?l18 ?c18 ?k18 ?a19 ?i19 ?l19 ?c19 ?k19 ?a20 ?i20 ?l20 ?c20 ?k20 ?a21 ?i21 ?l21 ?c21 ?k21 ?a22 ?l22 ?c22 ?k22 ?a23 ?l23 ?c23 ?k23 ?a24 ?l24 ?c24 ?k24 ?a25 ?i25 ?l25 ?c25 ?k25 ?a26 ?i26 ?l26 ?c26 ?k26 ?a27 ?i27 ?l27 ?c27 ?k27 ?a28 ?l28 ?c28 ?k28 ?a29 ?i29 ?l29 ?c29 ?k29 ?a30 ?i30 ?l30 ?c30 ?k30 ?a31 ?l31 ?c31 ?k31 ?a32 ?l32 ?c32 ?k32 ?a33 ?l33 ?c33 ?k33 ?a34 ?l34 ?c34 ?k34 ?a35 ?l35 ?c35 ?k35 ?a36 ?l36 ?c36 ?k36 ?a37 ?l37 ?c37 ?k37 ?a38 ?l38 ?c38 ?k38 ?a39 ?l39 ?c39 ?k39 ?a40 ?l40 ?c40 ?k40 ?a41 ?l41 ?c41 ?k41 ?a42 ?l42 ?c42 ?k42 ?a43 ?l43 ?c43 ?k43 ?a44 ?l44 ?c44 ?k44 ?a45 ?l45 ?c45 ?k45 ?a46 ?l46 ?c46 ?k46 ?z_ValueError ?z_all ?z_int ?z_isinstance ?z_len ?z_list ?z_max ?z_min ?z_range ?z_reversed ?z_sorted ?z_tuple ?pg ?hd ?po ?sa ?n_width ?n_high ?n_limit ?n_many ?n_least ?n_nexts ?n_gaps ?mk ?kc ?x1BadSize ?x2BadSize ?x3BadSize ?x4BadSize ?x5BadSize ?x6BadSize ?x1LadderError ?x2LadderError ?x3LadderError ?x4LadderError ?x5LadderError ?x6LadderError ?x1Missing ?x2Missing ?x3Missing ?x4Missing ?x5Missing ?x6Missing ?x1NoLevel ?x2NoLevel ?x3NoLevel ?x4NoLevel ?x5NoLevel ?x6NoLevel ?x1NoPlace ?x2NoPlace ?x3NoPlace ?x4NoPlace ?x5NoPlace ?x6NoPlace ?x1OtherSize ?x2OtherSize ?x3OtherSize ?x4OtherSize ?x5OtherSize ?x6OtherSize ?x1OutOfRange ?x2OutOfRange ?x3OutOfRange ?x4OutOfRange ?x5OutOfRange ?x6OutOfRange ?x1Present ?x2Present ?x3Present ?x4Present ?x5Present ?x6Present ?qe_BadSize_LadderError ?qe_BadSize_Missing ?qe_BadSize_NoPlace ?qe_BadSize_OtherSize ?qe_BadSize_OutOfRange ?qe_BadSize_Present ?qe_Missing_LadderError ?qe_Missing_Missing ?qe_Missing_NoPlace ?qe_Missing_OtherSize ?qe_Missing_OutOfRange ?qe_Missing_Present ?qe_NoLevel_LadderError ?qe_NoLevel_Missing ?qe_NoLevel_NoPlace ?qe_NoLevel_OtherSize ?qe_NoLevel_OutOfRange ?qe_NoLevel_Present ?qe_NoPlace_LadderError ?qe_NoPlace_Missing ?qe_NoPlace_NoPlace ?qe_NoPlace_OtherSize ?qe_NoPlace_OutOfRange ?qe_NoPlace_Present ?qe_OtherSize_LadderError ?qe_OtherSize_Missing ?qe_OtherSize_NoPlace ?qe_OtherSize_OtherSize ?qe_OtherSize_OutOfRange ?qe_OtherSize_Present ?qe_OutOfRange_LadderError ?qe_OutOfRange_Missing ?qe_OutOfRange_NoPlace ?qe_OutOfRange_OtherSize ?qe_OutOfRange_OutOfRange ?qe_OutOfRange_Present ?qe_Present_LadderError ?qe_Present_Missing ?qe_Present_NoPlace ?qe_Present_OtherSize ?qe_Present_OutOfRange ?qe_Present_Present ?qi_BadSize_LadderError ?qi_BadSize_ValueError ?qi_Missing_LadderError ?qi_Missing_ValueError ?qi_NoLevel_LadderError ?qi_NoLevel_ValueError ?qi_NoPlace_LadderError ?qi_NoPlace_ValueError ?qi_OtherSize_LadderError ?qi_OtherSize_ValueError ?qi_OutOfRange_LadderError ?qi_OutOfRange_ValueError ?qi_Present_LadderError ?qi_Present_ValueError ?y1BadSize ?y2BadSize ?y3BadSize ?y4BadSize ?y5BadSize ?y6BadSize ?y1Missing ?y2Missing ?y3Missing ?y4Missing ?y5Missing ?y6Missing ?y1NoLevel ?y2NoLevel ?y3NoLevel ?y4NoLevel ?y5NoLevel ?y6NoLevel ?y1NoPlace ?y2NoPlace ?y3NoPlace ?y4NoPlace ?y5NoPlace ?y6NoPlace ?y1OtherSize ?y2OtherSize ?y3OtherSize ?y4OtherSize ?y5OtherSize ?y6OtherSize ?y1OutOfRange ?y2OutOfRange ?y3OutOfRange ?y4OutOfRange ?y5OutOfRange ?y6OutOfRange ?y1Present ?y2Present ?y3Present ?y4Present ?y5Present ?y6Present
    (case aC => k_is)
    (case a0 => k_is)
    (case l0 => k_is)
    (case c0 => k_is)
    (case k0 => k_is)
    (case a1 => k_is)
    (case i1 => k_is)
    (case l1 => k_is)
    (case c1 => k_is)
    (case k1 => k_is)
    (case a2 => k_is)
    (case l2 => k_is)
    (case c2 => k_is)
    (case k2 => k_is)
    (case a3 => k_is)
    (case i3 => k_is)
    (case l3 => k_is)
    (case c3 => k_is)
    (case k3 => k_is)
    (case a4 => k_is)
    (case l4 => k_is)
    (case c4 => k_is)
    (case k4 => k_is)
    (case a5 => k_is)
    (case i5 => k_is)
    (case l5 => k_is)
    (case c5 => k_is)
    (case k5 => k_is)
    (case a6 => k_is)
    (case i6 => k_is)
    (case l6 => k_is)
    (case c6 => k_is)
    (case k6 => k_is)
    (case a7 => k_is)
    (case l7 => k_is)
    (case c7 => k_is)
    (case k7 => k_is)
    (case a8 => k_is)
    (case i8 => k_is)
    (case l8 => k_is)
    (case c8 => k_is)
    (case k8 => k_is)
    (case a9 => k_is)
    (case i9 => k_is)
    (case l9 => k_is)
    (case c9 => k_is)
    (case k9 => k_is)
    (case a10 => k_is)
    (case i10 => k_is)
    (case l10 => k_is)
    (case c10 => k_is)
    (case k10 => k_is)
    (case a11 => k_is)
    (case l11 => k_is)
    (case c11 => k_is)
    (case k11 => k_is)
    (case a12 => k_is)
    (case i12 => k_is)
    (case l12 => k_is)
    (case c12 => k_is)
    (case k12 => k_is)
    (case a13 => k_is)
    (case i13 => k_is)
    (case l13 => k_is)
    (case c13 => k_is)
    (case k13 => k_is)
    (case a14 => k_is)
    (case i14 => k_is)
    (case l14 => k_is)
    (case c14 => k_is)
    (case k14 => k_is)
    (case a15 => k_is)
    (case i15 => k_is)
    (case l15 => k_is)
    (case c15 => k_is)
    (case k15 => k_is)
    (case a16 => k_is)
    (case i16 => k_is)
    (case l16 => k_is)
    (case c16 => k_is)
    (case k16 => k_is)
    (case a17 => k_is)
    (case l17 => k_is)
    (case c17 => k_is)
    (case k17 => k_is)
    (case a18 => k_is)
    (case i18 => k_is)
    (case l18 => k_is)
    (case c18 => k_is)
    (case k18 => k_is)
    (case a19 => k_is)
    (case i19 => k_is)
    (case l19 => k_is)
    (case c19 => k_is)
    (case k19 => k_is)
    (case a20 => k_is)
    (case i20 => k_is)
    (case l20 => k_is)
    (case c20 => k_is)
    (case k20 => k_is)
    (case a21 => k_is)
    (case i21 => k_is)
    (case l21 => k_is)
    (case c21 => k_is)
    (case k21 => k_is)
    (case a22 => k_is)
    (case l22 => k_is)
    (case c22 => k_is)
    (case k22 => k_is)
    (case a23 => k_is)
    (case l23 => k_is)
    (case c23 => k_is)
    (case k23 => k_is)
    (case a24 => k_is)
    (case l24 => k_is)
    (case c24 => k_is)
    (case k24 => k_is)
    (case a25 => k_is)
    (case i25 => k_is)
    (case l25 => k_is)
    (case c25 => k_is)
    (case k25 => k_is)
    (case a26 => k_is)
    (case i26 => k_is)
    (case l26 => k_is)
    (case c26 => k_is)
    (case k26 => k_is)
    (case a27 => k_is)
    (case i27 => k_is)
    (case l27 => k_is)
    (case c27 => k_is)
    (case k27 => k_is)
    (case a28 => k_is)
    (case l28 => k_is)
    (case c28 => k_is)
    (case k28 => k_is)
    (case a29 => k_is)
    (case i29 => k_is)
    (case l29 => k_is)
    (case c29 => k_is)
    (case k29 => k_is)
    (case a30 => k_is)
    (case i30 => k_is)
    (case l30 => k_is)
    (case c30 => k_is)
    (case k30 => k_is)
    (case a31 => k_is)
    (case l31 => k_is)
    (case c31 => k_is)
    (case k31 => k_is)
    (case a32 => k_is)
    (case l32 => k_is)
    (case c32 => k_is)
    (case k32 => k_is)
    (case a33 => k_is)
    (case l33 => k_is)
    (case c33 => k_is)
    (case k33 => k_is)
    (case a34 => k_is)
    (case l34 => k_is)
    (case c34 => k_is)
    (case k34 => k_is)
    (case a35 => k_is)
    (case l35 => k_is)
    (case c35 => k_is)
    (case k35 => k_is)
    (case a36 => k_is)
    (case l36 => k_is)
    (case c36 => k_is)
    (case k36 => k_is)
    (case a37 => k_is)
    (case l37 => k_is)
    (case c37 => k_is)
    (case k37 => k_is)
    (case a38 => k_is)
    (case l38 => k_is)
    (case c38 => k_is)
    (case k38 => k_is)
    (case a39 => k_is)
    (case l39 => k_is)
    (case c39 => k_is)
    (case k39 => k_is)
    (case a40 => k_is)
    (case l40 => k_is)
    (case c40 => k_is)
    (case k40 => k_is)
    (case a41 => k_is)
    (case l41 => k_is)
    (case c41 => k_is)
    (case k41 => k_is)
    (case a42 => k_is)
    (case l42 => k_is)
    (case c42 => k_is)
    (case k42 => k_is)
    (case a43 => k_is)
    (case l43 => k_is)
    (case c43 => k_is)
    (case k43 => k_is)
    (case a44 => k_is)
    (case l44 => k_is)
    (case c44 => k_is)
    (case k44 => k_is)
    (case a45 => k_is)
    (case l45 => k_is)
    (case c45 => k_is)
    (case k45 => k_is)
    (case a46 => k_is)
    (case l46 => k_is)
    (case c46 => k_is)
    (case k46 => k_is)
    (case z_ValueError => k_is)
    (case z_all => k_is)
    (case z_int => k_is)
    (case z_isinstance => k_is)
    (case z_len => k_is)
    (case z_list => k_is)
    (case z_max => k_is)
    (case z_min => k_is)
    (case z_range => k_is)
    (case z_reversed => k_is)
    (case z_sorted => k_is)
    (case z_tuple => k_is)
    (case pg => k_is)
    (case hd => k_is)
    (case po => k_is)
    (case sa => k_is)
    (case n_width => k_is)
    (case n_high => k_is)
    (case n_limit => k_is)
    (case n_many => k_is)
    (case n_least => k_is)
    (case n_nexts => k_is)
    (case n_gaps => k_is)
    (case mk => k_is)
    (case kc => k_is)
    (case x1BadSize => k_is)
    (case x2BadSize => k_exc)
    (case x3BadSize => k_is)
    (case x4BadSize => k_is)
    (case x5BadSize => k_is)
    (case x6BadSize => k_is)
    (case x1LadderError => k_is)
    (case x2LadderError => k_exc)
    (case x3LadderError => k_is)
    (case x4LadderError => k_is)
    (case x5LadderError => k_is)
    (case x6LadderError => k_is)
    (case x1Missing => k_is)
    (case x2Missing => k_exc)
    (case x3Missing => k_is)
    (case x4Missing => k_is)
    (case x5Missing => k_is)
    (case x6Missing => k_is)
    (case x1NoLevel => k_is)
    (case x2NoLevel => k_exc)
    (case x3NoLevel => k_is)
    (case x4NoLevel => k_is)
    (case x5NoLevel => k_is)
    (case x6NoLevel => k_is)
    (case x1NoPlace => k_is)
    (case x2NoPlace => k_exc)
    (case x3NoPlace => k_is)
    (case x4NoPlace => k_is)
    (case x5NoPlace => k_is)
    (case x6NoPlace => k_is)
    (case x1OtherSize => k_is)
    (case x2OtherSize => k_exc)
    (case x3OtherSize => k_is)
    (case x4OtherSize => k_is)
    (case x5OtherSize => k_is)
    (case x6OtherSize => k_is)
    (case x1OutOfRange => k_is)
    (case x2OutOfRange => k_exc)
    (case x3OutOfRange => k_is)
    (case x4OutOfRange => k_is)
    (case x5OutOfRange => k_is)
    (case x6OutOfRange => k_is)
    (case x1Present => k_is)
    (case x2Present => k_exc)
    (case x3Present => k_is)
    (case x4Present => k_is)
    (case x5Present => k_is)
    (case x6Present => k_is)
    (case qe_BadSize_LadderError => first | rfl | k_is)
    (case qe_BadSize_Missing => first | rfl | k_is)
    (case qe_BadSize_NoPlace => first | rfl | k_is)
    (case qe_BadSize_OtherSize => first | rfl | k_is)
    (case qe_BadSize_OutOfRange => first | rfl | k_is)
    (case qe_BadSize_Present => first | rfl | k_is)
    (case qe_Missing_LadderError => first | rfl | k_is)
    (case qe_Missing_Missing => first | rfl | k_is)
    (case qe_Missing_NoPlace => first | rfl | k_is)
    (case qe_Missing_OtherSize => first | rfl | k_is)
    (case qe_Missing_OutOfRange => first | rfl | k_is)
    (case qe_Missing_Present => first | rfl | k_is)
    (case qe_NoLevel_LadderError => first | rfl | k_is)
    (case qe_NoLevel_Missing => first | rfl | k_is)
    (case qe_NoLevel_NoPlace => first | rfl | k_is)
    (case qe_NoLevel_OtherSize => first | rfl | k_is)
    (case qe_NoLevel_OutOfRange => first | rfl | k_is)
    (case qe_NoLevel_Present => first | rfl | k_is)
    (case qe_NoPlace_LadderError => first | rfl | k_is)
    (case qe_NoPlace_Missing => first | rfl | k_is)
    (case qe_NoPlace_NoPlace => first | rfl | k_is)
    (case qe_NoPlace_OtherSize => first | rfl | k_is)
    (case qe_NoPlace_OutOfRange => first | rfl | k_is)
    (case qe_NoPlace_Present => first | rfl | k_is)
    (case qe_OtherSize_LadderError => first | rfl | k_is)
    (case qe_OtherSize_Missing => first | rfl | k_is)
    (case qe_OtherSize_NoPlace => first | rfl | k_is)
    (case qe_OtherSize_OtherSize => first | rfl | k_is)
    (case qe_OtherSize_OutOfRange => first | rfl | k_is)
    (case qe_OtherSize_Present => first | rfl | k_is)
    (case qe_OutOfRange_LadderError => first | rfl | k_is)
    (case qe_OutOfRange_Missing => first | rfl | k_is)
    (case qe_OutOfRange_NoPlace => first | rfl | k_is)
    (case qe_OutOfRange_OtherSize => first | rfl | k_is)
    (case qe_OutOfRange_OutOfRange => first | rfl | k_is)
    (case qe_OutOfRange_Present => first | rfl | k_is)
    (case qe_Present_LadderError => first | rfl | k_is)
    (case qe_Present_Missing => first | rfl | k_is)
    (case qe_Present_NoPlace => first | rfl | k_is)
    (case qe_Present_OtherSize => first | rfl | k_is)
    (case qe_Present_OutOfRange => first | rfl | k_is)
    (case qe_Present_Present => first | rfl | k_is)
    (case qi_BadSize_LadderError => first | rfl | k_is)
    (case qi_BadSize_ValueError => first | rfl | k_is)
    (case qi_Missing_LadderError => first | rfl | k_is)
    (case qi_Missing_ValueError => first | rfl | k_is)
    (case qi_NoLevel_LadderError => first | rfl | k_is)
    (case qi_NoLevel_ValueError => first | rfl | k_is)
    (case qi_NoPlace_LadderError => first | rfl | k_is)
    (case qi_NoPlace_ValueError => first | rfl | k_is)
    (case qi_OtherSize_LadderError => first | rfl | k_is)
    (case qi_OtherSize_ValueError => first | rfl | k_is)
    (case qi_OutOfRange_LadderError => first | rfl | k_is)
    (case qi_OutOfRange_ValueError => first | rfl | k_is)
    (case qi_Present_LadderError => first | rfl | k_is)
    (case qi_Present_ValueError => first | rfl | k_is)
    (case y1BadSize => k_is)
    (case y2BadSize => k_is)
    (case y3BadSize => k_is)
    (case y4BadSize => k_is)
    (case y5BadSize => k_is)
    (case y6BadSize => k_is)
    (case y1Missing => k_is)
    (case y2Missing => k_is)
    (case y3Missing => k_is)
    (case y4Missing => k_is)
    (case y5Missing => k_is)
    (case y6Missing => k_is)
    (case y1NoLevel => k_is)
    (case y2NoLevel => k_is)
    (case y3NoLevel => k_is)
    (case y4NoLevel => k_is)
    (case y5NoLevel => k_is)
    (case y6NoLevel => k_is)
    (case y1NoPlace => k_is)
    (case y2NoPlace => k_is)
    (case y3NoPlace => k_is)
    (case y4NoPlace => k_is)
    (case y5NoPlace => k_is)
    (case y6NoPlace => k_is)
    (case y1OtherSize => k_is)
    (case y2OtherSize => k_is)
    (case y3OtherSize => k_is)
    (case y4OtherSize => k_is)
    (case y5OtherSize => k_is)
    (case y6OtherSize => k_is)
    (case y1OutOfRange => k_is)
    (case y2OutOfRange => k_is)
    (case y3OutOfRange => k_is)
    (case y4OutOfRange => k_is)
    (case y5OutOfRange => k_is)
    (case y6OutOfRange => k_is)
    (case y1Present => k_is)
    (case y2Present => k_is)
    (case y3Present => k_is)
    (case y4Present => k_is)
    (case y5Present => k_is)
    (case y6Present => k_is)
#print axioms PySem.Challenge.cw_skipladder_k14_whole_parts_holds

