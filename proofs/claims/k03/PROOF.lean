import PyProof.Rows.All
import Wide.All
import OpenK.AllK
import Wide.FinOn
import HandS.ForMost
import HandS.Exc
import HandS.TryOnly
import HandS.TryMany
import HandS.ExcOwn
import HandS.WordsExc
import HandS.ExcIs
import HandS.IsInst
import HandS.Wide
import HandS.More
import HandS.Conv
import HandS.SortInts
import HandS.Style
import PySem.Challenge.RW_skipladder_k03_tall
set_option Elab.async false
set_option linter.all false
set_option maxRecDepth 100000
set_option maxHeartbeats 4000000
namespace Sk
abbrev Srt (S : List Int) : Prop := S.Pairwise (fun a b => a < b)

theorem find_srt {p : Int → Bool} : ∀ {S : List Int}, Srt S → ∀ y, (S.find? p = some y ↔ y ∈ S ∧ p y = true ∧ ∀ z ∈ S, p z = true → y ≤ z)
  | [], _, y => by simp
  | a :: r, h, y => by
    have h1 := (List.pairwise_cons.mp h).1
    have ih := find_srt (p := p) (List.pairwise_cons.mp h).2 y
    rw [List.find?_cons]
    cases e : p a with
    | true =>
      simp only [Option.some.injEq]
      constructor
      · rintro rfl
        exact ⟨List.mem_cons_self, e, fun z hz _ => by
          rcases List.mem_cons.mp hz with rfl | hz
          · exact Int.le_refl _
          · exact Int.le_of_lt (h1 z hz)⟩
      · rintro ⟨hy, hp, hl⟩
        rcases List.mem_cons.mp hy with rfl | hy
        · rfl
        · have := h1 y hy
          have := hl a List.mem_cons_self e
          omega
    | false =>
      simp only [ih]
      constructor
      · rintro ⟨hy, hp, hl⟩
        exact ⟨List.mem_cons_of_mem _ hy, hp, fun z hz hpz => by
          rcases List.mem_cons.mp hz with rfl | hz
          · rw [e] at hpz; cases hpz
          · exact hl z hz hpz⟩
      · rintro ⟨hy, hp, hl⟩
        rcases List.mem_cons.mp hy with rfl | hy
        · rw [e] at hp; cases hp
        · exact ⟨hy, hp, fun z hz => hl z (List.mem_cons_of_mem _ hz)⟩
theorem find_non {p : Int → Bool} {S : List Int} : S.find? p = none ↔ ∀ z ∈ S, p z = false := by
  rw [List.find?_eq_none]
  constructor
  · intro h z hz
    exact Bool.eq_false_iff.mpr (h z hz)
  · intro h z hz
    exact Bool.eq_false_iff.mp (h z hz)
theorem last_srt : ∀ {S : List Int}, Srt S → ∀ y, (S.getLast? = some y ↔ y ∈ S ∧ ∀ z ∈ S, z ≤ y)
  | [], _, y => by simp
  | [a], _, y => by simp; grind
  | a :: b :: r, h, y => by
    have h1 := (List.pairwise_cons.mp h).1
    have ih := last_srt (List.pairwise_cons.mp h).2 y
    rw [List.getLast?_cons_cons, ih]
    constructor
    · rintro ⟨hy, hl⟩
      refine ⟨List.mem_cons_of_mem _ hy, fun z hz => ?_⟩
      rcases List.mem_cons.mp hz with rfl | hz
      · exact Int.le_of_lt (h1 y hy)
      · exact hl z hz
    · rintro ⟨hy, hl⟩
      rcases List.mem_cons.mp hy with rfl | hy
      · have := h1 b List.mem_cons_self
        have := hl b (List.mem_cons_of_mem _ List.mem_cons_self)
        omega
      · exact ⟨hy, fun z hz => hl z (List.mem_cons_of_mem _ hz)⟩
theorem srt_filter {S : List Int} (h : Srt S) (p : Int → Bool) : Srt (S.filter p) := List.Pairwise.filter p h
theorem srt_nodup {S : List Int} (h : Srt S) : S.Nodup := List.Pairwise.imp (fun h => Int.ne_of_lt h) h
/-- two rising lists of the same members are one -/
theorem srt_ext : ∀ {A B : List Int}, Srt A → Srt B → (∀ x, x ∈ A ↔ x ∈ B) → A = B
  | [], [], _, _, _ => rfl
  | [], b :: s, _, _, h => by have := (h b).mpr List.mem_cons_self; simp at this
  | a :: r, [], _, _, h => by have := (h a).mp List.mem_cons_self; simp at this
  | a :: r, b :: s, ha, hb, h => by
    have a1 := (List.pairwise_cons.mp ha).1
    have b1 := (List.pairwise_cons.mp hb).1
    have e : a = b := by
      have x1 := (h a).mp List.mem_cons_self
      have x2 := (h b).mpr List.mem_cons_self
      rcases List.mem_cons.mp x1 with q | q
      · exact q
      · rcases List.mem_cons.mp x2 with q2 | q2
        · exact q2.symm
        · have := b1 a q; have := a1 b q2; omega
    subst e
    refine congrArg (a :: ·) (srt_ext (List.pairwise_cons.mp ha).2 (List.pairwise_cons.mp hb).2 fun x => ?_)
    have hx := h x
    constructor
    · intro hm
      rcases List.mem_cons.mp (hx.mp (List.mem_cons_of_mem _ hm)) with q | q
      · have := a1 x hm; omega
      · exact q
    · intro hm
      rcases List.mem_cons.mp (hx.mpr (List.mem_cons_of_mem _ hm)) with q | q
      · have := b1 x hm; omega
      · exact q

/-! ### what is told of a row S, by blocks of c numbers each -/
def St (c : Int) (S : List Int) (k : Int) : Prop := k ∈ S ∧ ∀ z ∈ S, z < k → z / c ≠ k / c
instance {c : Int} {S : List Int} {k : Int} : Decidable (St c S k) := by unfold St; exact inferInstance
def lv (c : Int) (S : List Int) : List Int := S.filter fun k => decide (St c S k)
def nx (c : Int) (S : List Int) (k : Int) : Option Int := S.find? fun z => decide (k / c < z / c)
def gp (c : Int) (S : List Int) (k : Int) : Nat := S.countP fun z => decide (z / c = k / c)
def rk (S : List Int) (n : Int) : Nat := S.countP fun z => decide (z < n)
def bel (S : List Int) (n : Int) : Option Int := (S.filter fun z => decide (z < n)).getLast?
def abv (S : List Int) (n : Int) : Option Int := S.find? fun z => decide (n < z)
def hd (c : Int) (S : List Int) (k : Int) : Option Int := S.find? fun z => decide (z / c = k / c)
def ins (S : List Int) (n : Int) : List Int := (S.filter fun z => decide (z < n)) ++ n :: (S.filter fun z => decide (n < z))
def del (S : List Int) (n : Int) : List Int := S.filter fun z => decide (z ≠ n)

theorem nx_some {c : Int} {S : List Int} (h : Srt S) {k y : Int} : nx c S k = some y ↔ y ∈ S ∧ k / c < y / c ∧ ∀ z ∈ S, k / c < z / c → y ≤ z := by
  unfold nx; rw [find_srt h]; simp
theorem nx_none {c : Int} {S : List Int} {k : Int} : nx c S k = none ↔ ∀ z ∈ S, z / c ≤ k / c := by
  unfold nx; rw [find_non]; simp
theorem abv_some {S : List Int} (h : Srt S) {k y : Int} : abv S k = some y ↔ y ∈ S ∧ k < y ∧ ∀ z ∈ S, k < z → y ≤ z := by
  unfold abv; rw [find_srt h]; simp
theorem abv_none {S : List Int} {k : Int} : abv S k = none ↔ ∀ z ∈ S, z ≤ k := by
  unfold abv; rw [find_non]; simp
theorem hd_some {c : Int} {S : List Int} (h : Srt S) {k y : Int} : hd c S k = some y ↔ y ∈ S ∧ y / c = k / c ∧ ∀ z ∈ S, z / c = k / c → y ≤ z := by
  unfold hd; rw [find_srt h]; simp
theorem hd_none {c : Int} {S : List Int} {k : Int} : hd c S k = none ↔ ∀ z ∈ S, ¬ z / c = k / c := by
  unfold hd; rw [find_non]; simp
theorem bel_some {S : List Int} (h : Srt S) {k y : Int} : bel S k = some y ↔ y ∈ S ∧ y < k ∧ ∀ z ∈ S, z < k → z ≤ y := by
  unfold bel; rw [last_srt (srt_filter h _)]; simp; grind
theorem bel_none {S : List Int} {k : Int} : bel S k = none ↔ ∀ z ∈ S, k ≤ z := by
  unfold bel; rw [List.getLast?_eq_none_iff, List.filter_eq_nil_iff]; simp
theorem mem_ins {S : List Int} {n z : Int} : z ∈ ins S n ↔ z = n ∨ z ∈ S := by
  unfold ins; simp only [List.mem_append, List.mem_filter, List.mem_cons, decide_eq_true_eq]
  constructor
  · rintro (h | h | h)
    · exact .inr h.1
    · exact .inl h
    · exact .inr h.1
  · rintro (h | h)
    · exact .inr (.inl h)
    · rcases Int.lt_trichotomy z n with q | q | q
      · exact .inl ⟨h, q⟩
      · exact .inr (.inl q)
      · exact .inr (.inr ⟨h, q⟩)
theorem mem_del {S : List Int} {n z : Int} : z ∈ del S n ↔ z ∈ S ∧ z ≠ n := by unfold del; simp
theorem srt_ins {S : List Int} (h : Srt S) (n : Int) : Srt (ins S n) := by
  unfold ins
  refine List.pairwise_append.mpr ⟨srt_filter h _, List.pairwise_cons.mpr ⟨fun z hz => ?_, srt_filter h _⟩, fun a ha b hb => ?_⟩
  · exact of_decide_eq_true (List.mem_filter.mp hz).2
  · have h1 : a < n := of_decide_eq_true (List.mem_filter.mp ha).2
    rcases List.mem_cons.mp hb with rfl | hb
    · exact h1
    · have h2 : n < b := of_decide_eq_true (List.mem_filter.mp hb).2
      omega
theorem srt_del {S : List Int} (h : Srt S) (n : Int) : Srt (del S n) := srt_filter h _
/-- counting in a row with one more -/
theorem count_ins {S : List Int} (h : Srt S) {n : Int} (hn : n ∉ S) (p : Int → Bool) : (ins S n).countP p = S.countP p + (if p n = true then 1 else 0) := by
  have key : ∀ {S : List Int}, n ∉ S → (S.filter fun z => decide (z < n)).countP p + (S.filter fun z => decide (n < z)).countP p = S.countP p := by
    intro S
    induction S with
    | nil => intro _; rfl
    | cons a r ih =>
      intro hn
      have hr := ih fun m => hn (List.mem_cons_of_mem _ m)
      have ha : a ≠ n := fun e => hn (e ▸ List.mem_cons_self)
      rw [List.filter_cons, List.filter_cons, List.countP_cons]
      by_cases q : a < n
      · have q2 : ¬ n < a := by omega
        simp only [q, q2, decide_true, decide_false, if_true, Bool.false_eq_true, if_false, List.countP_cons]
        omega
      · have q2 : n < a := by omega
        simp only [q, q2, decide_true, decide_false, if_true, Bool.false_eq_true, if_false, List.countP_cons]
        omega
  unfold ins
  rw [List.countP_append, List.countP_cons, ← key hn]
  omega
theorem ins_del {S : List Int} (h : Srt S) {n : Int} (hn : n ∈ S) : ins (del S n) n = S := srt_ext (srt_ins (srt_del h n) n) h fun x => by
  rw [mem_ins, mem_del]
  constructor
  · rintro (rfl | h)
    · exact hn
    · exact h.1
  · intro hx
    by_cases e : x = n
    · exact .inl e
    · exact .inr ⟨hx, e⟩
theorem del_ins {S : List Int} (h : Srt S) {n : Int} (hn : n ∉ S) : del (ins S n) n = S := srt_ext (srt_del (srt_ins h n) n) h fun x => by
  rw [mem_del, mem_ins]
  constructor
  · rintro ⟨h | h, e⟩
    · exact absurd h e
    · exact h
  · intro hx
    exact ⟨.inr hx, fun e => hn (e ▸ hx)⟩
theorem len_ins {S : List Int} (h : Srt S) {n : Int} (hn : n ∉ S) : (ins S n).length = S.length + 1 := by
  have q := count_ins h hn fun _ => true
  simp only [if_true, List.countP_true] at q
  exact q
theorem len_del {S : List Int} (h : Srt S) {n : Int} (hn : n ∈ S) : (del S n).length + 1 = S.length := by
  have q := len_ins (srt_del h n) (n := n) (fun m => (mem_del.mp m).2 rfl)
  rw [ins_del h hn] at q
  omega
/-- a count in two parts -/
theorem count_two {S : List Int} {p q r : Int → Bool} (h : ∀ z ∈ S, p z = (q z || r z)) (d : ∀ z ∈ S, q z = true → r z = false) : S.countP p = S.countP q + S.countP r := by
  induction S with
  | nil => rfl
  | cons a s ih =>
    have ih := ih (fun z hz => h z (List.mem_cons_of_mem _ hz)) fun z hz => d z (List.mem_cons_of_mem _ hz)
    rw [List.countP_cons, List.countP_cons, List.countP_cons, ih]
    have h1 := h a List.mem_cons_self
    have d1 := d a List.mem_cons_self
    cases e1 : q a <;> cases e2 : r a <;> rw [e1, e2] at h1 <;> simp_all <;> omega
theorem count_le {S : List Int} {p q : Int → Bool} (h : ∀ z ∈ S, p z = true → q z = true) : S.countP p ≤ S.countP q := by
  exact List.countP_mono_left h
theorem count_same {S : List Int} {p q : Int → Bool} (h : ∀ z ∈ S, p z = q z) : S.countP p = S.countP q := by
  exact List.countP_congr fun z hz => by rw [h z hz]
theorem div_le {a b c : Int} (hc : 0 < c) (h : a ≤ b) : a / c ≤ b / c := Int.ediv_le_ediv hc h
theorem lt_of_div {a b c : Int} (hc : 0 < c) (h : a / c < b / c) : a < b := by
  rcases Int.lt_or_le a b with q | q
  · exact q
  · have := div_le hc q; omega
end Sk

namespace Sk
def nA (c : Int) (S : List Int) (k : Int) : Option (Option Int) := if St c S k then some (nx c S k) else none
def gA (c : Int) (S : List Int) (k : Int) : Option Int := if St c S k then some (gp c S k : Int) else none
def bf (c : Int) (S : List Int) (n : Int) : Option Int := (bel S n).bind (hd c S)
theorem lt_or {a b : Int} (h : a ≠ b) : a < b ∨ b < a := Int.lt_or_gt_of_ne h

theorem bf_some {c : Int} {S : List Int} (hc : 0 < c) (h : Srt S) {n b : Int} : bf c S n = some b ↔ St c S b ∧ b < n ∧ ∀ y, St c S y → y < n → y ≤ b := by
  unfold bf
  rw [Option.bind_eq_some_iff]
  constructor
  · rintro ⟨z, hz, hb⟩
    obtain ⟨z1, z2, z3⟩ := (bel_some h).mp hz
    obtain ⟨b1, b2, b3⟩ := (hd_some h).mp hb
    have bz := b3 z z1 rfl
    refine ⟨⟨b1, fun y hy hlt e => ?_⟩, by omega, fun y hy hlt => ?_⟩
    · have := b3 y hy (by omega); omega
    · have q1 := z3 y hy.1 hlt
      rcases Int.lt_or_le b y with q | q
      · have d1 := div_le hc (Int.le_of_lt q)
        have d2 := div_le hc q1
        exact absurd (by omega) (hy.2 b b1 q)
      · exact q
  · rintro ⟨hb, hlt, hm⟩
    cases e : bel S n with
    | none => have := bel_none.mp e b hb.1; omega
    | some z =>
      obtain ⟨z1, z2, z3⟩ := (bel_some h).mp e
      refine ⟨z, rfl, ?_⟩
      cases e2 : hd c S z with
      | none => exact absurd rfl (hd_none.mp e2 z z1)
      | some x =>
        obtain ⟨x1, x2, x3⟩ := (hd_some h).mp e2
        have xz := x3 z z1 rfl
        have hx : St c S x := ⟨x1, fun y hy hl e => by have := x3 y hy (by omega); omega⟩
        have q1 := hm x hx (by omega)
        have q2 := z3 b hb.1 hlt
        have d1 := div_le hc q1
        have d2 := div_le hc q2
        have q3 := x3 b hb.1 (by omega)
        rcases Int.lt_or_le x b with q | q
        · exact absurd (by omega) (hb.2 x x1 q)
        · exact congrArg some (by omega)
theorem bf_none {c : Int} {S : List Int} {n : Int} : bf c S n = none ↔ bel S n = none := by
  unfold bf
  rw [Option.bind_eq_none_iff]
  constructor
  · intro hh
    cases e : bel S n with
    | none => rfl
    | some z =>
      have hz : z ∈ S := (List.mem_filter.mp (List.mem_of_getLast? e)).1
      exact absurd rfl (hd_none.mp (hh z e) z hz)
  · intro e z hz
    rw [e] at hz; cases hz

theorem st_nx {c : Int} {S : List Int} (hc : 0 < c) (h : Srt S) {k y : Int} (e : nx c S k = some y) : St c S y := by
  obtain ⟨y1, y2, y3⟩ := (nx_some h).mp e
  exact ⟨y1, fun z hz hl q => by have := y3 z hz (by omega); omega⟩
theorem nx_lt {c : Int} {S : List Int} (hc : 0 < c) (h : Srt S) {k y : Int} (e : nx c S k = some y) : k < y := lt_of_div hc ((nx_some h).mp e).2.1
theorem rk_nx {c : Int} {S : List Int} (hc : 0 < c) (h : Srt S) {k y : Int} (hk : St c S k) (e : nx c S k = some y) : rk S y = rk S k + gp c S k := by
  obtain ⟨y1, y2, y3⟩ := (nx_some h).mp e
  have ky := lt_of_div hc y2
  refine count_two (fun z hz => ?_) fun z hz q => ?_
  · rw [← Bool.decide_or, decide_eq_decide]
    constructor
    · intro q
      rcases Int.lt_or_le z k with q2 | q2
      · exact .inl q2
      · have d1 := div_le hc q2
        rcases Int.lt_or_le (k / c) (z / c) with q3 | q3
        · have := y3 z hz q3; omega
        · exact .inr (by omega)
    · rintro (q | q)
      · omega
      · rcases Int.lt_or_le z y with q2 | q2
        · exact q2
        · have := div_le hc q2; omega
  · have q' : z < k := of_decide_eq_true q
    exact decide_eq_false (hk.2 z hz q')
/-- the gap of the last one: all from it on -/
theorem rk_end {c : Int} {S : List Int} (hc : 0 < c) (h : Srt S) {k : Int} (hk : St c S k) (e : nx c S k = none) : S.length = rk S k + gp c S k := by
  have e' := nx_none.mp e
  have e0 : S.countP (fun _ => true) = S.length := congrFun List.countP_true S
  rw [← e0]
  refine count_two (fun z hz => ?_) fun z hz q => ?_
  · rw [← Bool.decide_or]
    refine (decide_eq_true ?_).symm
    rcases Int.lt_or_le z k with q2 | q2
    · exact .inl q2
    · have d1 := div_le hc q2
      have := e' z hz
      exact .inr (by omega)
  · have q' : z < k := of_decide_eq_true q
    exact decide_eq_false (hk.2 z hz q')
theorem bf_of {c : Int} {S : List Int} (hc : 0 < c) (h : Srt S) {k n : Int} (hk : St c S k) (hl : k < n) (hn : ∀ y, nx c S k = some y → n ≤ y) : bf c S n = some k := by
  refine (bf_some hc h).mpr ⟨hk, hl, fun y hy hyl => ?_⟩
  rcases Int.lt_or_le k y with q | q
  · have d1 := div_le hc (Int.le_of_lt q)
    have q2 : k / c < y / c := by have := hy.2 k hk.1 q; omega
    cases e : nx c S k with
    | none => have := nx_none.mp e y hy.1; omega
    | some z =>
      have := hn z e
      have := ((nx_some h).mp e).2.2 y hy.1 q2
      omega
  · exact q
theorem div_mul {a c d : Int} (hc : 0 < c) : a / (c * d) = a / c / d := (Int.ediv_ediv_of_nonneg (Int.le_of_lt hc)).symm
theorem st_down {c d : Int} {S : List Int} (hc : 0 < c) {k : Int} (h : St (c * d) S k) : St c S k := ⟨h.1, fun z hz hl e => h.2 z hz hl (by rw [div_mul hc, div_mul hc, e])⟩
theorem st_least {c : Int} {S : List Int} (h : Srt S) {a : Int} (e : S.head? = some a) : St c S a := by
  cases S with
  | nil => cases e
  | cons b r =>
    have e' : b = a := Option.some.inj e
    subst e'
    refine ⟨List.mem_cons_self, fun z hz hl => ?_⟩
    rcases List.mem_cons.mp hz with rfl | hz
    · omega
    · have := (List.pairwise_cons.mp h).1 z hz; omega
theorem head_le {S : List Int} (h : Srt S) {a : Int} (e : S.head? = some a) : ∀ z ∈ S, a ≤ z := by
  cases S with
  | nil => cases e
  | cons b r =>
    have e' : b = a := Option.some.inj e
    subst e'
    intro z hz
    rcases List.mem_cons.mp hz with rfl | hz
    · exact Int.le_refl _
    · exact Int.le_of_lt ((List.pairwise_cons.mp h).1 z hz)
theorem head_mem {S : List Int} {a : Int} (e : S.head? = some a) : a ∈ S := List.mem_of_head? e
theorem rk_least {S : List Int} (h : Srt S) {a : Int} (e : S.head? = some a) : rk S a = 0 := by
  unfold rk
  rw [List.countP_eq_zero]
  intro z hz
  have := head_le h e z hz
  simp; omega

/-! ### one more number -/
section
variable {c : Int} {S : List Int} {n : Int} (hc : 0 < c) (h : Srt S) (hn : n ∉ S)
include hc h hn
theorem st_ins_n : St c (ins S n) n ↔ ∀ z, bel S n = some z → z / c ≠ n / c := by
  constructor
  · intro q z hz
    obtain ⟨z1, z2, z3⟩ := (bel_some h).mp hz
    exact q.2 z (mem_ins.mpr (.inr z1)) z2
  · intro q
    refine ⟨mem_ins.mpr (.inl rfl), fun z hz hl e => ?_⟩
    rcases mem_ins.mp hz with rfl | hz
    · omega
    · cases eb : bel S n with
      | none => have := bel_none.mp eb z hz; omega
      | some y =>
        obtain ⟨y1, y2, y3⟩ := (bel_some h).mp eb
        have := y3 z hz hl
        have d1 := div_le hc this
        have d2 := div_le hc (Int.le_of_lt y2)
        exact q y eb (by omega)
theorem st_ins_k {k : Int} (hk : k ≠ n) : St c (ins S n) k ↔ St c S k ∧ ¬ (n < k ∧ n / c = k / c) := by
  unfold St
  simp only [mem_ins]
  constructor
  · rintro ⟨h1, h2⟩
    exact ⟨⟨h1.resolve_left hk, fun z hz => h2 z (.inr hz)⟩, fun q => h2 n (.inl rfl) q.1 q.2⟩
  · rintro ⟨⟨h1, h2⟩, h3⟩
    refine ⟨.inr h1, fun z hz hl e => ?_⟩
    rcases hz with rfl | hz
    · exact h3 ⟨hl, e⟩
    · exact h2 z hz hl e
theorem gp_ins {k : Int} : gp c (ins S n) k = gp c S k + (if n / c = k / c then 1 else 0) := by
  unfold gp
  rw [count_ins h hn]
  simp
/-- the next one behind k, once n is there -/
theorem nx_ins_lt {k : Int} (q : k / c < n / c) : nx c (ins S n) k = match nx c S k with | some y => if n < y then some n else some y | none => some n := by
  have h' := srt_ins h n
  cases e : nx c S k with
  | none =>
    have e' := nx_none.mp e
    refine (nx_some h').mpr ⟨mem_ins.mpr (.inl rfl), q, fun z hz hl => ?_⟩
    rcases mem_ins.mp hz with rfl | hz
    · exact Int.le_refl _
    · have := e' z hz; omega
  | some y =>
    obtain ⟨y1, y2, y3⟩ := (nx_some h).mp e
    by_cases q2 : n < y
    · simp only [q2, if_true]
      refine (nx_some h').mpr ⟨mem_ins.mpr (.inl rfl), q, fun z hz hl => ?_⟩
      rcases mem_ins.mp hz with rfl | hz
      · exact Int.le_refl _
      · have := y3 z hz hl; omega
    · simp only [q2, if_false]
      refine (nx_some h').mpr ⟨mem_ins.mpr (.inr y1), y2, fun z hz hl => ?_⟩
      rcases mem_ins.mp hz with rfl | hz
      · omega
      · exact y3 z hz hl
theorem nx_ins_ge {k : Int} (q : ¬ k / c < n / c) : nx c (ins S n) k = nx c S k := by
  have h' := srt_ins h n
  cases e : nx c S k with
  | none =>
    have e' := nx_none.mp e
    refine nx_none.mpr fun z hz => ?_
    rcases mem_ins.mp hz with rfl | hz
    · omega
    · exact e' z hz
  | some y =>
    obtain ⟨y1, y2, y3⟩ := (nx_some h).mp e
    refine (nx_some h').mpr ⟨mem_ins.mpr (.inr y1), y2, fun z hz hl => ?_⟩
    rcases mem_ins.mp hz with rfl | hz
    · omega
    · exact y3 z hz hl
theorem nx_n {k : Int} : nx c (ins S n) n = nx c S n := nx_ins_ge hc h hn (Int.lt_irrefl _)
omit hc h hn in
theorem nx_blk {k j : Int} (e : k / c = j / c) : nx c S k = nx c S j := by unfold nx; rw [e]
omit hc h hn in
theorem gp_blk {k j : Int} (e : k / c = j / c) : gp c S k = gp c S j := by unfold gp; rw [e]
/-- n does not stand: it joins the block of b -/
theorem put_stay {b : Int} (hb : bf c S n = some b) (hs : ¬ St c (ins S n) n) : (∀ k, nA c (ins S n) k = nA c S k) ∧ (∀ k, gA c (ins S n) k = if k = b then some ((gp c S b : Int) + 1) else gA c S k) ∧ St c S b := by
  obtain ⟨b1, b2, b3⟩ := (bf_some hc h).mp hb
  have hbn : b / c = n / c := by
    have hex : ∃ z, bel S n = some z ∧ z / c = n / c := by
      cases e : bel S n with
      | none => exact absurd ((st_ins_n hc h hn).mpr fun z hz => by rw [e] at hz; cases hz) hs
      | some z =>
        refine ⟨z, rfl, ?_⟩
        rcases Decidable.em (z / c = n / c) with q | q
        · exact q
        · exact absurd ((st_ins_n hc h hn).mpr fun y hy => by rw [e] at hy; cases hy; exact q) hs
    obtain ⟨z, hz, hzn⟩ := hex
    unfold bf at hb
    rw [hz] at hb
    have := ((hd_some h).mp (show hd c S z = some b from hb)).2.1
    omega
  have stn : ¬ St c S n := fun q => hn q.1
  refine ⟨fun k => ?_, fun k => ?_, b1⟩
  · unfold nA
    by_cases e : k = n
    · subst e; rw [if_neg hs, if_neg stn]
    · have hk := st_ins_k hc h hn e
      by_cases s : St c S k
      · have nn : ¬ (n < k ∧ n / c = k / c) := fun q => s.2 b b1.1 (by omega) (by omega)
        rw [if_pos s, if_pos (hk.mpr ⟨s, nn⟩)]
        by_cases q : k / c < n / c
        · rw [nx_ins_lt hc h hn q]
          cases e2 : nx c S k with
          | none => have := nx_none.mp e2 b b1.1; omega
          | some y =>
            have := ((nx_some h).mp e2).2.2 b b1.1 (by omega)
            have q2 : ¬ n < y := by omega
            simp only [q2, if_false]
        · rw [nx_ins_ge hc h hn q]
      · rw [if_neg s, if_neg fun q => s (hk.mp q).1]
  · unfold gA
    by_cases e : k = n
    · subst e; rw [if_neg hs, if_neg stn, if_neg (by omega)]
    · have hk := st_ins_k hc h hn e
      by_cases e2 : k = b
      · subst e2
        rw [if_pos (hk.mpr ⟨b1, by omega⟩), if_pos rfl, gp_ins hc h hn, if_pos hbn.symm]
        rfl
      · rw [if_neg e2]
        by_cases s : St c S k
        · have nn : ¬ (n < k ∧ n / c = k / c) := fun q => s.2 b b1.1 (by omega) (by omega)
          have ne : ¬ n / c = k / c := fun q => by
            rcases lt_or e2 with q2 | q2
            · exact b1.2 k s.1 q2 (by omega)
            · exact s.2 b b1.1 q2 (by omega)
          rw [if_pos s, if_pos (hk.mpr ⟨s, nn⟩), gp_ins hc h hn, if_neg ne]
          rfl
        · rw [if_neg s, if_neg fun q => s (hk.mp q).1]
/-- n comes and stands for a, the next one in its block -/
theorem put_old {a : Int} (hs : St c (ins S n) n) (ha : abv S n = some a) (e : a / c = n / c) :
    St c S a ∧ (∀ k, nA c (ins S n) k = if bf c S n = some k then some (some n) else if k = n then some (nx c S a) else if k = a then none else nA c S k) ∧
    (∀ k, gA c (ins S n) k = if k = n then some ((gp c S a : Int) + 1) else if k = a then none else gA c S k) ∧ (∀ b, bf c S n = some b → nA c S b = some (some a)) := by
  obtain ⟨a1, a2, a3⟩ := (abv_some h).mp ha
  have sa : St c S a := by
    refine ⟨a1, fun z hz hl q => ?_⟩
    have zn : z ≠ n := fun q => hn (q ▸ hz)
    rcases lt_or zn with q2 | q2
    · exact hs.2 z (mem_ins.mpr (.inr hz)) q2 (by omega)
    · have := a3 z hz q2; omega
  have bfb : ∀ b, bf c S n = some b → b / c < n / c ∧ nx c S b = some a := fun b hb => by
    obtain ⟨b1, b2, b3⟩ := (bf_some hc h).mp hb
    have d := div_le hc (Int.le_of_lt b2)
    have ne := hs.2 b (mem_ins.mpr (.inr b1.1)) b2
    refine ⟨by omega, (nx_some h).mpr ⟨a1, by omega, fun z hz hl => ?_⟩⟩
    have zn : z ≠ n := fun q => hn (q ▸ hz)
    rcases lt_or zn with q2 | q2
    · have := lt_of_div hc hl
      -- z in (b, n): its head stands and is below n
      cases eh : hd c S z with
      | none => exact absurd rfl (hd_none.mp eh z hz)
      | some x =>
        obtain ⟨x1, x2, x3⟩ := (hd_some h).mp eh
        have xz := x3 z hz rfl
        have sx : St c S x := ⟨x1, fun y hy hl e => by have := x3 y hy (by omega); omega⟩
        have := b3 x sx (by omega)
        have := div_le hc this
        omega
    · exact a3 z hz q2
  refine ⟨sa, fun k => ?_, fun k => ?_, fun b hb => ?_⟩
  · unfold nA
    by_cases hb : bf c S n = some k
    · rw [if_pos hb]
      obtain ⟨q1, q2⟩ := bfb k hb
      obtain ⟨b1, b2, b3⟩ := (bf_some hc h).mp hb
      rw [if_pos ((st_ins_k hc h hn (by omega)).mpr ⟨b1, by omega⟩), nx_ins_lt hc h hn q1, q2]
      simp only [a2, if_true]
    · rw [if_neg hb]
      by_cases e1 : k = n
      · subst e1
        rw [if_pos hs, if_pos rfl, nx_n hc h hn (k := k), nx_blk e.symm]
      · rw [if_neg e1]
        have hk := st_ins_k hc h hn e1
        by_cases e2 : k = a
        · subst e2
          rw [if_pos rfl, if_neg fun q => (hk.mp q).2 ⟨a2, e.symm⟩]
        · rw [if_neg e2]
          by_cases s : St c S k
          · have nn : ¬ (n / c = k / c) := fun q => by
              rcases lt_or e2 with q2 | q2
              · exact sa.2 k s.1 q2 (by omega)
              · exact s.2 a a1 q2 (by omega)
            rw [if_pos s, if_pos (hk.mpr ⟨s, fun q => nn q.2⟩)]
            by_cases q : k / c < n / c
            · rw [nx_ins_lt hc h hn q]
              cases e3 : nx c S k with
              | none => have := nx_none.mp e3 a a1; omega
              | some y =>
                by_cases q2 : n < y
                · exfalso
                  refine hb (bf_of hc h s (lt_of_div hc q) fun z hz => ?_)
                  rw [e3] at hz; cases hz; omega
                · simp only [q2, if_false]
            · rw [nx_ins_ge hc h hn q]
          · rw [if_neg s, if_neg fun q => s (hk.mp q).1]
  · unfold gA
    by_cases e1 : k = n
    · subst e1
      rw [if_pos hs, if_pos rfl, gp_ins hc h hn, if_pos rfl, gp_blk e.symm]
      rfl
    · rw [if_neg e1]
      have hk := st_ins_k hc h hn e1
      by_cases e2 : k = a
      · subst e2
        rw [if_pos rfl, if_neg fun q => (hk.mp q).2 ⟨a2, e.symm⟩]
      · rw [if_neg e2]
        by_cases s : St c S k
        · have nn : ¬ (n / c = k / c) := fun q => by
            rcases lt_or e2 with q2 | q2
            · exact sa.2 k s.1 q2 (by omega)
            · exact s.2 a a1 q2 (by omega)
          rw [if_pos s, if_pos (hk.mpr ⟨s, fun q => nn q.2⟩), gp_ins hc h hn, if_neg nn]
          rfl
        · rw [if_neg s, if_neg fun q => s (hk.mp q).1]
  · unfold nA
    rw [if_pos ((bf_some hc h).mp hb).1, (bfb b hb).2]
/-- n comes as a block of its own -/
theorem put_new (hs : St c (ins S n) n) (ha : ∀ a, abv S n = some a → a / c ≠ n / c) :
    (∀ k, nA c (ins S n) k = if bf c S n = some k then some (some n) else if k = n then some (match bf c S n with | some b => nx c S b | none => S.head?) else nA c S k) ∧
    (∀ k, gA c (ins S n) k = if k = n then some 1 else gA c S k) ∧ (∀ b, bf c S n = some b → St c S b ∧ (gp c S b : Int) = (rk S n : Int) - rk S b) := by
  have alone : ∀ z ∈ S, z / c ≠ n / c := fun z hz q => by
    have zn : z ≠ n := fun q => hn (q ▸ hz)
    rcases lt_or zn with q2 | q2
    · exact hs.2 z (mem_ins.mpr (.inr hz)) q2 q
    · cases e : abv S n with
      | none => have := abv_none.mp e z hz; omega
      | some a =>
        obtain ⟨a1, a2, a3⟩ := (abv_some h).mp e
        have := a3 z hz q2
        have d1 := div_le hc this
        have d2 := div_le hc (Int.le_of_lt a2)
        exact ha a e (by omega)
  have bfb : ∀ b, bf c S n = some b → b / c < n / c ∧ ∀ z ∈ S, b / c < z / c → n < z := fun b hb => by
    obtain ⟨b1, b2, b3⟩ := (bf_some hc h).mp hb
    have d := div_le hc (Int.le_of_lt b2)
    have ne := hs.2 b (mem_ins.mpr (.inr b1.1)) b2
    refine ⟨by omega, fun z hz hl => ?_⟩
    have zn : z ≠ n := fun q => hn (q ▸ hz)
    rcases lt_or zn with q2 | q2
    · cases eh : hd c S z with
      | none => exact absurd rfl (hd_none.mp eh z hz)
      | some x =>
        obtain ⟨x1, x2, x3⟩ := (hd_some h).mp eh
        have xz := x3 z hz rfl
        have sx : St c S x := ⟨x1, fun y hy hl e => by have := x3 y hy (by omega); omega⟩
        have := b3 x sx (by omega)
        have := div_le hc this
        omega
    · exact q2
  have g0 : gp c S n = 0 := by
    unfold gp
    rw [List.countP_eq_zero]
    intro z hz
    simp only [decide_eq_true_eq]
    exact alone z hz
  refine ⟨fun k => ?_, fun k => ?_, fun b hb => ?_⟩
  · unfold nA
    by_cases hb : bf c S n = some k
    · rw [if_pos hb]
      obtain ⟨q1, q2⟩ := bfb k hb
      obtain ⟨b1, b2, b3⟩ := (bf_some hc h).mp hb
      rw [if_pos ((st_ins_k hc h hn (by omega)).mpr ⟨b1, by omega⟩), nx_ins_lt hc h hn q1]
      cases e3 : nx c S k with
      | none => rfl
      | some y =>
        obtain ⟨y1, y2, y3⟩ := (nx_some h).mp e3
        have := q2 y y1 y2
        simp only [this, if_true]
    · rw [if_neg hb]
      by_cases e1 : k = n
      · subst e1
        rw [if_pos hs, if_pos rfl, nx_n hc h hn (k := k)]
        refine congrArg some ?_
        cases eb : bf c S k with
        | none =>
          have e0 := bel_none.mp (bf_none.mp eb)
          show nx c S k = S.head?
          cases e5 : S.head? with
          | none =>
            have : S = [] := List.head?_eq_none_iff.mp e5
            subst this
            rfl
          | some a =>
            refine (nx_some h).mpr ⟨head_mem e5, ?_, fun z hz _ => head_le h e5 z hz⟩
            have d := div_le hc (e0 a (head_mem e5))
            have := alone a (head_mem e5)
            omega
        | some b =>
          obtain ⟨q1, q2⟩ := bfb b eb
          show nx c S k = nx c S b
          cases e5 : nx c S b with
          | none =>
            have e6 := nx_none.mp e5
            refine nx_none.mpr fun z hz => ?_
            have := e6 z hz
            omega
          | some y =>
            obtain ⟨y1, y2, y3⟩ := (nx_some h).mp e5
            have l := q2 y y1 y2
            have d := div_le hc (Int.le_of_lt l)
            have := alone y y1
            exact (nx_some h).mpr ⟨y1, by omega, fun z hz hl => y3 z hz (by omega)⟩
      · rw [if_neg e1]
        have hk := st_ins_k hc h hn e1
        by_cases s : St c S k
        · have nn := alone k s.1
          rw [if_pos s, if_pos (hk.mpr ⟨s, fun q => nn q.2.symm⟩)]
          by_cases q : k / c < n / c
          · rw [nx_ins_lt hc h hn q]
            cases e3 : nx c S k with
            | none =>
              exfalso
              refine hb (bf_of hc h s (lt_of_div hc q) fun z hz => ?_)
              rw [e3] at hz; cases hz
            | some y =>
              by_cases q2 : n < y
              · exfalso
                refine hb (bf_of hc h s (lt_of_div hc q) fun z hz => ?_)
                rw [e3] at hz; cases hz; omega
              · simp only [q2, if_false]
          · rw [nx_ins_ge hc h hn q]
        · rw [if_neg s, if_neg fun q => s (hk.mp q).1]
  · unfold gA
    by_cases e1 : k = n
    · subst e1
      rw [if_pos hs, if_pos rfl, gp_ins hc h hn, if_pos rfl, g0]
      rfl
    · rw [if_neg e1]
      have hk := st_ins_k hc h hn e1
      by_cases s : St c S k
      · have nn := alone k s.1
        rw [if_pos s, if_pos (hk.mpr ⟨s, fun q => nn q.2.symm⟩), gp_ins hc h hn, if_neg fun q => nn q.symm]
        rfl
      · rw [if_neg s, if_neg fun q => s (hk.mp q).1]
  · obtain ⟨q1, q2⟩ := bfb b hb
    obtain ⟨b1, b2, b3⟩ := (bf_some hc h).mp hb
    refine ⟨b1, ?_⟩
    have e : rk S n = rk S b + gp c S b := by
      refine count_two (fun z hz => ?_) fun z hz q => ?_
      · rw [← Bool.decide_or, decide_eq_decide]
        constructor
        · intro q
          rcases Int.lt_or_le z b with q3 | q3
          · exact .inl q3
          · have d1 := div_le hc q3
            rcases Int.lt_or_le (b / c) (z / c) with q4 | q4
            · have := q2 z hz q4; omega
            · exact .inr (by omega)
        · rintro (q | q)
          · omega
          · rcases Int.lt_or_le z n with q4 | q4
            · exact q4
            · have := div_le hc q4; omega
      · have q' : z < b := of_decide_eq_true q
        exact decide_eq_false (b1.2 z hz q')
    omega
/-- what lies below n is the same -/
theorem bel_ins : bel (ins S n) n = bel S n := by
  have h' := srt_ins h n
  cases e : bel S n with
  | none =>
    refine bel_none.mpr fun z hz => ?_
    rcases mem_ins.mp hz with rfl | hz
    · exact Int.le_refl _
    · exact bel_none.mp e z hz
  | some y =>
    obtain ⟨y1, y2, y3⟩ := (bel_some h).mp e
    refine (bel_some h').mpr ⟨mem_ins.mpr (.inr y1), y2, fun z hz hl => ?_⟩
    rcases mem_ins.mp hz with rfl | hz
    · omega
    · exact y3 z hz hl
theorem abv_ins : abv (ins S n) n = abv S n := by
  have h' := srt_ins h n
  cases e : abv S n with
  | none =>
    refine abv_none.mpr fun z hz => ?_
    rcases mem_ins.mp hz with rfl | hz
    · exact Int.le_refl _
    · exact abv_none.mp e z hz
  | some y =>
    obtain ⟨y1, y2, y3⟩ := (abv_some h).mp e
    refine (abv_some h').mpr ⟨mem_ins.mpr (.inr y1), y2, fun z hz hl => ?_⟩
    rcases mem_ins.mp hz with rfl | hz
    · omega
    · exact y3 z hz hl
theorem bf_ins : bf c (ins S n) n = bf c S n := by
  have h' := srt_ins h n
  cases e : bf c S n with
  | none => exact bf_none.mpr ((bel_ins hc h hn).trans (bf_none.mp e))
  | some b =>
    obtain ⟨b1, b2, b3⟩ := (bf_some hc h).mp e
    refine (bf_some hc h').mpr ⟨(st_ins_k hc h hn (by omega)).mpr ⟨b1, by omega⟩, b2, fun y hy hl => ?_⟩
    exact b3 y ((st_ins_k hc h hn (by omega)).mp hy).1 hl
end
end Sk

namespace Sk
/-- a row that grows at its end -/
theorem lv_snoc {c : Int} {A : List Int} {x : Int} (hc : 0 < c) (h : Srt (A ++ [x])) : lv c (A ++ [x]) = lv c A ++ (if (∀ y, A.getLast? = some y → y / c ≠ x / c) then [x] else []) := by
  have hA := (List.pairwise_append.mp h).1
  have hx : ∀ a ∈ A, a < x := fun a ha => (List.pairwise_append.mp h).2.2 a ha x (List.mem_singleton.mpr rfl)
  unfold lv
  rw [List.filter_append]
  have e1 : A.filter (fun k => decide (St c (A ++ [x]) k)) = A.filter fun k => decide (St c A k) := by
    refine List.filter_congr fun k hk => ?_
    rw [decide_eq_decide]
    have := hx k hk
    constructor
    · rintro ⟨_, q⟩
      exact ⟨hk, fun z hz hl => q z (List.mem_append_left _ hz) hl⟩
    · rintro ⟨_, q⟩
      refine ⟨List.mem_append_left _ hk, fun z hz hl => ?_⟩
      rcases List.mem_append.mp hz with hz | hz
      · exact q z hz hl
      · have := List.mem_singleton.mp hz; omega
  rw [e1]
  refine congrArg (fun z => List.filter (fun k => decide (St c A k)) A ++ z) ?_
  have e2 : St c (A ++ [x]) x ↔ ∀ y, A.getLast? = some y → y / c ≠ x / c := by
    constructor
    · rintro ⟨_, q⟩ y hy
      have hy' := List.mem_of_getLast? hy
      exact q y (List.mem_append_left _ hy') (hx y hy')
    · intro q
      refine ⟨List.mem_append_right _ (List.mem_singleton.mpr rfl), fun z hz hl e => ?_⟩
      rcases List.mem_append.mp hz with hz | hz
      · cases e3 : A.getLast? with
        | none => rw [List.getLast?_eq_none_iff] at e3; subst e3; cases hz
        | some y =>
          obtain ⟨y1, y2⟩ := (last_srt hA y).mp e3
          have d1 := div_le hc (y2 z hz)
          have d2 := div_le hc (Int.le_of_lt (hx y y1))
          exact q y e3 (by omega)
      · have := List.mem_singleton.mp hz; omega
  rw [List.filter_cons, List.filter_nil]
  by_cases q : St c (A ++ [x]) x
  · rw [if_pos (decide_eq_true q), if_pos (e2.mp q)]
  · rw [if_neg (by simpa using q), if_neg fun z => q (e2.mpr z)]
theorem lv_nil (c : Int) : lv c [] = [] := rfl
theorem lv_len {c : Int} {S : List Int} : (lv c S).length ≤ S.length := List.length_filter_le _ _
theorem lv_mem {c : Int} {S : List Int} {k : Int} : k ∈ lv c S ↔ St c S k := by
  unfold lv
  rw [List.mem_filter, decide_eq_true_eq]
  exact ⟨fun h => h.2, fun h => ⟨h.1, h⟩⟩
theorem srt_lv {c : Int} {S : List Int} (h : Srt S) : Srt (lv c S) := srt_filter h _
theorem srt_take {S : List Int} (h : Srt S) (i : Nat) : Srt (S.take i) := List.Pairwise.sublist (List.take_sublist i S) h
theorem take_snoc {S : List Int} {i : Nat} {x : Int} (e : S[i]? = some x) : S.take (i + 1) = S.take i ++ [x] := by
  rw [List.take_add_one, e]
  rfl
theorem take_last {S : List Int} {i : Nat} (h : i < S.length) : (S.take (i + 1)).getLast? = S[i]? := by
  rw [List.getElem?_eq_getElem h, take_snoc (List.getElem?_eq_getElem h), List.getLast?_concat]
/-- one more of the row is looked at -/
theorem lv_take {c : Int} {S : List Int} (hc : 0 < c) (h : Srt S) {i : Nat} {x : Int} (e : S[i]? = some x) : lv c (S.take (i + 1)) = lv c (S.take i) ++ (if i = 0 ∨ (S.getD (i - 1) 0) / c ≠ x / c then [x] else []) := by
  have h' := srt_take h (i + 1)
  rw [take_snoc e] at h' ⊢
  rw [lv_snoc hc h']
  have e2 : (∀ y, (S.take i).getLast? = some y → y / c ≠ x / c) ↔ (i = 0 ∨ (S.getD (i - 1) 0) / c ≠ x / c) := by
    cases i with
    | zero => simp
    | succ j =>
      have hj : j < S.length := by have := (List.getElem?_eq_some_iff.mp e).1; omega
      rw [take_last hj, List.getElem?_eq_getElem hj, List.getD_eq_getElem?_getD, Nat.add_sub_cancel, List.getElem?_eq_getElem hj]
      simp
  by_cases q : ∀ y, (S.take i).getLast? = some y → y / c ≠ x / c
  · rw [if_pos q, if_pos (e2.mp q)]
  · rw [if_neg q, if_neg fun z => q (e2.mpr z)]
theorem get_lt {S : List Int} (h : Srt S) {i j : Nat} {x y : Int} (hi : S[i]? = some x) (hj : S[j]? = some y) (l : i < j) : x < y := by
  obtain ⟨h1, rfl⟩ := List.getElem?_eq_some_iff.mp hi
  obtain ⟨h2, rfl⟩ := List.getElem?_eq_some_iff.mp hj
  exact (List.pairwise_iff_getElem.mp h) i j h1 h2 l
theorem srt_snoc {A : List Int} {x : Int} (h : Srt A) (hx : ∀ a ∈ A, a < x) : Srt (A ++ [x]) := List.pairwise_append.mpr ⟨h, List.pairwise_singleton _ _, fun a ha b hb => by rw [List.mem_singleton.mp hb]; exact hx a ha⟩
end Sk

/-! ### own rules and the steps by which a reading is gone through -/
namespace Lk
open PySem PySem.Spec PyProof.Rows L2
/-- a def of the text that keeps its promise, however its arguments are bound -/
def FO (P : Program) (w : World) (K : PySem.W.Frag) (mg : Str → Option Value) (base : Heap) (k : Nat) (f : Addr) (ps : List Str) (sp : Sp) : Prop :=
  ∃ fd, FnOk P w K mg base (L2.CX P w) k f fd ps sp ∧ Binds K fd ps []
section
variable {P : Program} {w : World} {K : PySem.W.Frag} {mg : Str → Option Value} {base : Heap}
theorem FO.mk' {x qual : Str} {st : Stmt} {f : Addr} {N ps : List Str} {k : Nat} {sp : Sp} (F : ∃ fd, Fun K x qual st f fd) (S : FnScope N ps (defScope st))
    (hb : ∀ fd, Fun K x qual st f fd → Binds K fd ps [])
    (len : ∀ vs H Q E, sp vs H Q E → vs.length = ps.length)
    (body : ∀ (cdv : Value) (A : Around) (outer : List Env) (s : Shared) (H : Hp) (vs : List V) (Q : VK) (E : XK), Room k (A.deeper (envOfC qual (defScope st) s.heap.objs.size f cdv)) → sp vs H Q E →
      ∃ t, PSs (cxOf (L2.CX P w) P w K mg base N qual (defScope st) f cdv A outer s H E) (defBody st) t ∧ t { nx := fun _ H' => Q .non H', rt := Q } (start N vs) H) :
    FO P w K mg base (k + 1) f ps sp := by
  obtain ⟨fd, F⟩ := F
  exact ⟨fd, F.okX S len body, hb fd F⟩
theorem FO.imp {f : Addr} {ps : List Str} {k : Nat} {sp sp' : Sp} (F : FO P w K mg base k f ps sp) (h : ∀ vs H Q E, sp' vs H Q E → sp vs H Q E) : FO P w K mg base k f ps sp' := by
  obtain ⟨fd, F, b⟩ := F
  exact ⟨fd, F.imp h, b⟩
end
/-! operators, each by a name of its own -/
def nAdd : R2 := rI0 fun i j => .int (i + j)
def nSub : R2 := rI0 fun i j => .int (i - j)
def nMul : R2 := rI CMul fun i j => .int (i * j)
def nMod : R2 := rI (fun _ j => 0 < j) fun i j => .int (i % j)
def nDiv : R2 := rI (fun _ j => 0 < j ∧ j < 2 ^ 64) fun i j => .int (i / j)
def nPow : R2 := rI CPow fun i j => .int (i ^ j.toNat)
def nLt : R2 := rI0 fun i j => .bl (decide (i < j))
def nLe : R2 := rI0 fun i j => .bl (decide (i ≤ j))
def nGt : R2 := rI0 fun i j => .bl (decide (j < i))
def nGe : R2 := rI0 fun i j => .bl (decide (j ≤ i))
def nIsN : R2 := fun x y H Q => y = .non ∧ Q (.bl (decide (x = .non))) H
def nNotN : R2 := fun x y H Q => y = .non ∧ Q (.bl (!decide (x = .non))) H
section
variable {X : Cx}
theorem o_add : OpR X (binaryOp .Add) nAdd := op_add
theorem o_sub : OpR X (binaryOp .Sub) nSub := op_sub
theorem o_mul : OpR X (binaryOp .Mult) nMul := op_mul
theorem o_mod : OpR X (binaryOp .Mod) nMod := op_mod
theorem o_pow : OpR X (binaryOp .Pow) nPow := op_pow
theorem o_div : OpR X (binaryOp .FloorDiv) nDiv := by
  intro pins s σ H x y v u Q I rx ry h
  obtain ⟨i, j, e1, e2, ⟨h1, h2⟩, q⟩ := h
  exact op_fdivW pins s σ H x y v u Q I rx ry ⟨i, j, e1, e2, wide_div (b := 64) h1 (by omega) (by decide) (by decide), q⟩
theorem o_lt : OpR X (compareOp .Lt) nLt := op_lt
theorem o_le : OpR X (compareOp .LtE) nLe := op_le
theorem o_gt : OpR X (compareOp .Gt) nGt := op_gt
theorem o_ge : OpR X (compareOp .GtE) nGe := op_ge
theorem o_isN : OpR X (compareOp .Is) nIsN := op_isN
theorem o_notN : OpR X (compareOp .IsNot) nNotN := op_notN
end
/-- an if whose ways meet again: what is known there is said by a word of one's own -/
def tSeqC (t u : TS) : TS := tSeq t u
theorem pss_consC {X : Cx} {st : Stmt} {sts : List Stmt} {t u : TS} (h1 : PS X st t) (h2 : PSs X sts u) : PSs X (st :: sts) (tSeqC t u) := pss_cons h1 h2
theorem g_seqC {t u : TS} {D : Ends} {σ : L2.St} {H : Hp} (h : t { D with nx := u D } σ H) : tSeqC t u D σ H := h
theorem g_cut {t u : TS} {D : Ends} {σ : L2.St} {H : Hp} (I : L2.St → Hp → Prop) (h1 : ∀ N : L2.St → Hp → Prop, (∀ σ' H', I σ' H' → N σ' H') → t { D with nx := N } σ H) (h2 : ∀ σ' H', I σ' H' → u D σ' H') : tSeqC t u D σ H := h1 _ h2
/-! fields, one step each -/
def dFld (K : PySem.W.Frag) (f : Str) : V → Hp → VK → Prop := fun x H1 Q => ∃ a C dx fs v, x = .ref a ∧ H1 a = some (.ins C dx fs) ∧ Cls K C ∧ NoAttr K C f ∧ fs.lookup f = some v ∧ Q v H1
def dBl (x : V) (H : Hp) (R : Bool → Hp → Prop) : Prop := ∃ k, x = .bl k ∧ R k H
def dNewL (xs : List V) (H1 : Hp) (Q : VK) : Prop := xs.length ≤ sizeLine ∧ ∀ p, H1 p = none → Q (.ref p) (upd H1 p (.lst xs))
def dNewT (xs : List V) (H1 : Hp) (Q : VK) : Prop := xs.length ≤ sizeLine ∧ ∀ p, H1 p = none → Q (.ref p) (upd H1 p (.tup xs))
def dRng (vs : List V) (H1 : Hp) (R : It → Hp → Prop) : Prop := ∃ j : Int, vs = [.int j] ∧ -(2 ^ 62) ≤ j ∧ j < 2 ^ 62 ∧ R (Itr 0 j.toNat) H1
def dGet : V → V → Hp → VK → Prop := fun x y H2 Q => ∃ a v, x = .ref a ∧ DGet H2 a y (some v) ∧ Q v H2
def dIn : V → V → Hp → VK → Prop := fun y x H2 Q => ∃ a o, x = .ref a ∧ DGet H2 a y o ∧ Q (.bl o.isSome) H2
def dNotIn : V → V → Hp → VK → Prop := fun y x H2 Q => ∃ a o, x = .ref a ∧ DGet H2 a y o ∧ Q (.bl (!o.isSome)) H2
section
variable {K : PySem.W.Frag} {σ : L2.St} {H : Hp} {Q : VK} {D : Ends} {v x y : V} {i j : Int} {n : Nat} {ta tb te tc : TE} {t u : TS} {c c2 : TT} {tA tr : TA} {b : Bool}
theorem g_seq (h : t { D with nx := u D } σ H) : tSeq t u D σ H := h
theorem g_pr1 {a b c : L2.St → Hp → Prop} {r : VK} (h : a σ H) : Ends.nx { nx := a, rt := r, bk := b, ct := c } σ H := h
theorem g_pr2 {a b c : L2.St → Hp → Prop} {r : VK} (h : r v H) : Ends.rt { nx := a, rt := r, bk := b, ct := c } v H := h
theorem g_next (h : D.nx σ H) : tNext D σ H := h
theorem g_set (h : te σ H fun x H1 => D.nx (σ.set n (some x)) H1) : tAsg te (gName n) D σ H := h
theorem g_ret (h : te σ H D.rt) : tRet te D σ H := h
theorem g_retN (h : D.rt .non H) : tRetN D σ H := h
theorem g_drop (h : te σ H fun _ H1 => D.nx σ H1) : tDrop te D σ H := h
theorem g_if (h : c σ H fun b H1 => if b = true then t D σ H1 else u D σ H1) : tIfS c t u D σ H := h
theorem g_var (e : σ[n]? = some (some v)) (h : Q v H) : tVar n σ H Q := ⟨v, e, h⟩
theorem g_c (h : Q v H) : tC v σ H Q := h
theorem g_op {r : R2} (h : ta σ H fun x H1 => tb σ H1 fun y H2 => r x y H2 Q) : tOp r ta tb σ H Q := h
theorem g_un {r : V → Hp → VK → Prop} (h : ta σ H fun x H1 => r x H1 Q) : tUn r ta σ H Q := h
theorem g_neg (h : Q (.int (-i)) H) : rU (fun i => .int (-i)) (.int i) H Q := ⟨i, rfl, h⟩
theorem g_test {R : Bool → Hp → Prop} (h : te σ H fun x H' => dBl x H' R) : tTest te σ H R := h
theorem g_tB {R : Bool → Hp → Prop} (h : te σ H fun x H' => dBl x H' R) : tB te σ H R := h
theorem g_bl {R : Bool → Hp → Prop} (h : R b H) : dBl (.bl b) H R := ⟨b, rfl, h⟩
theorem g_not {R : Bool → Hp → Prop} (h : c σ H fun k H1 => R (!k) H1) : tNot c σ H R := h
theorem g_and {R : Bool → Hp → Prop} (h : c σ H fun k H1 => if k = true then c2 σ H1 R else R false H1) : tAnd c c2 σ H R := h
theorem g_or {R : Bool → Hp → Prop} (h : c σ H fun k H1 => if k = true then R true H1 else c2 σ H1 R) : tOr c c2 σ H R := h
theorem g_andV (h : ta σ H fun x H1 => dBl x H1 fun k H1 => if k = true then tb σ H1 Q else Q (.bl false) H1) : tAndV ta tb σ H Q := h
theorem g_orV (h : ta σ H fun x H1 => dBl x H1 fun k H1 => if k = true then Q (.bl true) H1 else tb σ H1 Q) : tOrV ta tb σ H Q := h
theorem g_notV (h : ta σ H fun x H1 => dBl x H1 fun k H1 => Q (.bl (!k)) H1) : tNotV ta σ H Q := h
theorem g_ifE (h : c σ H fun k H1 => if k = true then ta σ H1 Q else tb σ H1 Q) : tIf c ta tb σ H Q := h
theorem g_add (h : Q (.int (i + j)) H) : nAdd (.int i) (.int j) H Q := ⟨i, j, rfl, rfl, h⟩
theorem g_sub (h : Q (.int (i - j)) H) : nSub (.int i) (.int j) H Q := ⟨i, j, rfl, rfl, h⟩
theorem g_mul (k : CMul i j) (h : Q (.int (i * j)) H) : nMul (.int i) (.int j) H Q := ⟨i, j, rfl, rfl, k, h⟩
theorem g_mod (k : 0 < j) (h : Q (.int (i % j)) H) : nMod (.int i) (.int j) H Q := ⟨i, j, rfl, rfl, k, h⟩
theorem g_div (k : 0 < j ∧ j < 2 ^ 64) (h : Q (.int (i / j)) H) : nDiv (.int i) (.int j) H Q := ⟨i, j, rfl, rfl, k, h⟩
theorem g_pow (k : CPow i j) (h : Q (.int (i ^ j.toNat)) H) : nPow (.int i) (.int j) H Q := ⟨i, j, rfl, rfl, k, h⟩
theorem g_lt (h : Q (.bl (decide (i < j))) H) : nLt (.int i) (.int j) H Q := ⟨i, j, rfl, rfl, h⟩
theorem g_le (h : Q (.bl (decide (i ≤ j))) H) : nLe (.int i) (.int j) H Q := ⟨i, j, rfl, rfl, h⟩
theorem g_gt (h : Q (.bl (decide (j < i))) H) : nGt (.int i) (.int j) H Q := ⟨i, j, rfl, rfl, h⟩
theorem g_ge (h : Q (.bl (decide (j ≤ i))) H) : nGe (.int i) (.int j) H Q := ⟨i, j, rfl, rfl, h⟩
theorem g_eqI (h : Q (.bl (decide (i = j))) H) : rEq (.int i) (.int j) H Q := ⟨rfl, by
  rw [show decide (V.int i = V.int j) = decide (i = j) by simp]
  exact h⟩
theorem g_neI (h : Q (.bl (!decide (i = j))) H) : rNe (.int i) (.int j) H Q := ⟨rfl, by
  rw [show decide (V.int i = V.int j) = decide (i = j) by simp]
  exact h⟩
theorem g_neB {a b : Bool} (h : Q (.bl (!decide (a = b))) H) : rNe (.bl a) (.bl b) H Q := ⟨rfl, by
  rw [show decide (V.bl a = V.bl b) = decide (a = b) by simp]
  exact h⟩
theorem g_isN (h : Q (.bl (decide (x = .non))) H) : nIsN x .non H Q := ⟨rfl, h⟩
theorem g_notN (h : Q (.bl (!decide (x = .non))) H) : nNotN x .non H Q := ⟨rfl, h⟩
theorem g_fld0 {f : Str} (h : ta σ H fun x H1 => dFld K f x H1 Q) : tFld K ta f σ H Q := h
theorem g_fld {f : Str} {a C dx : Addr} {fs : List (Str × V)} (ho : H a = some (.ins C dx fs)) (hc : Cls K C) (hn : NoAttr K C f) (hl : fs.lookup f = some v) (h : Q v H) : dFld K f (.ref a) H Q := ⟨a, C, dx, fs, v, rfl, ho, hc, hn, hl, h⟩
theorem g_get0 (h : ta σ H fun x H1 => tb σ H1 fun y H2 => dGet x y H2 Q) : tDGet ta tb σ H Q := h
theorem g_get {a : Addr} {kvs : List (Key × V)} (ho : H a = some (.dK kvs)) (e : valV kvs (Sum.inl i) = some v) (h : Q v H) : dGet (.ref a) (.int i) H Q :=
  ⟨a, v, rfl, e ▸ DGet.k (k := Sum.inl i) ho, h⟩
theorem g_in0 (h : ta σ H fun y H1 => tb σ H1 fun x H2 => dIn y x H2 Q) : tDIn ta tb σ H Q := h
theorem g_in {a : Addr} {kvs : List (Key × V)} (ho : H a = some (.dK kvs)) (h : Q (.bl (valV kvs (Sum.inl i)).isSome) H) : dIn (.int i) (.ref a) H Q :=
  ⟨a, _, rfl, DGet.k (k := Sum.inl i) ho, h⟩
theorem g_nin0 (h : ta σ H fun y H1 => tb σ H1 fun x H2 => dNotIn y x H2 Q) : tDNotIn ta tb σ H Q := h
theorem g_nin {a : Addr} {kvs : List (Key × V)} (ho : H a = some (.dK kvs)) (h : Q (.bl (!(valV kvs (Sum.inl i)).isSome)) H) : dNotIn (.int i) (.ref a) H Q :=
  ⟨a, _, rfl, DGet.k (k := Sum.inl i) ho, h⟩
theorem g_nil {R : List V → Hp → Prop} (h : R [] H) : tNil σ H R := h
theorem g_cons {R : List V → Hp → Prop} (h : ta σ H fun x H1 => tr σ H1 fun xs H2 => R (x :: xs) H2) : tCons ta tr σ H R := h
theorem g_call {sp : Sp} {E : XK} (h : tA σ H fun vs H1 => sp vs H1 Q E) : tCall sp [] E tA σ H Q := by
  unfold tCall
  simpa using h
def dMeth (C : Addr) (m : Str) (sp : Sp) (E : XK) (σ : L2.St) (t : TA) : V → Hp → VK → Prop := fun x H1 Q => ∃ a dx fs, x = .ref a ∧ H1 a = some (.ins C dx fs) ∧ fs.lookup m = none ∧ t σ H1 fun vs H2 => sp (x :: vs) H2 Q E
theorem g_meth0 {C : Addr} {m : Str} {sp : Sp} {E : XK} (h : ta σ H fun x H1 => dMeth C m sp E σ tA x H1 Q) : tMeth C m sp [] E ta tA σ H Q := by
  unfold tMeth
  unfold dMeth at h
  simpa using h
theorem g_meth {C a dx : Addr} {fs : List (Str × V)} {m : Str} {sp : Sp} {E : XK} (ho : H a = some (.ins C dx fs)) (hl : fs.lookup m = none) (h : tA σ H fun vs H2 => sp (.ref a :: vs) H2 Q E) : dMeth C m sp E σ tA (.ref a) H Q :=
  ⟨a, dx, fs, rfl, ho, hl, h⟩
theorem g_callB {r : List V → Hp → VK → Prop} (h : tA σ H fun vs H1 => r vs H1 Q) : tCB r tA σ H Q := h
theorem g_tup0 (h : tA σ H fun xs H1 => dNewT xs H1 Q) : tTup tA σ H Q := h
theorem g_lst0 (h : tA σ H fun xs H1 => dNewL xs H1 Q) : tLst tA σ H Q := h
theorem g_for {wi : TI} {g : TG} (h : wi σ H fun J H1 => ∃ W : Nat → Nat → L2.St → Hp → Prop, (∃ m, W 0 m σ H1) ∧ ∀ i m σ H, W i m σ H →
  (J.stop i H ∧ D.nx σ H) ∨ (J.go i H ∧ ∃ N : L2.St → Hp → Prop, (∀ σ' H', N σ' H' → ∃ m', m' < m ∧ W (i + 1) m' σ' H') ∧ ∀ x H', J.yld i H x H' → g x σ H' fun σ2 H2 => t { D with nx := N, ct := N, bk := D.nx } σ2 H2)) : tFor wi g t D σ H := h
theorem g_rng1 {R : It → Hp → Prop} (h : tA σ H fun vs H1 => dRng vs H1 R) : iRng1 tA σ H R := h
theorem g_rng {R : It → Hp → Prop} (h1 : -(2 ^ 62) ≤ i) (h2 : i < 2 ^ 62) (h : R (Itr 0 i.toNat) H) : dRng [.int i] H R := ⟨i, rfl, h1, h2, h⟩
theorem g_name (f : L2.St → Hp → Prop) (h : f (σ.set n (some v)) H) : gName n v σ H f := h
theorem g_ite {A B : Prop} (h1 : b = true → A) (h2 : b = false → B) : if b = true then A else B := by
  cases b with
  | true => exact iteT (h1 rfl)
  | false => exact iteF (h2 rfl)
theorem g_tt {A B : Prop} (h : A) : if true = true then A else B := iteT h
theorem g_ff {A B : Prop} (h : B) : if false = true then A else B := iteF h
theorem g_iteT {A B : Prop} (e : b = true) (h : A) : if b = true then A else B := by rw [if_pos e]; exact h
theorem g_iteF {A B : Prop} (e : b = false) (h : B) : if b = true then A else B := by rw [if_neg (by rw [e]; exact Bool.false_ne_true)]; exact h
theorem g_body {W : Nat → L2.St → Hp → Prop} {m : Nat} (h : t { D with nx := fun σ' H' => ∃ m', m' < m ∧ W m' σ' H', ct := fun σ' H' => ∃ m', m' < m ∧ W m' σ' H', bk := D.nx } σ H) :
    ∃ N : L2.St → Hp → Prop, (∀ σ' H', N σ' H' → ∃ m', m' < m ∧ W m' σ' H') ∧ t { D with nx := N, ct := N, bk := D.nx } σ H := ⟨_, fun _ _ z => z, h⟩
theorem g_while (W : Nat → L2.St → Hp → Prop) (m : Nat) (h0 : W m σ H) (hs : ∀ m σ H, W m σ H → c σ H fun b H1 => if b = true then ∃ N : L2.St → Hp → Prop, (∀ σ' H', N σ' H' → ∃ m', m' < m ∧ W m' σ' H') ∧ t { D with nx := N, ct := N, bk := D.nx } σ H1 else D.nx σ H1) : tWhile c t D σ H := ⟨W, ⟨m, h0⟩, hs⟩
theorem g_ixL {p : Addr} {xs : List V} (hs : SqL K H p xs) (e : atI xs i = some v) (h : Q v H) : rIxL K (.ref p) (.int i) H Q := ⟨p, xs, i, v, rfl, rfl, hs, e, h⟩
theorem g_ixT {p : Addr} {xs : List V} (hs : SqT K H p xs) (e : atI xs i = some v) (h : Q v H) : rIxT K (.ref p) (.int i) H Q := ⟨p, xs, i, v, rfl, rfl, hs, e, h⟩
def nLen (K : PySem.W.Frag) : List V → Hp → VK → Prop := fun xs H Q => ∃ p ys, xs = [.ref p] ∧ (SqL K H p ys ∨ SqT K H p ys) ∧ Q (.int ys.length) H
theorem c_len {X : Cx} : CallR X (.builtin "len") (nLen X.K) := call_len_seq
theorem g_lenL {p : Addr} {xs : List V} (hs : SqL K H p xs) (h : Q (.int xs.length) H) : nLen K [.ref p] H Q := ⟨p, xs, rfl, .inl hs, h⟩
theorem g_lenT {p : Addr} {xs : List V} (hs : SqT K H p xs) (h : Q (.int xs.length) H) : nLen K [.ref p] H Q := ⟨p, xs, rfl, .inr hs, h⟩
def nLenD : List V → Hp → VK → Prop := fun xs H Q => ∃ a kvs, xs = [V.ref a] ∧ H a = some (.dK kvs) ∧ Q (.int kvs.length) H
theorem c_lenD {X : Cx} : CallR X (.builtin "len") nLenD := call_lenD
theorem g_lenD {p : Addr} {kvs : List (Key × V)} (hs : H p = some (.dK kvs)) (h : Q (.int kvs.length) H) : nLenD [.ref p] H Q := ⟨p, kvs, rfl, hs, h⟩
def nMax2 : List V → Hp → VK → Prop := fun xs H Q => ∃ i j, xs = [.int i, .int j] ∧ Q (.int (if j > i then j else i)) H
def nMin2 : List V → Hp → VK → Prop := fun xs H Q => ∃ i j, xs = [.int i, .int j] ∧ Q (.int (if j < i then j else i)) H
theorem c_max2 {X : Cx} (hc : X.calm = true) : CallR X (.builtin "max") nMax2 := call_max2 hc
theorem c_min2 {X : Cx} (hc : X.calm = true) : CallR X (.builtin "min") nMin2 := call_min2 hc
theorem g_max2 (h : Q (.int (max i j)) H) : nMax2 [.int i, .int j] H Q := ⟨i, j, rfl, by
  rw [show (if j > i then j else i) = max i j by rw [Int.max_def]; split <;> split <;> omega]
  exact h⟩
theorem g_min2 (h : Q (.int (min i j)) H) : nMin2 [.int i, .int j] H Q := ⟨i, j, rfl, by
  rw [show (if j < i then j else i) = min i j by rw [Int.min_def]; split <;> split <;> omega]
  exact h⟩
end
theorem g_isi {K : PySem.W.Frag} {H : Hp} {Q : VK} {x c : V} {t u : Value} {b : Bool} (ty : TyX K H x t) (cl : ClsV c u) (e : PySem.W.kitOne K t u = some b) (h : Q (.bl b) H) : rIsi K [x, c] H Q := ⟨x, c, t, u, b, rfl, cl, ty, e, h⟩
def dList (K : PySem.W.Frag) (x : V) (H1 : Hp) (R : It → Hp → Prop) : Prop := ∃ a, x = .ref a ∧ (∃ xs, SqL K H1 a xs) ∧ R (Itl K a) H1
theorem g_iL {K : PySem.W.Frag} {tl : TE} {σ : L2.St} {H : Hp} {R : It → Hp → Prop} (h : tl σ H fun x H1 => dList K x H1 R) : iList K tl σ H R := h
theorem g_lit {K : PySem.W.Frag} {H : Hp} {R : It → Hp → Prop} {a : Addr} {xs : List V} (hs : SqL K H a xs) (h : R (Itl K a) H) : dList K (.ref a) H R := ⟨a, rfl, ⟨_, hs⟩, h⟩
theorem map_get {α β : Type} {f : α → β} {l : List α} {i : Nat} {y : β} (h : (l.map f)[i]? = some y) : ∃ z, l[i]? = some z ∧ y = f z := by
  rw [List.getElem?_map, Option.map_eq_some_iff] at h
  obtain ⟨z, h1, h2⟩ := h
  exact ⟨z, h1, h2.symm⟩
theorem get_map {α β : Type} {f : α → β} {l : List α} {i : Nat} {z : α} (h : l[i]? = some z) : (l.map f)[i]? = some (f z) := by
  rw [List.getElem?_map, h] <;> rfl
def dAll (K : PySem.W.Frag) : List V → Hp → VK → Prop := fun vs H Q => ∃ (a : Addr) (bs : List Bool), vs = [V.ref a] ∧ SqL K H a (bs.map V.bl) ∧ Q (.bl (bs.all id)) H
theorem c_all {X : Cx} (hc : X.calm = true) : CallR X (.builtin "all") (dAll X.K) := cr_all hc
theorem g_all {K : PySem.W.Frag} {H : Hp} {Q : VK} {a : Addr} {bs : List Bool} (hs : SqL K H a (bs.map V.bl)) (e : bs.all id = true) (h : Q (.bl true) H) : dAll K [.ref a] H Q := ⟨a, bs, rfl, hs, by rw [e]; exact h⟩
def nListOf (K : PySem.W.Frag) : List V → Hp → VK → Prop := fun xs H Q => ∃ p ys, xs = [.ref p] ∧ (SqL K H p ys ∨ SqT K H p ys) ∧ ∀ l, H l = none → Q (.ref l) (upd H l (.lst ys))
theorem c_listOf {X : Cx} : CallR X (.type "list") (nListOf X.K) := call_list_of
/-- 1, w, w * w, .. -/
def sz (w : Int) (n : Nat) : List Int := (List.range (n + 1)).map fun j => w ^ j
theorem sz_zero (w : Int) : sz w 0 = [1] := by
  show [w ^ 0] = [1]
  rw [Int.pow_zero]
theorem sz_succ (w : Int) (n : Nat) : sz w (n + 1) = sz w n ++ [w ^ (n + 1)] := by
  unfold sz
  rw [List.range_succ, List.map_append]
  rfl
theorem sz_len (w : Int) (n : Nat) : (sz w n).length = n + 1 := by unfold sz; rw [List.length_map, List.length_range]
theorem sz_get {w : Int} {n j : Nat} (h : j ≤ n) : (sz w n)[j]? = some (w ^ j) := by
  unfold sz
  rw [List.getElem?_map, List.getElem?_range (by omega)]
  rfl
theorem sz_last {w : Int} {n : Nat} : atI ((sz w n).map V.int) (-1) = some (.int (w ^ n)) := by
  cases n with
  | zero => exact atI_last [] _
  | succ n =>
    rw [sz_succ, List.map_append]
    exact atI_last _ _
theorem sz_at {w : Int} {n j : Nat} (h : j ≤ n) : atI ((sz w n).map V.int) (j : Int) = some (.int (w ^ j)) := atI_nat (get_map (sz_get h))
def dLrg (x : V) (H1 : Hp) (Q : VK) : Prop := ∃ n, x = .int n ∧ RgOk 0 n ∧ ∀ q, H1 q = none → Q (.ref q) (upd H1 q (.lst (rgV 0 n)))
theorem g_lrg0 {ta : TE} {σ : L2.St} {H : Hp} {Q : VK} (h : ta σ H fun x H1 => dLrg x H1 Q) : tLstRg (tRg1 ta) σ H Q := h
theorem g_lrg {H : Hp} {Q : VK} {n : Nat} (hn : n ≤ 1000) (h : ∀ q, H q = none → Q (.ref q) (upd H q (.lst (((List.range n).map fun i => ((i : Nat) : Int)).map V.int)))) : dLrg (.int (n : Int)) H Q :=
  ⟨n, rfl, .of_le (by omega) (by omega) (by omega) (by omega), fun q hq => by
    have e : rgV 0 (n : Int) = ((List.range n).map fun i => ((i : Nat) : Int)).map V.int := by
      unfold rgV
      rw [List.map_map, show ((n : Int) - 0).toNat = n by omega]
      exact List.map_congr_left fun i _ => by show V.int (0 + (i : Int)) = _; rw [Int.zero_add]; rfl
    rw [e]
    exact h q hq⟩
/-! the rules, the written part told (within a comprehension it must be) -/
section
variable {X : Cx} {K : PySem.W.Frag} (e : X.K = K)
include e
theorem k_ixL : IxR X (rIxL K) := e ▸ ix_list
theorem k_ixT : IxR X (rIxT K) := e ▸ ix_tup
theorem k_len : CallR X (.builtin "len") (nLen K) := e ▸ c_len
theorem k_listOf : CallR X (.type "list") (nListOf K) := e ▸ c_listOf
theorem k_in : OpR X (compareOp .In) (rIn K false) := e ▸ op_in_seq
theorem k_nin : OpR X (compareOp .NotIn) (rIn K true) := e ▸ op_notIn_seq
theorem k_eqD (hu : X.A.units + 64 < cLine) : OpR X (compareOp .Eq) (rEqD K) := e ▸ op_eqD hu
theorem k_neD (hu : X.A.units + 64 < cLine) : OpR X (compareOp .NotEq) (rNeD K) := e ▸ op_neD hu
theorem k_isi : CallR X (.builtin "isinstance") (rIsi K) := e ▸ call_isi
theorem k_slL : SlR X (rSlL K) := e ▸ sl_list
theorem k_fld {o : Expr} {f : Str} {pos : Pos} {ta : TE} (he : PE X o ta) (hb : attributeBase o f X.env (eval o X.env) = eval o X.env) : PE X (.Attribute o f pos) (tFld K ta f) := e ▸ pe_fld he hb
theorem k_iL {tg l : Expr} {tl : TE} (hl : PE X l tl) : PI X tg l (iList K tl) := e ▸ pi_list hl
end
theorem pow_pos' {w : Int} (h : 0 < w) (n : Nat) : 0 < w ^ n := Int.pow_pos h
theorem atI_c0 {xs : List V} {v : V} (h : xs[0]? = some v) : atI xs 0 = some v := atI_nat (j := 0) h
theorem atI_c1 {xs : List V} {v : V} (h : xs[1]? = some v) : atI xs 1 = some v := atI_nat (j := 1) h
theorem atI_c2 {xs : List V} {v : V} (h : xs[2]? = some v) : atI xs 2 = some v := atI_nat (j := 2) h
/-- the cell at k of the script, or nought -/
def cellAt (ns : List Int) (k : Int) : Int := if k < 0 then 0 else ns.getD k.toNat 0
end Lk

/-! ### data: what == tells of lists and tuples -/
namespace Lk
open PySem PySem.Spec PyProof.Rows L2
structure Sh (k : Nat) (d : PyData) : Prop where
  lay : d.canLay0 = true
  dep : d.depth ≤ k
theorem sh_int {k : Nat} (i : Int) : Sh k (.int i) := ⟨by simp only [PyData.canLay0], by simp only [PyData.depth]; omega⟩
theorem sh_non {k : Nat} : Sh k .none := ⟨by simp only [PyData.canLay0], by simp only [PyData.depth]; omega⟩
theorem sh_bl {k : Nat} (b : Bool) : Sh k (.bool b) := ⟨by simp only [PyData.canLay0], by simp only [PyData.depth]; omega⟩
theorem lay_all : ∀ {ds : List PyData}, (∀ d ∈ ds, d.canLay0 = true) → PyData.canLayAll0 ds = true
  | [], _ => by simp only [PyData.canLayAll0]
  | d :: r, h => by
    have h1 := h d List.mem_cons_self
    have h2 := lay_all fun x hx => h x (List.mem_cons_of_mem _ hx)
    simp only [PyData.canLayAll0, h1, h2, Bool.and_self]
theorem dep_all {k : Nat} : ∀ {ds : List PyData}, (∀ d ∈ ds, d.depth ≤ k) → PyData.depthAll ds ≤ k
  | [], _ => by simp only [PyData.depthAll]; omega
  | d :: r, h => by
    have h1 := h d List.mem_cons_self
    have h2 := dep_all (ds := r) fun x hx => h x (List.mem_cons_of_mem _ hx)
    simp only [PyData.depthAll]
    omega
theorem sh_lst {k : Nat} {ds : List PyData} (h : ∀ d ∈ ds, Sh k d) : Sh (k + 1) (.list ds) := ⟨by simp only [PyData.canLay0]; exact lay_all fun d hd => (h d hd).lay, by
  have := dep_all fun d hd => (h d hd).dep
  simp only [PyData.depth]
  omega⟩
theorem sh_tup {k : Nat} {ds : List PyData} (h : ∀ d ∈ ds, Sh k d) : Sh (k + 1) (.tuple ds) := ⟨by simp only [PyData.canLay0]; exact lay_all fun d hd => (h d hd).lay, by
  have := dep_all fun d hd => (h d hd).dep
  simp only [PyData.depth]
  omega⟩
theorem sh_ints {k : Nat} (ns : List Int) : Sh (k + 1) (.list (ns.map .int)) := sh_lst fun d hd => by
  obtain ⟨i, _, rfl⟩ := List.mem_map.mp hd
  exact sh_int i
theorem Sh.ok {k : Nat} {d : PyData} (s : Sh k d) (h : k ≤ 64) : SeqAt.shaped d = true := by
  show (d.canLay0 && decide (d.depth ≤ 64)) = true
  rw [s.lay, decide_eq_true (Nat.le_trans s.dep h)]
  rfl
section
variable {K : PySem.W.Frag} {H H' : Hp} {Q : VK} {x y : V} {d : PyData} {k : Nat}
theorem g_eqD (hx : Dp K H x d) (hy : Dp K H y d) (s : Sh k d) (h : Q (.bl true) H) (hk : k ≤ 64 := by decide) : rEqD K x y H Q := ⟨d, d, hx, hy, s.ok hk, s.ok hk, by rw [SeqAt.eqv_refl d s.lay]; exact h⟩
theorem g_neD (hx : Dp K H x d) (hy : Dp K H y d) (s : Sh k d) (h : Q (.bl false) H) (hk : k ≤ 64 := by decide) : rNeD K x y H Q := ⟨d, d, hx, hy, s.ok hk, s.ok hk, by rw [SeqAt.eqv_refl d s.lay]; exact h⟩
theorem eqv_nil (ds : List PyData) : PyData.eqv (.list ds) (.list []) = ds.isEmpty := by
  cases ds <;> simp [PyData.eqv, PyData.eqvAll]
theorem g_eqNil {ds : List PyData} (hx : Dp K H x (.list ds)) (hy : Dp K H y (.list [])) (s : Sh k (.list ds)) (h : Q (.bl ds.isEmpty) H) (hk : k ≤ 64 := by decide) : rEqD K x y H Q :=
  ⟨_, _, hx, hy, s.ok hk, (sh_ints (k := 0) []).ok (by decide), by rw [eqv_nil]; exact h⟩
theorem g_neNil {ds : List PyData} (hx : Dp K H x (.list ds)) (hy : Dp K H y (.list [])) (s : Sh k (.list ds)) (h : Q (.bl (!ds.isEmpty)) H) (hk : k ≤ 64 := by decide) : rNeD K x y H Q :=
  ⟨_, _, hx, hy, s.ok hk, (sh_ints (k := 0) []).ok (by decide), by rw [eqv_nil]; exact h⟩
theorem dpl_ints : ∀ ns : List Int, DpAll K H (ns.map V.int) (ns.map PyData.int)
  | [] => .nil
  | n :: r => .cons (.int n) (dpl_ints r)
theorem dp_ints {a : Addr} {ns : List Int} (h : SqL K H a (ns.map V.int)) : Dp K H (.ref a) (.list (ns.map .int)) := .lst h (dpl_ints ns)
theorem dp_nil {a : Addr} (h : SqL K H a []) : Dp K H (.ref a) (.list []) := .lst h .nil
theorem Same.rd {u : HO} {a : Addr} (s : Same H H') (h : Rd H a u) : Rd H' a u := by
  rcases h with h | ⟨o, h⟩
  · exact .inl (s _ _ h)
  · exact .inr ⟨o, s _ _ h⟩
theorem Same.tup {a : Addr} {xs : List V} (s : Same H H') (h : SqT K H a xs) : SqT K H' a xs := by
  rcases h with h | h
  · exact .inl (Same.rd s h)
  · exact .inr h
mutual
theorem Dp.mono (s : Same H H') : ∀ (d : PyData) (v : V), Dp K H v d → Dp K H' v d
  | .none, _, h => by cases h; exact .non
  | .bool b, _, h => by cases h; exact .bl b
  | .int i, _, h => by cases h; exact .int i
  | .str z, _, h => by cases h; exact .str z
  | .list ds, _, h => by
    cases h with
    | lst hs ha => exact .lst (Same.seq s hs) (DpAll.mono s ds _ ha)
  | .tuple ds, _, h => by
    cases h with
    | tup hs ha => exact .tup (Same.tup s hs) (DpAll.mono s ds _ ha)
  | .dict _, _, h => by cases h
theorem DpAll.mono (s : Same H H') : ∀ (ds : List PyData) (vs : List V), DpAll K H vs ds → DpAll K H' vs ds
  | [], _, h => by cases h; exact .nil
  | d :: ds, _, h => by
    cases h with
    | cons h1 h2 => exact .cons (Dp.mono s d _ h1) (DpAll.mono s ds _ h2)
end
theorem same_new {p : Addr} {o : HO} (h : H p = none) : Same H (upd H p o) := fun b u e => by
  rw [upd_ne (ne_of_none e h)]
  exact e
theorem same_mut {p : Addr} {o : HO} (s : Same H H') (h : H p = none) : Same H (upd H' p o) := fun b u e => by
  rw [upd_ne (ne_of_none e h)]
  exact s b u e
/-- a new list, a new tuple -/
theorem g_newL {xs : List V} (h1 : xs.length ≤ 1000) (h2 : ∀ p H', H p = none → Same H H' → H' p = some (.lst xs) → Q (.ref p) H') : dNewL xs H Q :=
  ⟨Nat.le_of_lt (small1000 h1), fun p hp => h2 p _ hp (same_new hp) upd_same⟩
theorem g_newT {xs : List V} (h1 : xs.length ≤ 1000) (h2 : ∀ p H', H p = none → Same H H' → H' p = some (.tup xs) → Q (.ref p) H') : dNewT xs H Q :=
  ⟨Nat.le_of_lt (small1000 h1), fun p hp => h2 p _ hp (same_new hp) upd_same⟩
theorem g_listOf {a : Addr} {xs : List V} (hs : SqL K H a xs) (h2 : ∀ p H', H p = none → Same H H' → H' p = some (.lst xs) → Q (.ref p) H') : nListOf K [.ref a] H Q := ⟨a, xs, rfl, .inl hs, fun p hp => h2 p _ hp (same_new hp) upd_same⟩
/-- xs.append(y) -/
theorem g_append {σ : L2.St} {to : TE} {tA : TA} (h : to σ H fun x H1 => tyV K "list" x H1 ∧ tA σ H1 fun xs H2 => rAppend x xs H2 Q) : tBM K "list" rAppend to tA σ H Q := h
theorem ty_lst {a : Addr} {xs : List V} (h : H a = some (.lst xs)) : tyV K "list" (.ref a) H := Or.inl ⟨rfl, _, Or.inl (Or.inl h)⟩
theorem g_app {a : Addr} {xs : List V} (h : H a = some (.lst xs)) (hl : xs.length ≤ 1000) (q : Q .non (upd H a (.lst (xs ++ [y])))) : rAppend (.ref a) [y] H Q := ⟨a, xs, y, rfl, rfl, h, small1000 hl, q⟩
/-! comprehensions -/
def dLc (g : TG) (tt : TT) (te : TE) (vs : List Nat) (σ : L2.St) (J : It) (H1 : Hp) (Q : VK) : Prop := ∀ D, H1 D = none → ∃ W : Nat → Nat → Hp → Prop, (∃ m, W 0 m (upd H1 D (.lst []))) ∧ ∀ i m H, W i m H →
  (J.stop i H ∧ Q (.ref D) H) ∨ (J.go i H ∧ ∃ Nx : Hp → Prop, (∀ H', Nx H' → ∃ m', m' < m ∧ W (i + 1) m' H') ∧ ∀ x H', J.yld i H x H' → g x (wipe σ vs) H' fun σ2 H2 => wipe σ2 vs = wipe σ vs ∧ tt σ2 H2 fun b H3 =>
    if b = true then te σ2 H3 fun y H4 => ∃ acc, H4 D = some (.lst acc) ∧ acc.length < sizeLine ∧ Nx (upd H4 D (.lst (acc ++ [y]))) else Nx H3)
theorem g_lc {wi : TI} {g : TG} {tt : TT} {te : TE} {vs : List Nat} {σ : L2.St} (h : wi σ H fun J H1 => dLc g tt te vs σ J H1 Q) : tLc wi g tt te vs σ H Q := h
def Nxt (H1 : Hp) (D : Addr) (os : Nat → List V) (i : Nat) (H' : Hp) : Prop := Same H1 H' ∧ H' D = some (.lst (os i))
def dAdd (D : Addr) (Nx : Hp → Prop) (y : V) (H4 : Hp) : Prop := ∃ acc, H4 D = some (.lst acc) ∧ acc.length < sizeLine ∧ Nx (upd H4 D (.lst (acc ++ [y])))
theorem g_add1 {H1 H4 : Hp} {D : Addr} {os : Nat → List V} {i : Nat} (hD : H1 D = none) (s : Same H1 H4) (e : H4 D = some (.lst (os i))) (hl : (os i).length ≤ 1000) (eo : os (i + 1) = os i ++ [y]) : dAdd D (Nxt H1 D os (i + 1)) y H4 :=
  ⟨os i, e, small1000 hl, same_mut s hD, by rw [upd_same, eo]⟩
theorem g_skip1 {H1 H4 : Hp} {D : Addr} {os : Nat → List V} {i : Nat} (s : Same H1 H4) (e : H4 D = some (.lst (os i))) (eo : os (i + 1) = os i) : Nxt H1 D os (i + 1) H4 := ⟨s, by rw [eo]; exact e⟩
theorem g_lcR {g : TG} {tt : TT} {te : TE} {vs : List Nat} {σ : L2.St} {H1 : Hp} {n : Nat} (os : Nat → List V) (h0 : os 0 = [])
    (hs : ∀ (D : Addr) (i : Nat) (H' : Hp), H1 D = none → i < n → Same H1 H' → H' D = some (.lst (os i)) → g (.int (0 + (i : Int))) (wipe σ vs) H' fun σ2 H2 => wipe σ2 vs = wipe σ vs ∧ tt σ2 H2 fun b H3 =>
      if b = true then te σ2 H3 fun y H4 => dAdd D (Nxt H1 D os (i + 1)) y H4 else Nxt H1 D os (i + 1) H3)
    (hd : ∀ D H', H1 D = none → Same H1 H' → H' D = some (.lst (os n)) → Q (.ref D) H') : dLc g tt te vs σ (Itr 0 n) H1 Q := fun D hD =>
  lc_range (lo := 0) (n := n) (Nxt H1 D os) ⟨same_new hD, by rw [upd_same, h0]⟩ (fun i H hi p => hs D i H hD hi p.1 p.2) fun H p => hd D H hD p.1 p.2
theorem g_lcL {g : TG} {tt : TT} {te : TE} {vs : List Nat} {σ : L2.St} {H1 : Hp} {a : Addr} {xs : List V} (hq : SqL K H1 a xs) (os : Nat → List V) (h0 : os 0 = [])
    (hs : ∀ (D : Addr) (i : Nat) (x : V) (H' : Hp), H1 D = none → xs[i]? = some x → Same H1 H' → H' D = some (.lst (os i)) → g x (wipe σ vs) H' fun σ2 H2 => wipe σ2 vs = wipe σ vs ∧ tt σ2 H2 fun b H3 =>
      if b = true then te σ2 H3 fun y H4 => dAdd D (Nxt H1 D os (i + 1)) y H4 else Nxt H1 D os (i + 1) H3)
    (hd : ∀ D H', H1 D = none → Same H1 H' → H' D = some (.lst (os xs.length)) → Q (.ref D) H') : dLc g tt te vs σ (Itl K a) H1 Q := fun D hD =>
  lc_list (K := K) (a := a) (xs := xs) (Nxt H1 D os) ⟨same_new hD, by rw [upd_same, h0]⟩ (fun i H _ p => Same.seq p.1 hq) (fun i x H hi p => hs D i x H hD hi p.1 p.2) fun H p => hd D H hD p.1 p.2
theorem g_yes {R : Bool → Hp → Prop} {σ : L2.St} (h : R true H) : tYes σ H R := h
end
end Lk

namespace Lk
open PySem PySem.Spec PyProof.Rows L2
def top (i : Nat) : Stmt := PySem.Challenge.pw_skipladder_k03_tall.main.body.getD i (.Pass ⟨0, 0, 0, 0⟩)
abbrev s_power : Stmt := top 1
abbrev N_power : List Str := ["width", "level", "found", "turn"]
theorem sc_power : FnScope N_power ["width", "level"] (defScope s_power) := ⟨rfl, rfl, rfl, by decide +kernel, rfl, by decide +kernel, by decide +kernel⟩
abbrev s_block : Stmt := top 2
abbrev N_block : List Str := ["width", "level", "number"]
theorem sc_block : FnScope N_block ["width", "level", "number"] (defScope s_block) := ⟨rfl, rfl, rfl, by decide +kernel, rfl, by decide +kernel, by decide +kernel⟩
abbrev s_tall : Stmt := top 3
abbrev N_tall : List Str := ["width", "high", "before", "number", "level"]
theorem sc_tall : FnScope N_tall ["width", "high", "before", "number"] (defScope s_tall) := ⟨rfl, rfl, rfl, by decide +kernel, rfl, by decide +kernel, by decide +kernel⟩
abbrev s__law_cell_at : Stmt := top 6
abbrev N__law_cell_at : List Str := ["_law_script", "_law_k"]
theorem sc__law_cell_at : FnScope N__law_cell_at ["_law_script", "_law_k"] (defScope s__law_cell_at) := ⟨rfl, rfl, rfl, by decide +kernel, rfl, by decide +kernel, by decide +kernel⟩
abbrev s__law_whole : Stmt := top 5
abbrev N__law_whole : List Str := ["_law_found"]
theorem sc__law_whole : FnScope N__law_whole ["_law_found"] (defScope s__law_whole) := ⟨rfl, rfl, rfl, by decide +kernel, rfl, by decide +kernel, by decide +kernel⟩
abbrev s_law : Stmt := top 7
abbrev N_law : List Str := ["_law_script", "_law_width", "_law_high", "_law_sizes", "_law_turn", "_law_number", "_law_before", "_law_found", "_law_apart", "_law_level"]
theorem sc_law : FnScope N_law ["_law_script"] (defScope s_law) := ⟨rfl, rfl, rfl, by decide +kernel, rfl, by decide +kernel, by decide +kernel⟩
structure Ads where
  power : Addr
  block : Addr
  tall : Addr
  _law_cell_at : Addr
  _law_whole : Addr
  law : Addr
/-- what the top has written -/
structure Txt (K : PySem.W.Frag) (mg : Str → Option Value) (A : Ads) : Prop where
  f_power : ∃ fd, Fun K "power" "power" s_power A.power fd
  g_power : mg "power" = some (.ref A.power)
  k_power : PySem.W.keepIn K (.ref A.power) = true
  f_block : ∃ fd, Fun K "block" "block" s_block A.block fd
  g_block : mg "block" = some (.ref A.block)
  k_block : PySem.W.keepIn K (.ref A.block) = true
  f_tall : ∃ fd, Fun K "tall" "tall" s_tall A.tall fd
  g_tall : mg "tall" = some (.ref A.tall)
  k_tall : PySem.W.keepIn K (.ref A.tall) = true
  f__law_cell_at : ∃ fd, Fun K "_law_cell_at" "_law_cell_at" s__law_cell_at A._law_cell_at fd
  g__law_cell_at : mg "_law_cell_at" = some (.ref A._law_cell_at)
  k__law_cell_at : PySem.W.keepIn K (.ref A._law_cell_at) = true
  f__law_whole : ∃ fd, Fun K "_law_whole" "_law_whole" s__law_whole A._law_whole fd
  g__law_whole : mg "_law_whole" = some (.ref A._law_whole)
  k__law_whole : PySem.W.keepIn K (.ref A._law_whole) = true
  f_law : ∃ fd, Fun K "law" "law" s_law A.law fd
  g_law : mg "law" = some (.ref A.law)
  k_law : PySem.W.keepIn K (.ref A.law) = true
  z_bool : mg "bool" = none
  z_int : mg "int" = none
  z_isinstance : mg "isinstance" = none
  z_len : mg "len" = none
  z_list : mg "list" = none
  z_max : mg "max" = none
  z_range : mg "range" = none
section
variable {K : PySem.W.Frag} {mg : Str → Option Value} {A : Ads}
theorem b_power : ∀ fd, Fun K "power" "power" s_power A.power fd → Binds K fd ["width", "level"] [] := fun _ F => F.binds fun _ _ _ _ _ _ us hl => match us, hl with | [_, _], _ => rfl
theorem b_block : ∀ fd, Fun K "block" "block" s_block A.block fd → Binds K fd ["width", "level", "number"] [] := fun _ F => F.binds fun _ _ _ _ _ _ us hl => match us, hl with | [_, _, _], _ => rfl
theorem b_tall : ∀ fd, Fun K "tall" "tall" s_tall A.tall fd → Binds K fd ["width", "high", "before", "number"] [] := fun _ F => F.binds fun _ _ _ _ _ _ us hl => match us, hl with | [_, _, _, _], _ => rfl
theorem b__law_cell_at : ∀ fd, Fun K "_law_cell_at" "_law_cell_at" s__law_cell_at A._law_cell_at fd → Binds K fd ["_law_script", "_law_k"] [] := fun _ F => F.binds fun _ _ _ _ _ _ us hl => match us, hl with | [_, _], _ => rfl
theorem b__law_whole : ∀ fd, Fun K "_law_whole" "_law_whole" s__law_whole A._law_whole fd → Binds K fd ["_law_found"] [] := fun _ F => F.binds fun _ _ _ _ _ _ us hl => match us, hl with | [_], _ => rfl
theorem b_law : ∀ fd, Fun K "law" "law" s_law A.law fd → Binds K fd ["_law_script"] [] := fun _ F => F.binds fun _ _ _ _ _ _ us hl => match us, hl with | [_], _ => rfl
end
end Lk
local macro_rules | `(tactic| walk_at "go1") => `(tactic| first
  | with_reducible refine Lk.g_pr1 ?_
  | with_reducible refine Lk.g_pr2 ?_
  | with_reducible refine Lk.g_seq ?_
  | with_reducible refine Lk.g_set ?_
  | with_reducible refine Lk.g_if ?_
  | with_reducible refine Lk.g_ret ?_
  | with_reducible refine Lk.g_drop ?_
  | with_reducible refine Lk.g_next ?_
  | ((with_reducible refine Lk.g_var (v := ?v) ?e ?_); (case e => rfl))
  | with_reducible refine Lk.g_c ?_
  | with_reducible refine Lk.g_op ?_
  | with_reducible refine Lk.g_test ?_
  | with_reducible refine Lk.g_bl ?_
  | with_reducible refine Lk.g_tB ?_
  | with_reducible refine Lk.g_add ?_
  | with_reducible refine Lk.g_sub ?_
  | ((with_reducible refine Lk.g_mod ?_ ?_); first | decide | omega | assumption)
  | ((with_reducible refine Lk.g_div ?_ ?_); first | decide | omega | assumption)
  | with_reducible refine Lk.g_lt ?_
  | with_reducible refine Lk.g_le ?_
  | with_reducible refine Lk.g_gt ?_
  | with_reducible refine Lk.g_ge ?_
  | with_reducible refine Lk.g_eqI ?_
  | with_reducible refine Lk.g_neI ?_
  | with_reducible refine Lk.g_neB ?_
  | with_reducible refine Lk.g_isN ?_
  | with_reducible refine Lk.g_notN ?_
  | with_reducible refine Lk.g_cons ?_
  | with_reducible refine Lk.g_nil ?_
  | with_reducible refine Lk.g_call ?_
  | with_reducible refine Lk.g_callB ?_
  | with_reducible refine Lk.g_not ?_
  | with_reducible refine Lk.g_and ?_
  | with_reducible refine Lk.g_or ?_
  | with_reducible refine Lk.g_andV ?_
  | with_reducible refine Lk.g_orV ?_
  | with_reducible refine Lk.g_notV ?_
  | with_reducible refine Lk.g_ifE ?_
  | with_reducible refine Lk.g_max2 ?_
  | with_reducible refine Lk.g_min2 ?_
  | with_reducible refine Lk.g_for ?_
  | with_reducible refine Lk.g_rng1 ?_
  | with_reducible refine Lk.g_name _ ?_
  | with_reducible refine Lk.g_un ?_
  | with_reducible refine Lk.g_neg ?_
  | with_reducible refine Lk.g_retN ?_
  | with_reducible refine Lk.g_iL ?_
  | with_reducible refine Lk.g_append ?_
  | with_reducible refine Lk.g_lst0 ?_
  | with_reducible refine Lk.g_tup0 ?_
  | with_reducible refine Lk.g_fld0 ?_
  | with_reducible refine Lk.g_get0 ?_
  | with_reducible refine Lk.g_in0 ?_
  | with_reducible refine Lk.g_nin0 ?_
  | with_reducible refine Lk.g_meth0 ?_
  | with_reducible refine Lk.g_lc ?_
  | with_reducible refine Lk.g_yes ?_
  | with_reducible refine Lk.g_tt ?_
  | with_reducible refine Lk.g_ff ?_
  | with_reducible refine Lk.g_lrg0 ?_)
local macro_rules | `(tactic| walk_at "go") => `(tactic| repeat walk_at "go1")

namespace Lk
open PySem PySem.Spec PyProof.Rows L2
section
variable {P : Program} {w : World} {K : PySem.W.Frag} {mg : Str → Option Value} {base : Heap} {A : Ads}
def sp_power : Sp := fun vs H Q _ => ∃ (w : Int) (l : Nat), vs = [.int w, .int (l : Int)] ∧ 2 ≤ w ∧ w ≤ 9 ∧ l ≤ 12 ∧ Q (.int (w ^ l)) H
theorem ok_power (T : Txt K mg A) : FO P w K mg base 2 A.power ["width", "level"] sp_power := by
  have S := sc_power
  refine FO.mk' T.f_power S b_power (fun vs H Q E h => by obtain ⟨_, _, rfl, _⟩ := h; rfl) (fun cdv Ar outer s H vs Q E hr h => ?_)
  have hu := hu_of hr
  obtain ⟨wd, l, rfl, h1, h2, h3, k⟩ := h
  refine ⟨_, (pss_cons (ps_set (i := 2) S.nd rfl (Or.inl rfl) pe_int)
  (pss_cons (ps_for (passes_of rfl) rfl (pi_range1 rfl T.z_range (pa_cons (pv 1) pa_nil)) (pg_name (i := 3) S.nd rfl (Or.inl rfl))
    (pss_one (ps_set (i := 2) S.nd rfl (Or.inl rfl) (pe_op o_mul (pv 2) (pv 0)))))
  (pss_one (ps_ret (pv 2))))), ?_⟩
  walk_at "go"
  refine g_rng (by omega) (by omega) ?_
  refine for_range (lo := 0) (fun i σ H' => H' = H ∧ ∃ v, σ = [some (.int wd), some (.int (l : Int)), some (.int (wd ^ i)), v]) ⟨rfl, none, by rw [Int.pow_zero]; rfl⟩ ?_ ?_
  · rintro i σ H' hi ⟨rfl, v, rfl⟩
    walk_at "go"
    refine g_mul (.inr (by omega)) ?_
    walk_at "go"
    exact ⟨rfl, _, by rw [Int.pow_succ]; rfl⟩
  · rintro σ H' ⟨rfl, v, rfl⟩
    walk_at "go"
    exact k

def sp_block : Sp := fun vs H Q _ => ∃ (w : Int) (l : Nat) (n : Int), vs = [.int w, .int (l : Int), .int n] ∧ 2 ≤ w ∧ w ≤ 9 ∧ l ≤ 12 ∧ Q (.int (n / w ^ l)) H
theorem pow_bound {w : Int} {l : Nat} (h1 : 2 ≤ w) (h2 : w ≤ 9) (h3 : l ≤ 12) : 0 < w ^ l ∧ w ^ l ≤ 282429536481 := by
  refine ⟨Int.pow_pos (by omega), ?_⟩
  obtain ⟨m, rfl⟩ : ∃ m : Nat, w = (m : Int) := ⟨w.toNat, by omega⟩
  have a : m ^ l ≤ 9 ^ l := Nat.pow_le_pow_left (by omega) l
  have b : 9 ^ l ≤ 9 ^ 12 := Nat.pow_le_pow_right (by decide) h3
  have c : 9 ^ 12 = 282429536481 := by decide
  rw [← Int.natCast_pow]
  omega
theorem ok_block (T : Txt K mg A) : FO P w K mg base 3 A.block ["width", "level", "number"] sp_block := by
  obtain ⟨fd_power, G_power, B_power⟩ := ok_power (P := P) (w := w) (base := base) T
  have S := sc_block
  refine FO.mk' T.f_block S b_block (fun vs H Q E h => by obtain ⟨_, _, _, rfl, _⟩ := h; rfl) (fun cdv Ar outer s H vs Q E hr h => ?_)
  have hu := hu_of hr
  obtain ⟨wd, l, n, rfl, h1, h2, h3, k⟩ := h
  refine ⟨_, (pss_one (ps_ret (pe_op o_div (pv 2) (pe_call G_power (hr.mono (by decide)) rfl T.g_power T.k_power B_power .nil passL (pa_cons (pv 0) (pa_cons (pv 1) pa_nil)))))), ?_⟩
  walk_at "go"
  refine ⟨wd, l, rfl, h1, h2, h3, ?_⟩
  have hp := pow_bound h1 h2 h3
  walk_at "go"
  exact k

def sp__law_cell_at (K : PySem.W.Frag) : Sp := fun vs H Q _ => ∃ (a : Addr) (k : Nat) (ns : List Int), vs = [.ref a, .int (k : Int)] ∧ SqL K H a (ns.map V.int) ∧ Q (.int (ns.getD k 0)) H
theorem ok__law_cell_at (T : Txt K mg A) : FO P w K mg base 2 A._law_cell_at ["_law_script", "_law_k"] (sp__law_cell_at K) := by
  have S := sc__law_cell_at
  refine FO.mk' T.f__law_cell_at S b__law_cell_at (fun vs H Q E h => by obtain ⟨_, _, _, rfl, _⟩ := h; rfl) (fun cdv Ar outer s H vs Q E hr h => ?_)
  have hu := hu_of hr
  obtain ⟨a, k, ns, rfl, hs, q⟩ := h
  refine ⟨_, (pss_cons (ps_if (pt_cmpR o_lt (pv 1) (pe_callB (k_len (K := K) rfl) (by rfl) T.z_len PySem.boot_len (pa_cons (pv 0) pa_nil)) (nomark _))
    (pss_one (ps_ret (pe_ix (k_ixL (K := K) rfl) (pv 0) (pv 1) (fun _ _ => rfl))))
    pss_nil)
  (pss_one (ps_ret pe_int))), ?_⟩
  walk_at "go"
  refine g_lenL hs ?_
  walk_at "go"
  refine g_ite (fun e => ?_) (fun e => ?_)
  · have e' : k < ns.length := by
      have := of_decide_eq_true e
      rw [List.length_map] at this
      omega
    walk_at "go"
    refine g_ixL hs (atI_nat (j := k) (v := .int (ns.getD k 0)) ?_) ?_
    · rw [List.getElem?_map, List.getElem?_eq_getElem e', List.getD_eq_getElem?_getD, List.getElem?_eq_getElem e']
      rfl
    · walk_at "go"
      exact q
  · have e' : ¬ k < ns.length := fun z => by
      have := of_decide_eq_false e
      rw [List.length_map] at this
      omega
    walk_at "go"
    have e2 : ns.getD k 0 = 0 := by
      rw [List.getD_eq_getElem?_getD, List.getElem?_eq_none (by omega)]
      rfl
    rw [e2] at q
    exact q

def sp__law_whole : Sp := fun vs H Q _ => ∃ i : Int, vs = [.int i] ∧ Q (.bl true) H
theorem ok__law_whole (T : Txt K mg A) : FO P w K mg base 2 A._law_whole ["_law_found"] sp__law_whole := by
  have S := sc__law_whole
  refine FO.mk' T.f__law_whole S b__law_whole (fun vs H Q E h => by obtain ⟨_, rfl, _⟩ := h; rfl) (fun cdv Ar outer s H vs Q E hr h => ?_)
  have hu := hu_of hr
  obtain ⟨i, rfl, q⟩ := h
  refine ⟨_, (pss_one (ps_ret (pe_and (pe_callB (k_isi (K := K) rfl) (by rfl) T.z_isinstance PyProof.Rows.boot_isinstance (pa_cons (pv 0) (pa_cons (pe_bltn (v := .ty "int") rfl T.z_int PyProof.Rows.boot_int rfl) pa_nil))) (pe_one (pe_not (pe_callB (k_isi (K := K) rfl) (by rfl) T.z_isinstance PyProof.Rows.boot_isinstance (pa_cons (pv 0) (pa_cons (pe_bltn (v := .ty "bool") rfl T.z_bool PyProof.Rows.boot_bool rfl) pa_nil)))))))), ?_⟩
  walk_at "go"
  refine g_isi (.base (.int i)) (.ty _) (kit_ty (r := true) (by decide +kernel)) ?_
  walk_at "go"
  refine g_isi (.base (.int i)) (.ty _) (kit_ty (r := false) (by decide +kernel)) ?_
  walk_at "go"
  exact q

def ov : Option Int → V
  | none => .non
  | some i => .int i
/-- on how many levels a number stands behind the next lesser one -/
def IsTall (w : Int) (h : Nat) (ob : Option Int) (n : Int) (t : Nat) : Prop := match ob with
  | none => t = h + 1
  | some b => t ≤ h + 1 ∧ (∀ l, l < t → b / w ^ l ≠ n / w ^ l) ∧ (t ≤ h → b / w ^ t = n / w ^ t)
def sp_tall : Sp := fun vs H Q _ => ∃ (w : Int) (h : Nat) (b : Option Int) (n : Int), vs = [.int w, .int (h : Int), ov b, .int n] ∧ 2 ≤ w ∧ w ≤ 9 ∧ h ≤ 12 ∧ ∀ t : Nat, IsTall w h b n t → Q (.int (t : Int)) H
theorem ok_tall (T : Txt K mg A) : FO P w K mg base 4 A.tall ["width", "high", "before", "number"] sp_tall := by
  obtain ⟨fd_block, G_block, B_block⟩ := ok_block (P := P) (w := w) (base := base) T
  have S := sc_tall
  refine FO.mk' T.f_tall S b_tall (fun vs H Q E h => by obtain ⟨_, _, _, _, rfl, _⟩ := h; rfl) (fun cdv Ar outer s H vs Q E hr h => ?_)
  have hu := hu_of hr
  obtain ⟨wd, hh, b, n, rfl, h1, h2, h3, k⟩ := h
  refine ⟨_, (pss_cons (ps_if (pt_cmpR o_isN (pv 2) pe_non (nomark _))
    (pss_one (ps_ret (pe_op o_add (pv 1) pe_int)))
    pss_nil)
  (pss_cons (ps_set (i := 4) S.nd rfl (Or.inl rfl) pe_int)
  (pss_cons (ps_while (passes_of rfl) (PW.pt (pw_and (pt_cmpR o_le (pv 4) (pv 1) (nomark _)) (pw_and1 (pt_cmpR op_ne (pe_call G_block (hr.mono (by decide)) rfl T.g_block T.k_block B_block .nil passL (pa_cons (pv 0) (pa_cons (pv 4) (pa_cons (pv 2) pa_nil)))) (pe_call G_block (hr.mono (by decide)) rfl T.g_block T.k_block B_block .nil passL (pa_cons (pv 0) (pa_cons (pv 4) (pa_cons (pv 3) pa_nil)))) (nomark _)))))
    (pss_one (ps_set (i := 4) S.nd rfl (Or.inl rfl) (pe_op o_add (pv 4) pe_int))))
  (pss_one (ps_ret (pv 4)))))), ?_⟩
  walk_at "go"
  cases b with
  | none =>
    refine g_iteT rfl ?_
    walk_at "go"
    exact k (hh + 1) rfl
  | some b =>
    refine g_iteF rfl ?_
    walk_at "go"
    refine g_while (fun m σ H' => H' = H ∧ ∃ lev : Nat, m = hh + 1 - lev ∧ lev ≤ hh + 1 ∧ (∀ l, l < lev → b / wd ^ l ≠ n / wd ^ l) ∧ σ = [some (.int wd), some (.int (hh : Int)), some (.int b), some (.int n), some (.int (lev : Int))])
      (hh + 1) ⟨rfl, 0, by omega, by omega, (fun l hl => absurd hl (Nat.not_lt_zero l)), rfl⟩ ?_
    rintro m σ H' ⟨rfl, lev, rfl, hl, hne, rfl⟩
    walk_at "go"
    refine g_ite (fun e => ?_) (fun e => ?_)
    · have e' : lev ≤ hh := by have := of_decide_eq_true e; omega
      walk_at "go"
      refine ⟨wd, lev, b, rfl, h1, h2, by omega, ?_⟩
      walk_at "go"
      refine ⟨wd, lev, n, rfl, h1, h2, by omega, ?_⟩
      walk_at "go"
      refine g_ite (fun e2 => ?_) (fun e2 => ?_)
      · have e3 : b / wd ^ lev ≠ n / wd ^ lev := by simpa using e2
        refine g_body ?_
        walk_at "go"
        refine ⟨hh + 1 - (lev + 1), by omega, rfl, lev + 1, rfl, by omega, fun l hl2 => ?_, rfl⟩
        by_cases q : l = lev
        · rw [q]; exact e3
        · exact hne l (by omega)
      · have e3 : b / wd ^ lev = n / wd ^ lev := by simpa using e2
        walk_at "go"
        exact k lev ⟨by omega, hne, fun _ => e3⟩
    · have e' : ¬ lev ≤ hh := by have := of_decide_eq_false e; omega
      walk_at "go"
      exact k lev ⟨by omega, hne, fun q => absurd q e'⟩


end
end Lk

namespace Lk
open PySem PySem.Spec PyProof.Rows L2
def spLaw (K : PySem.W.Frag) : Sp := fun vs H Q _ => ∃ (a : Addr) (ns : List Int), vs = [.ref a] ∧ SqL K H a (ns.map V.int) ∧ ns.length ≤ 63 ∧ ∀ H', Q (.bl true) H'
section
variable {P : Program} {w : World} {K : PySem.W.Frag} {mg : Str → Option Value} {base : Heap} {A : Ads}
theorem tall_up {w : Int} {b n : Int} {t l : Nat} (h : 0 < w) (e : b / w ^ t = n / w ^ t) (hl : t ≤ l) : b / w ^ l = n / w ^ l := by
  obtain ⟨d, rfl⟩ : ∃ d, l = t + d := ⟨l - t, by omega⟩
  rw [Int.pow_add, Sk.div_mul (Int.pow_pos h), Sk.div_mul (Int.pow_pos h), e]
theorem ok_law {f : Addr} {fd : FuncData} (F : Fun K "law" "law" s_law f fd) (T : Txt K mg A) : FnOk P w K mg base CX0 5 f fd ["_law_script"] (spLaw K) := by
  obtain ⟨fd_tall, G_tall, B_tall⟩ := ok_tall (P := P) (w := w) (base := base) T
  obtain ⟨fd__law_cell_at, G__law_cell_at, B__law_cell_at⟩ := ok__law_cell_at (P := P) (w := w) (base := base) T
  obtain ⟨fd__law_whole, G__law_whole, B__law_whole⟩ := ok__law_whole (P := P) (w := w) (base := base) T
  have S := sc_law
  refine F.ok S (fun vs H Q E h => by obtain ⟨_, _, rfl, _⟩ := h; rfl) (fun cdv Ar outer s H vs Q E hr h => ?_)
  obtain ⟨a, ns, rfl, hS, hlen, k⟩ := h
  refine ⟨_, (pss_cons (ps_set (i := 1) S.nd rfl (Or.inl rfl) (pe_op o_add pe_int (pe_op o_mod (pe_call G__law_cell_at (hr.mono (by decide)) rfl T.g__law_cell_at T.k__law_cell_at B__law_cell_at .nil passL (pa_cons (pv 0) (pa_cons pe_int pa_nil))) pe_int)))
  (pss_cons (ps_set (i := 2) S.nd rfl (Or.inl rfl) (pe_op o_add pe_int (pe_op o_mod (pe_call G__law_cell_at (hr.mono (by decide)) rfl T.g__law_cell_at T.k__law_cell_at B__law_cell_at .nil passL (pa_cons (pv 0) (pa_cons pe_int pa_nil))) pe_int)))
  (pss_cons (ps_set (i := 3) S.nd rfl (Or.inr rfl) (pe_lst (pa_cons pe_int pa_nil)))
  (pss_cons (ps_for PassesOwn.never rfl (pi_range1 rfl T.z_range (pa_cons (pv 2) pa_nil)) (pg_name (i := 4) S.nd rfl (Or.inl rfl))
    (pss_one (ps_expr (pe_bm PySem.F.plainAttrs_list PySem.F.slot_list_append PySem.F.type_list_append mt_append (pv 3) (pa_cons (pe_op o_mul (pe_ix (k_ixL (K := K) rfl) (pv 3) (pe_un un_neg pe_int) (fun _ _ => rfl)) (pv 1)) pa_nil)))))
  (pss_cons (ps_set (i := 5) S.nd rfl (Or.inr rfl) (pe_op o_add pe_int (pe_op o_mod (pe_call G__law_cell_at (hr.mono (by decide)) rfl T.g__law_cell_at T.k__law_cell_at B__law_cell_at .nil passL (pa_cons (pv 0) (pa_cons pe_int pa_nil))) (pe_op o_sub (pe_ix (k_ixL (K := K) rfl) (pv 3) (pv 2) (fun _ _ => rfl)) pe_int))))
  (pss_cons (ps_set (i := 6) S.nd rfl (Or.inr rfl) (pe_op o_mod (pe_call G__law_cell_at (hr.mono (by decide)) rfl T.g__law_cell_at T.k__law_cell_at B__law_cell_at .nil passL (pa_cons (pv 0) (pa_cons pe_int pa_nil))) (pv 5)))
  (pss_consC (ps_if (pt_cmpR op_eq (pe_op o_mod (pe_call G__law_cell_at (hr.mono (by decide)) rfl T.g__law_cell_at T.k__law_cell_at B__law_cell_at .nil passL (pa_cons (pv 0) (pa_cons pe_int pa_nil))) pe_int) pe_int (nomark _))
    (pss_one (ps_set (i := 6) S.nd rfl (Or.inr rfl) (pe_callB (c_max2 rfl) (by rfl) T.z_max (by decide +kernel) (pa_cons pe_int (pa_cons (pe_op o_sub (pe_op o_sub (pv 5) pe_int) (pe_op o_mod (pe_call G__law_cell_at (hr.mono (by decide)) rfl T.g__law_cell_at T.k__law_cell_at B__law_cell_at .nil passL (pa_cons (pv 0) (pa_cons pe_int pa_nil))) pe_int)) pa_nil)))))
    pss_nil)
  (pss_cons (ps_if (pt_cmpR op_eq (pe_op o_mod (pe_call G__law_cell_at (hr.mono (by decide)) rfl T.g__law_cell_at T.k__law_cell_at B__law_cell_at .nil passL (pa_cons (pv 0) (pa_cons pe_int pa_nil))) pe_int) pe_int (nomark _))
    (pss_cons (ps_set (i := 7) S.nd rfl (Or.inl rfl) (pe_call G_tall (hr.mono (by decide)) rfl T.g_tall T.k_tall B_tall .nil passL (pa_cons (pv 1) (pa_cons (pv 2) (pa_cons pe_non (pa_cons (pe_op o_sub (pv 5) (pe_op o_mod (pe_call G__law_cell_at (hr.mono (by decide)) rfl T.g__law_cell_at T.k__law_cell_at B__law_cell_at .nil passL (pa_cons (pv 0) (pa_cons pe_int pa_nil))) pe_int)) pa_nil))))))
    (pss_one (ps_ret (pe_and (pe_call G__law_whole (hr.mono (by decide)) rfl T.g__law_whole T.k__law_whole B__law_whole .nil passL (pa_cons (pv 7) pa_nil)) (pe_one (pe_cmpR op_eq (pv 7) (pe_op o_add (pv 2) pe_int) (nomark _)))))))
    pss_nil)
  (pss_cons (ps_set (i := 7) S.nd rfl (Or.inl rfl) (pe_call G_tall (hr.mono (by decide)) rfl T.g_tall T.k_tall B_tall .nil passL (pa_cons (pv 1) (pa_cons (pv 2) (pa_cons (pv 6) (pa_cons (pv 5) pa_nil))))))
  (pss_cons (ps_setLc (i := 8) (own := [("_law_level", 9)]) (g := gName 9) rfl S.nd rfl rfl (sw_true rfl rfl rfl (by decide +kernel)) (pi_range1 rfl T.z_range (pa_cons (pe_op o_add (pv 2) pe_int) pa_nil)) (blkOk_by (N := N_law) (sc := defScope s_law) (by decide +kernel)) (fun _ _ _ _ _ => pg_name (i := 9) S.nd rfl (Or.inl rfl)) (fun _ _ _ _ _ => (pts_one (pt_cmpR op_ne (pe_op o_div (pv 6) (pe_ix (k_ixL (K := K) rfl) (pv 3) (pv 9) (fun _ _ => rfl))) (pe_op o_div (pv 5) (pe_ix (k_ixL (K := K) rfl) (pv 3) (pv 9) (fun _ _ => rfl))) (nomark _)))) (fun _ _ _ _ _ => (pv 9)))
  (pss_one (ps_ret (pe_and (pe_call G__law_whole (hr.mono (by decide)) rfl T.g__law_whole T.k__law_whole B__law_whole .nil passL (pa_cons (pv 7) pa_nil)) (pe_one (pe_cmpR (k_eqD (K := K) rfl hr.units) (pv 8) (pe_listRg rfl rfl T.z_list (prg_1 rfl T.z_range (pv 7))) (nomark _)))))))))))))))), ?_⟩
  have cell : ∀ {H' : Hp} {Q : VK} {E : XK} (j : Nat), SqL K H' a (ns.map V.int) → Q (.int (ns.getD j 0)) H' → sp__law_cell_at K [.ref a, .int (j : Int)] H' Q E := fun j hs q => ⟨a, j, ns, rfl, hs, q⟩
  walk_at "go"
  refine cell 0 hS ?_
  walk_at "go"
  refine cell 1 hS ?_
  walk_at "go"
  generalize ew : 2 + ns.getD 0 0 % 8 = wd
  generalize el : 1 + ns.getD 1 0 % 12 = lv
  obtain ⟨l, rfl⟩ : ∃ l : Nat, lv = (l : Int) := ⟨lv.toNat, by omega⟩
  have w1 : 2 ≤ wd := by omega
  have w2 : wd ≤ 9 := by omega
  have l1 : l ≤ 12 := by omega
  have l0 : 1 ≤ l := by omega
  have hp := pow_bound w1 w2 l1
  have hp2 : 2 ≤ wd ^ l := by
    obtain ⟨d, rfl⟩ : ∃ d, l = d + 1 := ⟨l - 1, by omega⟩
    have := pow_pos' (show 0 < wd by omega) d
    rw [Int.pow_succ]
    have := Int.mul_le_mul (show 1 ≤ wd ^ d by omega) w1 (by decide) (by omega)
    omega
  refine g_newL (by decide) fun p H1 np s1 e1 => ?_
  walk_at "go"
  refine g_rng (by omega) (by omega) ?_
  refine for_range (lo := 0) (fun i σ H' => Same H H' ∧ H' p = some (.lst ((sz wd i).map V.int)) ∧ ∃ v, σ = [some (.ref a), some (.int wd), some (.int (l : Int)), some (.ref p), v, none, none, none, none, none]) ⟨s1, by rw [sz_zero]; exact e1, none, rfl⟩ ?_ ?_
  · rintro i σ H' hi ⟨s2, e2, v, rfl⟩
    have hb := pow_bound w1 w2 (show i ≤ 12 by omega)
    walk_at "go"
    refine ⟨ty_lst e2, ?_⟩
    walk_at "go"
    refine g_ixL (.of e2) sz_last ?_
    walk_at "go"
    refine g_mul (.inr (by omega)) ?_
    walk_at "go"
    refine g_app e2 (by rw [List.length_map, sz_len]; omega) ?_
    walk_at "go"
    refine ⟨same_mut s2 np, ?_, _, rfl⟩
    rw [upd_same, sz_succ, List.map_append, Int.pow_succ]
    rfl
  rintro σ H2 ⟨s2, e2, v, rfl⟩
  rw [show (l : Int).toNat = l by omega] at e2
  have hS2 := s2.seq hS
  walk_at "go"
  refine cell 2 hS2 ?_
  walk_at "go"
  refine g_ixL (.of e2) (sz_at (Nat.le_refl l)) ?_
  walk_at "go"
  generalize en : 1 + ns.getD 2 0 % (wd ^ l - 1) = n
  have n1 : 1 ≤ n := by
    have := Int.emod_nonneg (ns.getD 2 0) (show wd ^ l - 1 ≠ 0 by omega)
    omega
  refine cell 3 hS2 ?_
  walk_at "go"
  refine g_cut (fun σ' H3 => H3 = H2 ∧ ∃ b : Int, σ' = [some (.ref a), some (.int wd), some (.int (l : Int)), some (.ref p), v, some (.int n), some (.int b), none, none, none]) (fun N hN => ?_) ?_
  · walk_at "go"
    refine cell 4 hS2 ?_
    walk_at "go"
    refine g_ite (fun _ => ?_) (fun _ => ?_)
    · walk_at "go"
      refine cell 3 hS2 ?_
      walk_at "go"
      exact hN _ _ ⟨rfl, _, rfl⟩
    · walk_at "go"
      exact hN _ _ ⟨rfl, _, rfl⟩
  rintro σ H3 ⟨rfl, b, rfl⟩
  walk_at "go"
  refine cell 5 hS2 ?_
  walk_at "go"
  refine g_ite (fun _ => ?_) (fun _ => ?_)
  · walk_at "go"
    refine cell 3 hS2 ?_
    walk_at "go"
    refine ⟨wd, l, none, _, rfl, w1, w2, l1, fun t ht => ?_⟩
    walk_at "go"
    refine ⟨_, rfl, ?_⟩
    walk_at "go"
    rw [decide_eq_true (show (t : Int) = (l : Int) + 1 by have : t = l + 1 := ht; omega)]
    exact k _
  walk_at "go"
  refine ⟨wd, l, some b, n, rfl, w1, w2, l1, fun t ht => ?_⟩
  obtain ⟨t1, t2, t3⟩ := ht
  walk_at "go"
  refine g_rng (by omega) (by omega) ?_
  rw [show ((l : Int) + 1).toNat = l + 1 by omega]
  refine g_lcR (fun i => ((List.range (min i t)).map fun i => ((i : Nat) : Int)).map V.int) (by simp) ?_ ?_
  · intro D i H' hD hi s3 e3
    have hb := pow_bound w1 w2 (show i ≤ 12 by omega)
    have at_i : atI ((sz wd l).map V.int) (0 + (i : Int)) = some (.int (wd ^ i)) := by
      rw [Int.zero_add]
      exact sz_at (by omega)
    walk_at "go"
    refine ⟨rfl, ?_⟩
    walk_at "go"
    refine g_ixL (.of (s3 _ _ e2)) at_i ?_
    walk_at "go"
    refine g_ixL (.of (s3 _ _ e2)) at_i ?_
    walk_at "go"
    refine g_ite (fun e => ?_) (fun e => ?_)
    · have e' : b / wd ^ i ≠ n / wd ^ i := by simpa using e
      have hit : i < t := by
        rcases Nat.lt_or_ge i t with q | q
        · exact q
        · exact absurd (tall_up (by omega) (t3 (by omega)) q) e'
      walk_at "go"
      refine g_add1 hD s3 e3 (by simp; omega) ?_
      show ((List.range (min (i + 1) t)).map _).map V.int = _
      rw [show min (i + 1) t = i + 1 by omega, show min i t = i by omega, List.range_succ, List.map_append, List.map_append, Int.zero_add]
      rfl
    · have e' : b / wd ^ i = n / wd ^ i := by simpa using e
      have hit : t ≤ i := by
        rcases Nat.lt_or_ge i t with q | q
        · exact absurd e' (t2 i q)
        · exact q
      refine g_skip1 s3 e3 ?_
      show ((List.range (min (i + 1) t)).map _).map V.int = ((List.range (min i t)).map _).map V.int
      rw [show min (i + 1) t = t by omega, show min i t = t by omega]
  · intro D H' hD s3 e3
    rw [show min (l + 1) t = t by omega] at e3
    walk_at "go"
    refine ⟨_, rfl, ?_⟩
    walk_at "go"
    refine g_lrg (by omega) fun q hq => ?_
    refine g_eqD (dp_ints (.of (same_new hq _ _ e3))) (dp_ints (.of upd_same)) (sh_ints (k := 0) _) ?_
    exact k _
end
end Lk
namespace Lk
open PySem PySem.Spec PyProof.Rows L2
theorem all_mk {l : PySem.W.OpenLaw} {w : World} {K : PySem.W.Frag} {h : Heap} {mg : Str → Option Value} {fa f_power f_block f_tall f__law_cell_at f__law_whole f_law : Addr} (X : K.In h) (G : h.Ns mainGlobals mg) (hfa : mg "law" = some (.ref fa))
    {od0 an0 : Option Addr} {sl0 : Array (Option Value)} {oc0 kV0 dc0 pm0 cd0 ct0 : Value} {od1 an1 : Option Addr} {sl1 : Array (Option Value)} {oc1 kV1 dc1 pm1 cd1 ct1 : Value} {od2 an2 : Option Addr} {sl2 : Array (Option Value)} {oc2 kV2 dc2 pm2 cd2 ct2 : Value} {od3 an3 : Option Addr} {sl3 : Array (Option Value)} {oc3 kV3 dc3 pm3 cd3 ct3 : Value} {od4 an4 : Option Addr} {sl4 : Array (Option Value)} {oc4 kV4 dc4 pm4 cd4 ct4 : Value} {od5 an5 : Option Addr} {sl5 : Array (Option Value)} {oc5 kV5 dc5 pm5 cd5 ct5 : Value}
    (a0 : PySem.W.nsIn K mainGlobals "power" = some (some (.ref f_power)))
    (l0 : K.lookup f_power = some ⟨oc0, od0, .func (PySem.W.fnOf "power" "power" (defArgs s_power) (defBody s_power) (defScope s_power) .none kV0 dc0 pm0 an0 cd0 ct0), sl0⟩)
    (c0 : PySem.W.codeIn K cd0 "power" = true)
    (k0 : PySem.W.keepIn K (.ref f_power) = true)
    (a1 : PySem.W.nsIn K mainGlobals "block" = some (some (.ref f_block)))
    (l1 : K.lookup f_block = some ⟨oc1, od1, .func (PySem.W.fnOf "block" "block" (defArgs s_block) (defBody s_block) (defScope s_block) .none kV1 dc1 pm1 an1 cd1 ct1), sl1⟩)
    (c1 : PySem.W.codeIn K cd1 "block" = true)
    (k1 : PySem.W.keepIn K (.ref f_block) = true)
    (a2 : PySem.W.nsIn K mainGlobals "tall" = some (some (.ref f_tall)))
    (l2 : K.lookup f_tall = some ⟨oc2, od2, .func (PySem.W.fnOf "tall" "tall" (defArgs s_tall) (defBody s_tall) (defScope s_tall) .none kV2 dc2 pm2 an2 cd2 ct2), sl2⟩)
    (c2 : PySem.W.codeIn K cd2 "tall" = true)
    (k2 : PySem.W.keepIn K (.ref f_tall) = true)
    (a3 : PySem.W.nsIn K mainGlobals "_law_cell_at" = some (some (.ref f__law_cell_at)))
    (l3 : K.lookup f__law_cell_at = some ⟨oc3, od3, .func (PySem.W.fnOf "_law_cell_at" "_law_cell_at" (defArgs s__law_cell_at) (defBody s__law_cell_at) (defScope s__law_cell_at) .none kV3 dc3 pm3 an3 cd3 ct3), sl3⟩)
    (c3 : PySem.W.codeIn K cd3 "_law_cell_at" = true)
    (k3 : PySem.W.keepIn K (.ref f__law_cell_at) = true)
    (a4 : PySem.W.nsIn K mainGlobals "_law_whole" = some (some (.ref f__law_whole)))
    (l4 : K.lookup f__law_whole = some ⟨oc4, od4, .func (PySem.W.fnOf "_law_whole" "_law_whole" (defArgs s__law_whole) (defBody s__law_whole) (defScope s__law_whole) .none kV4 dc4 pm4 an4 cd4 ct4), sl4⟩)
    (c4 : PySem.W.codeIn K cd4 "_law_whole" = true)
    (k4 : PySem.W.keepIn K (.ref f__law_whole) = true)
    (a5 : PySem.W.nsIn K mainGlobals "law" = some (some (.ref f_law)))
    (l5 : K.lookup f_law = some ⟨oc5, od5, .func (PySem.W.fnOf "law" "law" (defArgs s_law) (defBody s_law) (defScope s_law) .none kV5 dc5 pm5 an5 cd5 ct5), sl5⟩)
    (c5 : PySem.W.codeIn K cd5 "law" = true)
    (k5 : PySem.W.keepIn K (.ref f_law) = true)
    (z_bool : PySem.W.nsIn K mainGlobals "bool" = some none)
    (z_int : PySem.W.nsIn K mainGlobals "int" = some none)
    (z_isinstance : PySem.W.nsIn K mainGlobals "isinstance" = some none)
    (z_len : PySem.W.nsIn K mainGlobals "len" = some none)
    (z_list : PySem.W.nsIn K mainGlobals "list" = some none)
    (z_max : PySem.W.nsIn K mainGlobals "max" = some none)
    (z_range : PySem.W.nsIn K mainGlobals "range" = some none)
    : ∃ fd : FuncData, (∀ (s : Shared) (v : Value), BindsTo s fd ⟨[v], []⟩ [("_law_script", v)]) ∧ ∀ base : Heap, K.In base → base.Ns mainGlobals mg → FnOk l.prog w K mg base CX0 5 fa fd ["_law_script"] (spLaw K) := by
  have e := hfa.symm.trans (PySem.W.mg_of X G a5)
  cases e
  have T : Txt K mg { power := f_power, block := f_block, tall := f_tall, _law_cell_at := f__law_cell_at, _law_whole := f__law_whole, law := fa } :=
    { f_power := ⟨_, fun_mk (st := s_power) l0 c0 k0⟩,
      g_power := PySem.W.mg_of X G a0,
      k_power := k0,
      f_block := ⟨_, fun_mk (st := s_block) l1 c1 k1⟩,
      g_block := PySem.W.mg_of X G a1,
      k_block := k1,
      f_tall := ⟨_, fun_mk (st := s_tall) l2 c2 k2⟩,
      g_tall := PySem.W.mg_of X G a2,
      k_tall := k2,
      f__law_cell_at := ⟨_, fun_mk (st := s__law_cell_at) l3 c3 k3⟩,
      g__law_cell_at := PySem.W.mg_of X G a3,
      k__law_cell_at := k3,
      f__law_whole := ⟨_, fun_mk (st := s__law_whole) l4 c4 k4⟩,
      g__law_whole := PySem.W.mg_of X G a4,
      k__law_whole := k4,
      f_law := ⟨_, fun_mk (st := s_law) l5 c5 k5⟩,
      g_law := PySem.W.mg_of X G a5,
      k_law := k5,
      z_bool := PySem.W.mg_none_of X G z_bool,
      z_int := PySem.W.mg_none_of X G z_int,
      z_isinstance := PySem.W.mg_none_of X G z_isinstance,
      z_len := PySem.W.mg_none_of X G z_len,
      z_list := PySem.W.mg_none_of X G z_list,
      z_max := PySem.W.mg_none_of X G z_max,
      z_range := PySem.W.mg_none_of X G z_range }
  exact ⟨_, fun s v => .of_eq rfl, fun base _ _ => ok_law (fun_mk (st := s_law) l5 c5 k5) T⟩
theorem walk {l : PySem.W.OpenLaw} {q : Program} {loose : List Str} {XP : (Str → Option Value) → Heap → Prop} {YP : World → Heap → Prop} {d : DefRec} {K : Params → PySem.W.Frag} (hn : l.most = some 63) (hdf : d.params.defaults = [])
    (hY : ∀ (w : World) (h : Heap), YP w h → (K w.params).In h)
    (F : ∀ (w : World) (mg : Str → Option Value) (fa : Addr) (h : Heap), (K w.params).In h → h.Ns mainGlobals mg → mg d.name = some (.ref fa) →
      ∃ fd : FuncData, (∀ (s : Shared) (u : Value), BindsTo s fd ⟨[u], []⟩ [("_law_script", u)]) ∧ ∀ base : Heap, (K w.params).In base → base.Ns mainGlobals mg → FnOk l.prog w (K w.params) mg base CX0 5 fa fd ["_law_script"] (spLaw (K w.params))) :
    PySem.W.WalkO q loose XP YP l.row.toRowW d [] (fun f vs => PySem.call f vs) :=
  L2.walk_of (n := 63) (k := 5) (x := "_law_script") (CX := fun _ => CX0) (sp := fun w => spLaw (K w.params)) hn (by decide) hdf ⟨rfl, by decide, by decide⟩ hY F (fun _ _ a ns hl _ hS => ⟨a, ns, rfl, hS, hl, fun _ => rfl⟩) fun _ _ _ _ _ z => z
end Lk
open PySem PySem.W PyProof.Rows
set_option maxRecDepth 100000 in
set_option maxHeartbeats 0 in
theorem PySem.Challenge.cw_skipladder_k03_tall_holds : PySem.Challenge.rw_skipladder_k03_tall.Holds := by
  w_on; o_law; k_head; (case hw => w_witness2)
  k_fill
  refine Lk.walk (l := PySem.Challenge.rw_skipladder_k03_tall) rfl rfl (fun w h Y => PySem.W.kIn_of Y) ?F
  case F =>
    intro w mg fa h KX G hmg
    refine' Lk.all_mk KX G hmg ?a0 ?l0 ?c0 ?k0 ?a1 ?l1 ?c1 ?k1 ?a2 ?l2 ?c2 ?k2 ?a3 ?l3 ?c3 ?k3 ?a4 ?l4 ?c4 ?k4 ?a5 ?l5 ?c5 ?k5 ?z_bool ?z_int ?z_isinstance ?z_len ?z_list ?z_max ?z_range
    (case a0 => k_is)
    (case l0 => k_is)
    (case c0 => k_is)
    (case k0 => k_is)
    (case a1 => k_is)
    (case l1 => k_is)
    (case c1 => k_is)
    (case k1 => k_is)
    (case a2 => k_is)
    (case l2 => k_is)
    (case c2 => k_is)
    (case k2 => k_is)
    (case a3 => k_is)
    (case l3 => k_is)
    (case c3 => k_is)
    (case k3 => k_is)
    (case a4 => k_is)
    (case l4 => k_is)
    (case c4 => k_is)
    (case k4 => k_is)
    (case a5 => k_is)
    (case l5 => k_is)
    (case c5 => k_is)
    (case k5 => k_is)
    (case z_bool => k_is)
    (case z_int => k_is)
    (case z_isinstance => k_is)
    (case z_len => k_is)
    (case z_list => k_is)
    (case z_max => k_is)
    (case z_range => k_is)
#print axioms PySem.Challenge.cw_skipladder_k03_tall_holds


