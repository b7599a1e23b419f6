import PyProof.Rows.All
import Wide.All
import OpenK.AllK
import Wide.FinOn
import HandS.ForMost
import HandS.Exc
import HandS.TryOnly
import HandS.TryMany
import HandS.ExcOwn
import HandS.WordsExc
import HandS.ExcIs
import HandS.IsInst
import HandS.Wide
import HandS.More
import HandS.Conv
import HandS.SortInts
import HandS.Style
import HandS.Walk
import PySem.Challenge.RW_skipladder_k13_whole_places
set_option Elab.async false
set_option linter.all false
set_option maxRecDepth 100000
set_option maxHeartbeats 4000000
namespace Sk
abbrev Srt (S : List Int) : Prop := S.Pairwise (fun a b => a < b)

theorem find_srt {p : Int → Bool} : ∀ {S : List Int}, Srt S → ∀ y, (S.find? p = some y ↔ y ∈ S ∧ p y = true ∧ ∀ z ∈ S, p z = true → y ≤ z)
  | [], _, y => by simp
  | a :: r, h, y => by
    have h1 := (List.pairwise_cons.mp h).1
    have ih := find_srt (p := p) (List.pairwise_cons.mp h).2 y
    rw [List.find?_cons]
    cases e : p a with
    | true =>
      simp only [Option.some.injEq]
      constructor
      · rintro rfl
        exact ⟨List.mem_cons_self, e, fun z hz _ => by
          rcases List.mem_cons.mp hz with rfl | hz
          · exact Int.le_refl _
          · exact Int.le_of_lt (h1 z hz)⟩
      · rintro ⟨hy, hp, hl⟩
        rcases List.mem_cons.mp hy with rfl | hy
        · rfl
        · have := h1 y hy
          have := hl a List.mem_cons_self e
          omega
    | false =>
      simp only [ih]
      constructor
      · rintro ⟨hy, hp, hl⟩
        exact ⟨List.mem_cons_of_mem _ hy, hp, fun z hz hpz => by
          rcases List.mem_cons.mp hz with rfl | hz
          · rw [e] at hpz; cases hpz
          · exact hl z hz hpz⟩
      · rintro ⟨hy, hp, hl⟩
        rcases List.mem_cons.mp hy with rfl | hy
        · rw [e] at hp; cases hp
        · exact ⟨hy, hp, fun z hz => hl z (List.mem_cons_of_mem _ hz)⟩
theorem find_non {p : Int → Bool} {S : List Int} : S.find? p = none ↔ ∀ z ∈ S, p z = false := by
  rw [List.find?_eq_none]
  constructor
  · intro h z hz
    exact Bool.eq_false_iff.mpr (h z hz)
  · intro h z hz
    exact Bool.eq_false_iff.mp (h z hz)
theorem last_srt : ∀ {S : List Int}, Srt S → ∀ y, (S.getLast? = some y ↔ y ∈ S ∧ ∀ z ∈ S, z ≤ y)
  | [], _, y => by simp
  | [a], _, y => by simp; grind
  | a :: b :: r, h, y => by
    have h1 := (List.pairwise_cons.mp h).1
    have ih := last_srt (List.pairwise_cons.mp h).2 y
    rw [List.getLast?_cons_cons, ih]
    constructor
    · rintro ⟨hy, hl⟩
      refine ⟨List.mem_cons_of_mem _ hy, fun z hz => ?_⟩
      rcases List.mem_cons.mp hz with rfl | hz
      · exact Int.le_of_lt (h1 y hy)
      · exact hl z hz
    · rintro ⟨hy, hl⟩
      rcases List.mem_cons.mp hy with rfl | hy
      · have := h1 b List.mem_cons_self
        have := hl b (List.mem_cons_of_mem _ List.mem_cons_self)
        omega
      · exact ⟨hy, fun z hz => hl z (List.mem_cons_of_mem _ hz)⟩
theorem srt_filter {S : List Int} (h : Srt S) (p : Int → Bool) : Srt (S.filter p) := List.Pairwise.filter p h
theorem srt_nodup {S : List Int} (h : Srt S) : S.Nodup := List.Pairwise.imp (fun h => Int.ne_of_lt h) h
/-- two rising lists of the same members are one -/
theorem srt_ext : ∀ {A B : List Int}, Srt A → Srt B → (∀ x, x ∈ A ↔ x ∈ B) → A = B
  | [], [], _, _, _ => rfl
  | [], b :: s, _, _, h => by have := (h b).mpr List.mem_cons_self; simp at this
  | a :: r, [], _, _, h => by have := (h a).mp List.mem_cons_self; simp at this
  | a :: r, b :: s, ha, hb, h => by
    have a1 := (List.pairwise_cons.mp ha).1
    have b1 := (List.pairwise_cons.mp hb).1
    have e : a = b := by
      have x1 := (h a).mp List.mem_cons_self
      have x2 := (h b).mpr List.mem_cons_self
      rcases List.mem_cons.mp x1 with q | q
      · exact q
      · rcases List.mem_cons.mp x2 with q2 | q2
        · exact q2.symm
        · have := b1 a q; have := a1 b q2; omega
    subst e
    refine congrArg (a :: ·) (srt_ext (List.pairwise_cons.mp ha).2 (List.pairwise_cons.mp hb).2 fun x => ?_)
    have hx := h x
    constructor
    · intro hm
      rcases List.mem_cons.mp (hx.mp (List.mem_cons_of_mem _ hm)) with q | q
      · have := a1 x hm; omega
      · exact q
    · intro hm
      rcases List.mem_cons.mp (hx.mpr (List.mem_cons_of_mem _ hm)) with q | q
      · have := b1 x hm; omega
      · exact q

/-! ### what is told of a row S, by blocks of c numbers each -/
def St (c : Int) (S : List Int) (k : Int) : Prop := k ∈ S ∧ ∀ z ∈ S, z < k → z / c ≠ k / c
instance {c : Int} {S : List Int} {k : Int} : Decidable (St c S k) := by unfold St; exact inferInstance
def lv (c : Int) (S : List Int) : List Int := S.filter fun k => decide (St c S k)
def nx (c : Int) (S : List Int) (k : Int) : Option Int := S.find? fun z => decide (k / c < z / c)
def gp (c : Int) (S : List Int) (k : Int) : Nat := S.countP fun z => decide (z / c = k / c)
def rk (S : List Int) (n : Int) : Nat := S.countP fun z => decide (z < n)
def bel (S : List Int) (n : Int) : Option Int := (S.filter fun z => decide (z < n)).getLast?
def abv (S : List Int) (n : Int) : Option Int := S.find? fun z => decide (n < z)
def hd (c : Int) (S : List Int) (k : Int) : Option Int := S.find? fun z => decide (z / c = k / c)
def ins (S : List Int) (n : Int) : List Int := (S.filter fun z => decide (z < n)) ++ n :: (S.filter fun z => decide (n < z))
def del (S : List Int) (n : Int) : List Int := S.filter fun z => decide (z ≠ n)

theorem nx_some {c : Int} {S : List Int} (h : Srt S) {k y : Int} : nx c S k = some y ↔ y ∈ S ∧ k / c < y / c ∧ ∀ z ∈ S, k / c < z / c → y ≤ z := by
  unfold nx; rw [find_srt h]; simp
theorem nx_none {c : Int} {S : List Int} {k : Int} : nx c S k = none ↔ ∀ z ∈ S, z / c ≤ k / c := by
  unfold nx; rw [find_non]; simp
theorem abv_some {S : List Int} (h : Srt S) {k y : Int} : abv S k = some y ↔ y ∈ S ∧ k < y ∧ ∀ z ∈ S, k < z → y ≤ z := by
  unfold abv; rw [find_srt h]; simp
theorem abv_none {S : List Int} {k : Int} : abv S k = none ↔ ∀ z ∈ S, z ≤ k := by
  unfold abv; rw [find_non]; simp
theorem hd_some {c : Int} {S : List Int} (h : Srt S) {k y : Int} : hd c S k = some y ↔ y ∈ S ∧ y / c = k / c ∧ ∀ z ∈ S, z / c = k / c → y ≤ z := by
  unfold hd; rw [find_srt h]; simp
theorem hd_none {c : Int} {S : List Int} {k : Int} : hd c S k = none ↔ ∀ z ∈ S, ¬ z / c = k / c := by
  unfold hd; rw [find_non]; simp
theorem bel_some {S : List Int} (h : Srt S) {k y : Int} : bel S k = some y ↔ y ∈ S ∧ y < k ∧ ∀ z ∈ S, z < k → z ≤ y := by
  unfold bel; rw [last_srt (srt_filter h _)]; simp; grind
theorem bel_none {S : List Int} {k : Int} : bel S k = none ↔ ∀ z ∈ S, k ≤ z := by
  unfold bel; rw [List.getLast?_eq_none_iff, List.filter_eq_nil_iff]; simp
theorem mem_ins {S : List Int} {n z : Int} : z ∈ ins S n ↔ z = n ∨ z ∈ S := by
  unfold ins; simp only [List.mem_append, List.mem_filter, List.mem_cons, decide_eq_true_eq]
  constructor
  · rintro (h | h | h)
    · exact .inr h.1
    · exact .inl h
    · exact .inr h.1
  · rintro (h | h)
    · exact .inr (.inl h)
    · rcases Int.lt_trichotomy z n with q | q | q
      · exact .inl ⟨h, q⟩
      · exact .inr (.inl q)
      · exact .inr (.inr ⟨h, q⟩)
theorem mem_del {S : List Int} {n z : Int} : z ∈ del S n ↔ z ∈ S ∧ z ≠ n := by unfold del; simp
theorem srt_ins {S : List Int} (h : Srt S) (n : Int) : Srt (ins S n) := by
  unfold ins
  refine List.pairwise_append.mpr ⟨srt_filter h _, List.pairwise_cons.mpr ⟨fun z hz => ?_, srt_filter h _⟩, fun a ha b hb => ?_⟩
  · exact of_decide_eq_true (List.mem_filter.mp hz).2
  · have h1 : a < n := of_decide_eq_true (List.mem_filter.mp ha).2
    rcases List.mem_cons.mp hb with rfl | hb
    · exact h1
    · have h2 : n < b := of_decide_eq_true (List.mem_filter.mp hb).2
      omega
theorem srt_del {S : List Int} (h : Srt S) (n : Int) : Srt (del S n) := srt_filter h _
/-- counting in a row with one more -/
theorem count_ins {S : List Int} (h : Srt S) {n : Int} (hn : n ∉ S) (p : Int → Bool) : (ins S n).countP p = S.countP p + (if p n = true then 1 else 0) := by
  have key : ∀ {S : List Int}, n ∉ S → (S.filter fun z => decide (z < n)).countP p + (S.filter fun z => decide (n < z)).countP p = S.countP p := by
    intro S
    induction S with
    | nil => intro _; rfl
    | cons a r ih =>
      intro hn
      have hr := ih fun m => hn (List.mem_cons_of_mem _ m)
      have ha : a ≠ n := fun e => hn (e ▸ List.mem_cons_self)
      rw [List.filter_cons, List.filter_cons, List.countP_cons]
      by_cases q : a < n
      · have q2 : ¬ n < a := by omega
        simp only [q, q2, decide_true, decide_false, if_true, Bool.false_eq_true, if_false, List.countP_cons]
        omega
      · have q2 : n < a := by omega
        simp only [q, q2, decide_true, decide_false, if_true, Bool.false_eq_true, if_false, List.countP_cons]
        omega
  unfold ins
  rw [List.countP_append, List.countP_cons, ← key hn]
  omega
theorem ins_del {S : List Int} (h : Srt S) {n : Int} (hn : n ∈ S) : ins (del S n) n = S := srt_ext (srt_ins (srt_del h n) n) h fun x => by
  rw [mem_ins, mem_del]
  constructor
  · rintro (rfl | h)
    · exact hn
    · exact h.1
  · intro hx
    by_cases e : x = n
    · exact .inl e
    · exact .inr ⟨hx, e⟩
theorem del_ins {S : List Int} (h : Srt S) {n : Int} (hn : n ∉ S) : del (ins S n) n = S := srt_ext (srt_del (srt_ins h n) n) h fun x => by
  rw [mem_del, mem_ins]
  constructor
  · rintro ⟨h | h, e⟩
    · exact absurd h e
    · exact h
  · intro hx
    exact ⟨.inr hx, fun e => hn (e ▸ hx)⟩
theorem len_ins {S : List Int} (h : Srt S) {n : Int} (hn : n ∉ S) : (ins S n).length = S.length + 1 := by
  have q := count_ins h hn fun _ => true
  simp only [if_true, List.countP_true] at q
  exact q
theorem len_del {S : List Int} (h : Srt S) {n : Int} (hn : n ∈ S) : (del S n).length + 1 = S.length := by
  have q := len_ins (srt_del h n) (n := n) (fun m => (mem_del.mp m).2 rfl)
  rw [ins_del h hn] at q
  omega
/-- a count in two parts -/
theorem count_two {S : List Int} {p q r : Int → Bool} (h : ∀ z ∈ S, p z = (q z || r z)) (d : ∀ z ∈ S, q z = true → r z = false) : S.countP p = S.countP q + S.countP r := by
  induction S with
  | nil => rfl
  | cons a s ih =>
    have ih := ih (fun z hz => h z (List.mem_cons_of_mem _ hz)) fun z hz => d z (List.mem_cons_of_mem _ hz)
    rw [List.countP_cons, List.countP_cons, List.countP_cons, ih]
    have h1 := h a List.mem_cons_self
    have d1 := d a List.mem_cons_self
    cases e1 : q a <;> cases e2 : r a <;> rw [e1, e2] at h1 <;> simp_all <;> omega
theorem count_le {S : List Int} {p q : Int → Bool} (h : ∀ z ∈ S, p z = true → q z = true) : S.countP p ≤ S.countP q := by
  exact List.countP_mono_left h
theorem count_same {S : List Int} {p q : Int → Bool} (h : ∀ z ∈ S, p z = q z) : S.countP p = S.countP q := by
  exact List.countP_congr fun z hz => by rw [h z hz]
theorem div_le {a b c : Int} (hc : 0 < c) (h : a ≤ b) : a / c ≤ b / c := Int.ediv_le_ediv hc h
theorem lt_of_div {a b c : Int} (hc : 0 < c) (h : a / c < b / c) : a < b := by
  rcases Int.lt_or_le a b with q | q
  · exact q
  · have := div_le hc q; omega
end Sk

namespace Sk
def nA (c : Int) (S : List Int) (k : Int) : Option (Option Int) := if St c S k then some (nx c S k) else none
def gA (c : Int) (S : List Int) (k : Int) : Option Int := if St c S k then some (gp c S k : Int) else none
def bf (c : Int) (S : List Int) (n : Int) : Option Int := (bel S n).bind (hd c S)
theorem lt_or {a b : Int} (h : a ≠ b) : a < b ∨ b < a := Int.lt_or_gt_of_ne h

theorem bf_some {c : Int} {S : List Int} (hc : 0 < c) (h : Srt S) {n b : Int} : bf c S n = some b ↔ St c S b ∧ b < n ∧ ∀ y, St c S y → y < n → y ≤ b := by
  unfold bf
  rw [Option.bind_eq_some_iff]
  constructor
  · rintro ⟨z, hz, hb⟩
    obtain ⟨z1, z2, z3⟩ := (bel_some h).mp hz
    obtain ⟨b1, b2, b3⟩ := (hd_some h).mp hb
    have bz := b3 z z1 rfl
    refine ⟨⟨b1, fun y hy hlt e => ?_⟩, by omega, fun y hy hlt => ?_⟩
    · have := b3 y hy (by omega); omega
    · have q1 := z3 y hy.1 hlt
      rcases Int.lt_or_le b y with q | q
      · have d1 := div_le hc (Int.le_of_lt q)
        have d2 := div_le hc q1
        exact absurd (by omega) (hy.2 b b1 q)
      · exact q
  · rintro ⟨hb, hlt, hm⟩
    cases e : bel S n with
    | none => have := bel_none.mp e b hb.1; omega
    | some z =>
      obtain ⟨z1, z2, z3⟩ := (bel_some h).mp e
      refine ⟨z, rfl, ?_⟩
      cases e2 : hd c S z with
      | none => exact absurd rfl (hd_none.mp e2 z z1)
      | some x =>
        obtain ⟨x1, x2, x3⟩ := (hd_some h).mp e2
        have xz := x3 z z1 rfl
        have hx : St c S x := ⟨x1, fun y hy hl e => by have := x3 y hy (by omega); omega⟩
        have q1 := hm x hx (by omega)
        have q2 := z3 b hb.1 hlt
        have d1 := div_le hc q1
        have d2 := div_le hc q2
        have q3 := x3 b hb.1 (by omega)
        rcases Int.lt_or_le x b with q | q
        · exact absurd (by omega) (hb.2 x x1 q)
        · exact congrArg some (by omega)
theorem bf_none {c : Int} {S : List Int} {n : Int} : bf c S n = none ↔ bel S n = none := by
  unfold bf
  rw [Option.bind_eq_none_iff]
  constructor
  · intro hh
    cases e : bel S n with
    | none => rfl
    | some z =>
      have hz : z ∈ S := (List.mem_filter.mp (List.mem_of_getLast? e)).1
      exact absurd rfl (hd_none.mp (hh z e) z hz)
  · intro e z hz
    rw [e] at hz; cases hz

theorem st_nx {c : Int} {S : List Int} (hc : 0 < c) (h : Srt S) {k y : Int} (e : nx c S k = some y) : St c S y := by
  obtain ⟨y1, y2, y3⟩ := (nx_some h).mp e
  exact ⟨y1, fun z hz hl q => by have := y3 z hz (by omega); omega⟩
theorem nx_lt {c : Int} {S : List Int} (hc : 0 < c) (h : Srt S) {k y : Int} (e : nx c S k = some y) : k < y := lt_of_div hc ((nx_some h).mp e).2.1
theorem rk_nx {c : Int} {S : List Int} (hc : 0 < c) (h : Srt S) {k y : Int} (hk : St c S k) (e : nx c S k = some y) : rk S y = rk S k + gp c S k := by
  obtain ⟨y1, y2, y3⟩ := (nx_some h).mp e
  have ky := lt_of_div hc y2
  refine count_two (fun z hz => ?_) fun z hz q => ?_
  · rw [← Bool.decide_or, decide_eq_decide]
    constructor
    · intro q
      rcases Int.lt_or_le z k with q2 | q2
      · exact .inl q2
      · have d1 := div_le hc q2
        rcases Int.lt_or_le (k / c) (z / c) with q3 | q3
        · have := y3 z hz q3; omega
        · exact .inr (by omega)
    · rintro (q | q)
      · omega
      · rcases Int.lt_or_le z y with q2 | q2
        · exact q2
        · have := div_le hc q2; omega
  · have q' : z < k := of_decide_eq_true q
    exact decide_eq_false (hk.2 z hz q')
/-- the gap of the last one: all from it on -/
theorem rk_end {c : Int} {S : List Int} (hc : 0 < c) (h : Srt S) {k : Int} (hk : St c S k) (e : nx c S k = none) : S.length = rk S k + gp c S k := by
  have e' := nx_none.mp e
  have e0 : S.countP (fun _ => true) = S.length := congrFun List.countP_true S
  rw [← e0]
  refine count_two (fun z hz => ?_) fun z hz q => ?_
  · rw [← Bool.decide_or]
    refine (decide_eq_true ?_).symm
    rcases Int.lt_or_le z k with q2 | q2
    · exact .inl q2
    · have d1 := div_le hc q2
      have := e' z hz
      exact .inr (by omega)
  · have q' : z < k := of_decide_eq_true q
    exact decide_eq_false (hk.2 z hz q')
theorem bf_of {c : Int} {S : List Int} (hc : 0 < c) (h : Srt S) {k n : Int} (hk : St c S k) (hl : k < n) (hn : ∀ y, nx c S k = some y → n ≤ y) : bf c S n = some k := by
  refine (bf_some hc h).mpr ⟨hk, hl, fun y hy hyl => ?_⟩
  rcases Int.lt_or_le k y with q | q
  · have d1 := div_le hc (Int.le_of_lt q)
    have q2 : k / c < y / c := by have := hy.2 k hk.1 q; omega
    cases e : nx c S k with
    | none => have := nx_none.mp e y hy.1; omega
    | some z =>
      have := hn z e
      have := ((nx_some h).mp e).2.2 y hy.1 q2
      omega
  · exact q
theorem div_mul {a c d : Int} (hc : 0 < c) : a / (c * d) = a / c / d := (Int.ediv_ediv_of_nonneg (Int.le_of_lt hc)).symm
theorem st_down {c d : Int} {S : List Int} (hc : 0 < c) {k : Int} (h : St (c * d) S k) : St c S k := ⟨h.1, fun z hz hl e => h.2 z hz hl (by rw [div_mul hc, div_mul hc, e])⟩
theorem st_least {c : Int} {S : List Int} (h : Srt S) {a : Int} (e : S.head? = some a) : St c S a := by
  cases S with
  | nil => cases e
  | cons b r =>
    have e' : b = a := Option.some.inj e
    subst e'
    refine ⟨List.mem_cons_self, fun z hz hl => ?_⟩
    rcases List.mem_cons.mp hz with rfl | hz
    · omega
    · have := (List.pairwise_cons.mp h).1 z hz; omega
theorem head_le {S : List Int} (h : Srt S) {a : Int} (e : S.head? = some a) : ∀ z ∈ S, a ≤ z := by
  cases S with
  | nil => cases e
  | cons b r =>
    have e' : b = a := Option.some.inj e
    subst e'
    intro z hz
    rcases List.mem_cons.mp hz with rfl | hz
    · exact Int.le_refl _
    · exact Int.le_of_lt ((List.pairwise_cons.mp h).1 z hz)
theorem head_mem {S : List Int} {a : Int} (e : S.head? = some a) : a ∈ S := List.mem_of_head? e
theorem rk_least {S : List Int} (h : Srt S) {a : Int} (e : S.head? = some a) : rk S a = 0 := by
  unfold rk
  rw [List.countP_eq_zero]
  intro z hz
  have := head_le h e z hz
  simp; omega

/-! ### one more number -/
section
variable {c : Int} {S : List Int} {n : Int} (hc : 0 < c) (h : Srt S) (hn : n ∉ S)
include hc h hn
theorem st_ins_n : St c (ins S n) n ↔ ∀ z, bel S n = some z → z / c ≠ n / c := by
  constructor
  · intro q z hz
    obtain ⟨z1, z2, z3⟩ := (bel_some h).mp hz
    exact q.2 z (mem_ins.mpr (.inr z1)) z2
  · intro q
    refine ⟨mem_ins.mpr (.inl rfl), fun z hz hl e => ?_⟩
    rcases mem_ins.mp hz with rfl | hz
    · omega
    · cases eb : bel S n with
      | none => have := bel_none.mp eb z hz; omega
      | some y =>
        obtain ⟨y1, y2, y3⟩ := (bel_some h).mp eb
        have := y3 z hz hl
        have d1 := div_le hc this
        have d2 := div_le hc (Int.le_of_lt y2)
        exact q y eb (by omega)
theorem st_ins_k {k : Int} (hk : k ≠ n) : St c (ins S n) k ↔ St c S k ∧ ¬ (n < k ∧ n / c = k / c) := by
  unfold St
  simp only [mem_ins]
  constructor
  · rintro ⟨h1, h2⟩
    exact ⟨⟨h1.resolve_left hk, fun z hz => h2 z (.inr hz)⟩, fun q => h2 n (.inl rfl) q.1 q.2⟩
  · rintro ⟨⟨h1, h2⟩, h3⟩
    refine ⟨.inr h1, fun z hz hl e => ?_⟩
    rcases hz with rfl | hz
    · exact h3 ⟨hl, e⟩
    · exact h2 z hz hl e
theorem gp_ins {k : Int} : gp c (ins S n) k = gp c S k + (if n / c = k / c then 1 else 0) := by
  unfold gp
  rw [count_ins h hn]
  simp
/-- the next one behind k, once n is there -/
theorem nx_ins_lt {k : Int} (q : k / c < n / c) : nx c (ins S n) k = match nx c S k with | some y => if n < y then some n else some y | none => some n := by
  have h' := srt_ins h n
  cases e : nx c S k with
  | none =>
    have e' := nx_none.mp e
    refine (nx_some h').mpr ⟨mem_ins.mpr (.inl rfl), q, fun z hz hl => ?_⟩
    rcases mem_ins.mp hz with rfl | hz
    · exact Int.le_refl _
    · have := e' z hz; omega
  | some y =>
    obtain ⟨y1, y2, y3⟩ := (nx_some h).mp e
    by_cases q2 : n < y
    · simp only [q2, if_true]
      refine (nx_some h').mpr ⟨mem_ins.mpr (.inl rfl), q, fun z hz hl => ?_⟩
      rcases mem_ins.mp hz with rfl | hz
      · exact Int.le_refl _
      · have := y3 z hz hl; omega
    · simp only [q2, if_false]
      refine (nx_some h').mpr ⟨mem_ins.mpr (.inr y1), y2, fun z hz hl => ?_⟩
      rcases mem_ins.mp hz with rfl | hz
      · omega
      · exact y3 z hz hl
theorem nx_ins_ge {k : Int} (q : ¬ k / c < n / c) : nx c (ins S n) k = nx c S k := by
  have h' := srt_ins h n
  cases e : nx c S k with
  | none =>
    have e' := nx_none.mp e
    refine nx_none.mpr fun z hz => ?_
    rcases mem_ins.mp hz with rfl | hz
    · omega
    · exact e' z hz
  | some y =>
    obtain ⟨y1, y2, y3⟩ := (nx_some h).mp e
    refine (nx_some h').mpr ⟨mem_ins.mpr (.inr y1), y2, fun z hz hl => ?_⟩
    rcases mem_ins.mp hz with rfl | hz
    · omega
    · exact y3 z hz hl
theorem nx_n {k : Int} : nx c (ins S n) n = nx c S n := nx_ins_ge hc h hn (Int.lt_irrefl _)
omit hc h hn in
theorem nx_blk {k j : Int} (e : k / c = j / c) : nx c S k = nx c S j := by unfold nx; rw [e]
omit hc h hn in
theorem gp_blk {k j : Int} (e : k / c = j / c) : gp c S k = gp c S j := by unfold gp; rw [e]
/-- n does not stand: it joins the block of b -/
theorem put_stay {b : Int} (hb : bf c S n = some b) (hs : ¬ St c (ins S n) n) : (∀ k, nA c (ins S n) k = nA c S k) ∧ (∀ k, gA c (ins S n) k = if k = b then some ((gp c S b : Int) + 1) else gA c S k) ∧ St c S b := by
  obtain ⟨b1, b2, b3⟩ := (bf_some hc h).mp hb
  have hbn : b / c = n / c := by
    have hex : ∃ z, bel S n = some z ∧ z / c = n / c := by
      cases e : bel S n with
      | none => exact absurd ((st_ins_n hc h hn).mpr fun z hz => by rw [e] at hz; cases hz) hs
      | some z =>
        refine ⟨z, rfl, ?_⟩
        rcases Decidable.em (z / c = n / c) with q | q
        · exact q
        · exact absurd ((st_ins_n hc h hn).mpr fun y hy => by rw [e] at hy; cases hy; exact q) hs
    obtain ⟨z, hz, hzn⟩ := hex
    unfold bf at hb
    rw [hz] at hb
    have := ((hd_some h).mp (show hd c S z = some b from hb)).2.1
    omega
  have stn : ¬ St c S n := fun q => hn q.1
  refine ⟨fun k => ?_, fun k => ?_, b1⟩
  · unfold nA
    by_cases e : k = n
    · subst e; rw [if_neg hs, if_neg stn]
    · have hk := st_ins_k hc h hn e
      by_cases s : St c S k
      · have nn : ¬ (n < k ∧ n / c = k / c) := fun q => s.2 b b1.1 (by omega) (by omega)
        rw [if_pos s, if_pos (hk.mpr ⟨s, nn⟩)]
        by_cases q : k / c < n / c
        · rw [nx_ins_lt hc h hn q]
          cases e2 : nx c S k with
          | none => have := nx_none.mp e2 b b1.1; omega
          | some y =>
            have := ((nx_some h).mp e2).2.2 b b1.1 (by omega)
            have q2 : ¬ n < y := by omega
            simp only [q2, if_false]
        · rw [nx_ins_ge hc h hn q]
      · rw [if_neg s, if_neg fun q => s (hk.mp q).1]
  · unfold gA
    by_cases e : k = n
    · subst e; rw [if_neg hs, if_neg stn, if_neg (by omega)]
    · have hk := st_ins_k hc h hn e
      by_cases e2 : k = b
      · subst e2
        rw [if_pos (hk.mpr ⟨b1, by omega⟩), if_pos rfl, gp_ins hc h hn, if_pos hbn.symm]
        rfl
      · rw [if_neg e2]
        by_cases s : St c S k
        · have nn : ¬ (n < k ∧ n / c = k / c) := fun q => s.2 b b1.1 (by omega) (by omega)
          have ne : ¬ n / c = k / c := fun q => by
            rcases lt_or e2 with q2 | q2
            · exact b1.2 k s.1 q2 (by omega)
            · exact s.2 b b1.1 q2 (by omega)
          rw [if_pos s, if_pos (hk.mpr ⟨s, nn⟩), gp_ins hc h hn, if_neg ne]
          rfl
        · rw [if_neg s, if_neg fun q => s (hk.mp q).1]
/-- n comes and stands for a, the next one in its block -/
theorem put_old {a : Int} (hs : St c (ins S n) n) (ha : abv S n = some a) (e : a / c = n / c) :
    St c S a ∧ (∀ k, nA c (ins S n) k = if bf c S n = some k then some (some n) else if k = n then some (nx c S a) else if k = a then none else nA c S k) ∧
    (∀ k, gA c (ins S n) k = if k = n then some ((gp c S a : Int) + 1) else if k = a then none else gA c S k) ∧ (∀ b, bf c S n = some b → nA c S b = some (some a)) := by
  obtain ⟨a1, a2, a3⟩ := (abv_some h).mp ha
  have sa : St c S a := by
    refine ⟨a1, fun z hz hl q => ?_⟩
    have zn : z ≠ n := fun q => hn (q ▸ hz)
    rcases lt_or zn with q2 | q2
    · exact hs.2 z (mem_ins.mpr (.inr hz)) q2 (by omega)
    · have := a3 z hz q2; omega
  have bfb : ∀ b, bf c S n = some b → b / c < n / c ∧ nx c S b = some a := fun b hb => by
    obtain ⟨b1, b2, b3⟩ := (bf_some hc h).mp hb
    have d := div_le hc (Int.le_of_lt b2)
    have ne := hs.2 b (mem_ins.mpr (.inr b1.1)) b2
    refine ⟨by omega, (nx_some h).mpr ⟨a1, by omega, fun z hz hl => ?_⟩⟩
    have zn : z ≠ n := fun q => hn (q ▸ hz)
    rcases lt_or zn with q2 | q2
    · have := lt_of_div hc hl
      -- z in (b, n): its head stands and is below n
      cases eh : hd c S z with
      | none => exact absurd rfl (hd_none.mp eh z hz)
      | some x =>
        obtain ⟨x1, x2, x3⟩ := (hd_some h).mp eh
        have xz := x3 z hz rfl
        have sx : St c S x := ⟨x1, fun y hy hl e => by have := x3 y hy (by omega); omega⟩
        have := b3 x sx (by omega)
        have := div_le hc this
        omega
    · exact a3 z hz q2
  refine ⟨sa, fun k => ?_, fun k => ?_, fun b hb => ?_⟩
  · unfold nA
    by_cases hb : bf c S n = some k
    · rw [if_pos hb]
      obtain ⟨q1, q2⟩ := bfb k hb
      obtain ⟨b1, b2, b3⟩ := (bf_some hc h).mp hb
      rw [if_pos ((st_ins_k hc h hn (by omega)).mpr ⟨b1, by omega⟩), nx_ins_lt hc h hn q1, q2]
      simp only [a2, if_true]
    · rw [if_neg hb]
      by_cases e1 : k = n
      · subst e1
        rw [if_pos hs, if_pos rfl, nx_n hc h hn (k := k), nx_blk e.symm]
      · rw [if_neg e1]
        have hk := st_ins_k hc h hn e1
        by_cases e2 : k = a
        · subst e2
          rw [if_pos rfl, if_neg fun q => (hk.mp q).2 ⟨a2, e.symm⟩]
        · rw [if_neg e2]
          by_cases s : St c S k
          · have nn : ¬ (n / c = k / c) := fun q => by
              rcases lt_or e2 with q2 | q2
              · exact sa.2 k s.1 q2 (by omega)
              · exact s.2 a a1 q2 (by omega)
            rw [if_pos s, if_pos (hk.mpr ⟨s, fun q => nn q.2⟩)]
            by_cases q : k / c < n / c
            · rw [nx_ins_lt hc h hn q]
              cases e3 : nx c S k with
              | none => have := nx_none.mp e3 a a1; omega
              | some y =>
                by_cases q2 : n < y
                · exfalso
                  refine hb (bf_of hc h s (lt_of_div hc q) fun z hz => ?_)
                  rw [e3] at hz; cases hz; omega
                · simp only [q2, if_false]
            · rw [nx_ins_ge hc h hn q]
          · rw [if_neg s, if_neg fun q => s (hk.mp q).1]
  · unfold gA
    by_cases e1 : k = n
    · subst e1
      rw [if_pos hs, if_pos rfl, gp_ins hc h hn, if_pos rfl, gp_blk e.symm]
      rfl
    · rw [if_neg e1]
      have hk := st_ins_k hc h hn e1
      by_cases e2 : k = a
      · subst e2
        rw [if_pos rfl, if_neg fun q => (hk.mp q).2 ⟨a2, e.symm⟩]
      · rw [if_neg e2]
        by_cases s : St c S k
        · have nn : ¬ (n / c = k / c) := fun q => by
            rcases lt_or e2 with q2 | q2
            · exact sa.2 k s.1 q2 (by omega)
            · exact s.2 a a1 q2 (by omega)
          rw [if_pos s, if_pos (hk.mpr ⟨s, fun q => nn q.2⟩), gp_ins hc h hn, if_neg nn]
          rfl
        · rw [if_neg s, if_neg fun q => s (hk.mp q).1]
  · unfold nA
    rw [if_pos ((bf_some hc h).mp hb).1, (bfb b hb).2]
/-- n comes as a block of its own -/
theorem put_new (hs : St c (ins S n) n) (ha : ∀ a, abv S n = some a → a / c ≠ n / c) :
    (∀ k, nA c (ins S n) k = if bf c S n = some k then some (some n) else if k = n then some (match bf c S n with | some b => nx c S b | none => S.head?) else nA c S k) ∧
    (∀ k, gA c (ins S n) k = if k = n then some 1 else gA c S k) ∧ (∀ b, bf c S n = some b → St c S b ∧ (gp c S b : Int) = (rk S n : Int) - rk S b) := by
  have alone : ∀ z ∈ S, z / c ≠ n / c := fun z hz q => by
    have zn : z ≠ n := fun q => hn (q ▸ hz)
    rcases lt_or zn with q2 | q2
    · exact hs.2 z (mem_ins.mpr (.inr hz)) q2 q
    · cases e : abv S n with
      | none => have := abv_none.mp e z hz; omega
      | some a =>
        obtain ⟨a1, a2, a3⟩ := (abv_some h).mp e
        have := a3 z hz q2
        have d1 := div_le hc this
        have d2 := div_le hc (Int.le_of_lt a2)
        exact ha a e (by omega)
  have bfb : ∀ b, bf c S n = some b → b / c < n / c ∧ ∀ z ∈ S, b / c < z / c → n < z := fun b hb => by
    obtain ⟨b1, b2, b3⟩ := (bf_some hc h).mp hb
    have d := div_le hc (Int.le_of_lt b2)
    have ne := hs.2 b (mem_ins.mpr (.inr b1.1)) b2
    refine ⟨by omega, fun z hz hl => ?_⟩
    have zn : z ≠ n := fun q => hn (q ▸ hz)
    rcases lt_or zn with q2 | q2
    · cases eh : hd c S z with
      | none => exact absurd rfl (hd_none.mp eh z hz)
      | some x =>
        obtain ⟨x1, x2, x3⟩ := (hd_some h).mp eh
        have xz := x3 z hz rfl
        have sx : St c S x := ⟨x1, fun y hy hl e => by have := x3 y hy (by omega); omega⟩
        have := b3 x sx (by omega)
        have := div_le hc this
        omega
    · exact q2
  have g0 : gp c S n = 0 := by
    unfold gp
    rw [List.countP_eq_zero]
    intro z hz
    simp only [decide_eq_true_eq]
    exact alone z hz
  refine ⟨fun k => ?_, fun k => ?_, fun b hb => ?_⟩
  · unfold nA
    by_cases hb : bf c S n = some k
    · rw [if_pos hb]
      obtain ⟨q1, q2⟩ := bfb k hb
      obtain ⟨b1, b2, b3⟩ := (bf_some hc h).mp hb
      rw [if_pos ((st_ins_k hc h hn (by omega)).mpr ⟨b1, by omega⟩), nx_ins_lt hc h hn q1]
      cases e3 : nx c S k with
      | none => rfl
      | some y =>
        obtain ⟨y1, y2, y3⟩ := (nx_some h).mp e3
        have := q2 y y1 y2
        simp only [this, if_true]
    · rw [if_neg hb]
      by_cases e1 : k = n
      · subst e1
        rw [if_pos hs, if_pos rfl, nx_n hc h hn (k := k)]
        refine congrArg some ?_
        cases eb : bf c S k with
        | none =>
          have e0 := bel_none.mp (bf_none.mp eb)
          show nx c S k = S.head?
          cases e5 : S.head? with
          | none =>
            have : S = [] := List.head?_eq_none_iff.mp e5
            subst this
            rfl
          | some a =>
            refine (nx_some h).mpr ⟨head_mem e5, ?_, fun z hz _ => head_le h e5 z hz⟩
            have d := div_le hc (e0 a (head_mem e5))
            have := alone a (head_mem e5)
            omega
        | some b =>
          obtain ⟨q1, q2⟩ := bfb b eb
          show nx c S k = nx c S b
          cases e5 : nx c S b with
          | none =>
            have e6 := nx_none.mp e5
            refine nx_none.mpr fun z hz => ?_
            have := e6 z hz
            omega
          | some y =>
            obtain ⟨y1, y2, y3⟩ := (nx_some h).mp e5
            have l := q2 y y1 y2
            have d := div_le hc (Int.le_of_lt l)
            have := alone y y1
            exact (nx_some h).mpr ⟨y1, by omega, fun z hz hl => y3 z hz (by omega)⟩
      · rw [if_neg e1]
        have hk := st_ins_k hc h hn e1
        by_cases s : St c S k
        · have nn := alone k s.1
          rw [if_pos s, if_pos (hk.mpr ⟨s, fun q => nn q.2.symm⟩)]
          by_cases q : k / c < n / c
          · rw [nx_ins_lt hc h hn q]
            cases e3 : nx c S k with
            | none =>
              exfalso
              refine hb (bf_of hc h s (lt_of_div hc q) fun z hz => ?_)
              rw [e3] at hz; cases hz
            | some y =>
              by_cases q2 : n < y
              · exfalso
                refine hb (bf_of hc h s (lt_of_div hc q) fun z hz => ?_)
                rw [e3] at hz; cases hz; omega
              · simp only [q2, if_false]
          · rw [nx_ins_ge hc h hn q]
        · rw [if_neg s, if_neg fun q => s (hk.mp q).1]
  · unfold gA
    by_cases e1 : k = n
    · subst e1
      rw [if_pos hs, if_pos rfl, gp_ins hc h hn, if_pos rfl, g0]
      rfl
    · rw [if_neg e1]
      have hk := st_ins_k hc h hn e1
      by_cases s : St c S k
      · have nn := alone k s.1
        rw [if_pos s, if_pos (hk.mpr ⟨s, fun q => nn q.2.symm⟩), gp_ins hc h hn, if_neg fun q => nn q.symm]
        rfl
      · rw [if_neg s, if_neg fun q => s (hk.mp q).1]
  · obtain ⟨q1, q2⟩ := bfb b hb
    obtain ⟨b1, b2, b3⟩ := (bf_some hc h).mp hb
    refine ⟨b1, ?_⟩
    have e : rk S n = rk S b + gp c S b := by
      refine count_two (fun z hz => ?_) fun z hz q => ?_
      · rw [← Bool.decide_or, decide_eq_decide]
        constructor
        · intro q
          rcases Int.lt_or_le z b with q3 | q3
          · exact .inl q3
          · have d1 := div_le hc q3
            rcases Int.lt_or_le (b / c) (z / c) with q4 | q4
            · have := q2 z hz q4; omega
            · exact .inr (by omega)
        · rintro (q | q)
          · omega
          · rcases Int.lt_or_le z n with q4 | q4
            · exact q4
            · have := div_le hc q4; omega
      · have q' : z < b := of_decide_eq_true q
        exact decide_eq_false (b1.2 z hz q')
    omega
theorem nA_bf (hs : St c (ins S n) n) {b : Int} (hb : bf c S n = some b) : nA c (ins S n) b = some (some n) := by
  cases e : abv S n with
  | none => rw [(put_new hc h hn hs fun a ha => by rw [e] at ha; cases ha).1 b, if_pos hb]
  | some a =>
    by_cases q : a / c = n / c
    · rw [(put_old hc h hn hs e q).2.1 b, if_pos hb]
    · rw [(put_new hc h hn hs fun x hx => by rw [e] at hx; cases hx; exact q).1 b, if_pos hb]
/-- what lies below n is the same -/
theorem bel_ins : bel (ins S n) n = bel S n := by
  have h' := srt_ins h n
  cases e : bel S n with
  | none =>
    refine bel_none.mpr fun z hz => ?_
    rcases mem_ins.mp hz with rfl | hz
    · exact Int.le_refl _
    · exact bel_none.mp e z hz
  | some y =>
    obtain ⟨y1, y2, y3⟩ := (bel_some h).mp e
    refine (bel_some h').mpr ⟨mem_ins.mpr (.inr y1), y2, fun z hz hl => ?_⟩
    rcases mem_ins.mp hz with rfl | hz
    · omega
    · exact y3 z hz hl
theorem abv_ins : abv (ins S n) n = abv S n := by
  have h' := srt_ins h n
  cases e : abv S n with
  | none =>
    refine abv_none.mpr fun z hz => ?_
    rcases mem_ins.mp hz with rfl | hz
    · exact Int.le_refl _
    · exact abv_none.mp e z hz
  | some y =>
    obtain ⟨y1, y2, y3⟩ := (abv_some h).mp e
    refine (abv_some h').mpr ⟨mem_ins.mpr (.inr y1), y2, fun z hz hl => ?_⟩
    rcases mem_ins.mp hz with rfl | hz
    · omega
    · exact y3 z hz hl
theorem bf_ins : bf c (ins S n) n = bf c S n := by
  have h' := srt_ins h n
  cases e : bf c S n with
  | none => exact bf_none.mpr ((bel_ins hc h hn).trans (bf_none.mp e))
  | some b =>
    obtain ⟨b1, b2, b3⟩ := (bf_some hc h).mp e
    refine (bf_some hc h').mpr ⟨(st_ins_k hc h hn (by omega)).mpr ⟨b1, by omega⟩, b2, fun y hy hl => ?_⟩
    exact b3 y ((st_ins_k hc h hn (by omega)).mp hy).1 hl
end
end Sk

namespace Sk
/-- a row that grows at its end -/
theorem lv_snoc {c : Int} {A : List Int} {x : Int} (hc : 0 < c) (h : Srt (A ++ [x])) : lv c (A ++ [x]) = lv c A ++ (if (∀ y, A.getLast? = some y → y / c ≠ x / c) then [x] else []) := by
  have hA := (List.pairwise_append.mp h).1
  have hx : ∀ a ∈ A, a < x := fun a ha => (List.pairwise_append.mp h).2.2 a ha x (List.mem_singleton.mpr rfl)
  unfold lv
  rw [List.filter_append]
  have e1 : A.filter (fun k => decide (St c (A ++ [x]) k)) = A.filter fun k => decide (St c A k) := by
    refine List.filter_congr fun k hk => ?_
    rw [decide_eq_decide]
    have := hx k hk
    constructor
    · rintro ⟨_, q⟩
      exact ⟨hk, fun z hz hl => q z (List.mem_append_left _ hz) hl⟩
    · rintro ⟨_, q⟩
      refine ⟨List.mem_append_left _ hk, fun z hz hl => ?_⟩
      rcases List.mem_append.mp hz with hz | hz
      · exact q z hz hl
      · have := List.mem_singleton.mp hz; omega
  rw [e1]
  refine congrArg (fun z => List.filter (fun k => decide (St c A k)) A ++ z) ?_
  have e2 : St c (A ++ [x]) x ↔ ∀ y, A.getLast? = some y → y / c ≠ x / c := by
    constructor
    · rintro ⟨_, q⟩ y hy
      have hy' := List.mem_of_getLast? hy
      exact q y (List.mem_append_left _ hy') (hx y hy')
    · intro q
      refine ⟨List.mem_append_right _ (List.mem_singleton.mpr rfl), fun z hz hl e => ?_⟩
      rcases List.mem_append.mp hz with hz | hz
      · cases e3 : A.getLast? with
        | none => rw [List.getLast?_eq_none_iff] at e3; subst e3; cases hz
        | some y =>
          obtain ⟨y1, y2⟩ := (last_srt hA y).mp e3
          have d1 := div_le hc (y2 z hz)
          have d2 := div_le hc (Int.le_of_lt (hx y y1))
          exact q y e3 (by omega)
      · have := List.mem_singleton.mp hz; omega
  rw [List.filter_cons, List.filter_nil]
  by_cases q : St c (A ++ [x]) x
  · rw [if_pos (decide_eq_true q), if_pos (e2.mp q)]
  · rw [if_neg (by simpa using q), if_neg fun z => q (e2.mpr z)]
theorem lv_nil (c : Int) : lv c [] = [] := rfl
theorem lv_len {c : Int} {S : List Int} : (lv c S).length ≤ S.length := List.length_filter_le _ _
theorem lv_mem {c : Int} {S : List Int} {k : Int} : k ∈ lv c S ↔ St c S k := by
  unfold lv
  rw [List.mem_filter, decide_eq_true_eq]
  exact ⟨fun h => h.2, fun h => ⟨h.1, h⟩⟩
theorem srt_lv {c : Int} {S : List Int} (h : Srt S) : Srt (lv c S) := srt_filter h _
theorem srt_take {S : List Int} (h : Srt S) (i : Nat) : Srt (S.take i) := List.Pairwise.sublist (List.take_sublist i S) h
theorem take_snoc {S : List Int} {i : Nat} {x : Int} (e : S[i]? = some x) : S.take (i + 1) = S.take i ++ [x] := by
  rw [List.take_add_one, e]
  rfl
theorem take_last {S : List Int} {i : Nat} (h : i < S.length) : (S.take (i + 1)).getLast? = S[i]? := by
  rw [List.getElem?_eq_getElem h, take_snoc (List.getElem?_eq_getElem h), List.getLast?_concat]
/-- one more of the row is looked at -/
theorem lv_take {c : Int} {S : List Int} (hc : 0 < c) (h : Srt S) {i : Nat} {x : Int} (e : S[i]? = some x) : lv c (S.take (i + 1)) = lv c (S.take i) ++ (if i = 0 ∨ (S.getD (i - 1) 0) / c ≠ x / c then [x] else []) := by
  have h' := srt_take h (i + 1)
  rw [take_snoc e] at h' ⊢
  rw [lv_snoc hc h']
  have e2 : (∀ y, (S.take i).getLast? = some y → y / c ≠ x / c) ↔ (i = 0 ∨ (S.getD (i - 1) 0) / c ≠ x / c) := by
    cases i with
    | zero => simp
    | succ j =>
      have hj : j < S.length := by have := (List.getElem?_eq_some_iff.mp e).1; omega
      rw [take_last hj, List.getElem?_eq_getElem hj, List.getD_eq_getElem?_getD, Nat.add_sub_cancel, List.getElem?_eq_getElem hj]
      simp
  by_cases q : ∀ y, (S.take i).getLast? = some y → y / c ≠ x / c
  · rw [if_pos q, if_pos (e2.mp q)]
  · rw [if_neg q, if_neg fun z => q (e2.mpr z)]
theorem get_lt {S : List Int} (h : Srt S) {i j : Nat} {x y : Int} (hi : S[i]? = some x) (hj : S[j]? = some y) (l : i < j) : x < y := by
  obtain ⟨h1, rfl⟩ := List.getElem?_eq_some_iff.mp hi
  obtain ⟨h2, rfl⟩ := List.getElem?_eq_some_iff.mp hj
  exact (List.pairwise_iff_getElem.mp h) i j h1 h2 l
theorem srt_snoc {A : List Int} {x : Int} (h : Srt A) (hx : ∀ a ∈ A, a < x) : Srt (A ++ [x]) := List.pairwise_append.mpr ⟨h, List.pairwise_singleton _ _, fun a ha b hb => by rw [List.mem_singleton.mp hb]; exact hx a ha⟩
end Sk

namespace Sk
/-- a rising row, cut behind x -/
theorem cut_next {L : List Int} (h : Srt L) {x y : Int} (hx : x ∈ L) (hy : ∀ z ∈ L, z < y ↔ z ≤ x) : L.filter (fun z => decide (z < y)) = L.filter (fun z => decide (z < x)) ++ [x] := by
  refine srt_ext (srt_filter h _) (srt_snoc (srt_filter h _) fun a ha => of_decide_eq_true (List.mem_filter.mp ha).2) fun z => ?_
  rw [List.mem_append, List.mem_filter, List.mem_filter, List.mem_singleton, decide_eq_true_eq, decide_eq_true_eq]
  constructor
  · rintro ⟨h1, h2⟩
    have := (hy z h1).mp h2
    by_cases e : z = x
    · exact .inr e
    · exact .inl ⟨h1, by omega⟩
  · rintro (⟨h1, h2⟩ | rfl)
    · exact ⟨h1, (hy z h1).mpr (by omega)⟩
    · exact ⟨hx, (hy z hx).mpr (Int.le_refl _)⟩
theorem cut_end {L : List Int} (h : Srt L) {x : Int} (hx : x ∈ L) (hy : ∀ z ∈ L, z ≤ x) : L = L.filter (fun z => decide (z < x)) ++ [x] := by
  refine srt_ext h (srt_snoc (srt_filter h _) fun a ha => of_decide_eq_true (List.mem_filter.mp ha).2) fun z => ?_
  rw [List.mem_append, List.mem_filter, List.mem_singleton, decide_eq_true_eq]
  constructor
  · intro h1
    by_cases e : z = x
    · exact .inr e
    · exact .inl ⟨h1, by have := hy z h1; omega⟩
  · rintro (⟨h1, _⟩ | rfl)
    · exact h1
    · exact hx
theorem st_le {c : Int} {S : List Int} (hc : 0 < c) {x z : Int} (hx : St c S x) (hz : St c S z) (l : x < z) : x / c < z / c := by
  have d := div_le hc (Int.le_of_lt l)
  have := hz.2 x hx.1 l
  omega
theorem lv_step {c : Int} {S : List Int} (hc : 0 < c) (h : Srt S) {x y : Int} (hx : St c S x) (e : nx c S x = some y) : (lv c S).filter (fun z => decide (z < y)) = (lv c S).filter (fun z => decide (z < x)) ++ [x] := by
  obtain ⟨y1, y2, y3⟩ := (nx_some h).mp e
  have xy := lt_of_div hc y2
  refine cut_next (srt_lv h) (lv_mem.mpr hx) fun z hz => ⟨fun q => ?_, fun q => by omega⟩
  rcases Int.lt_or_le x z with q2 | q2
  · have := y3 z (lv_mem.mp hz).1 (st_le hc hx (lv_mem.mp hz) q2)
    omega
  · exact q2
theorem lv_stop {c : Int} {S : List Int} (hc : 0 < c) (h : Srt S) {x : Int} (hx : St c S x) (e : nx c S x = none) : lv c S = (lv c S).filter (fun z => decide (z < x)) ++ [x] := by
  refine cut_end (srt_lv h) (lv_mem.mpr hx) fun z hz => ?_
  rcases Int.lt_or_le x z with q2 | q2
  · have := st_le hc hx (lv_mem.mp hz) q2
    have := nx_none.mp e z (lv_mem.mp hz).1
    omega
  · exact q2
theorem lv_first {c : Int} {S : List Int} (h : Srt S) {a : Int} (e : S.head? = some a) : (lv c S).filter (fun z => decide (z < a)) = [] := by
  rw [List.filter_eq_nil_iff]
  intro z hz
  have := head_le h e z (lv_mem.mp hz).1
  simp
  omega
/-- how many are greater -/
def up (S : List Int) (x : Int) : Nat := S.countP fun z => decide (x < z)
theorem up_lt {S : List Int} {x y : Int} (hy : y ∈ S) (l : x < y) : up S y < up S x := by
  unfold up
  have h1 : S.countP (fun z => decide (x < z)) = S.countP (fun z => decide (y < z)) + S.countP (fun z => decide (x < z ∧ z ≤ y)) := count_two (fun z _ => by
    rw [← Bool.decide_or, decide_eq_decide]
    omega) fun z _ q => by
    have := of_decide_eq_true q
    exact decide_eq_false (by omega)
  have h2 : 0 < S.countP (fun z => decide (x < z ∧ z ≤ y)) := List.countP_pos_iff.mpr ⟨y, hy, decide_eq_true ⟨l, Int.le_refl _⟩⟩
  omega
theorem up_le {S : List Int} {x : Int} : up S x ≤ S.length := List.countP_le_length
def pl (c : Int) (S : List Int) (n : Int) : Nat := match bf c S n with
  | some b => rk S b
  | none => 0
theorem bf_empty {c : Int} {S : List Int} {n : Int} (h : ∀ z ∈ S, n ≤ z) : bf c S n = none := bf_none.mpr (bel_none.mpr h)
theorem head_nil {S : List Int} (h : S.head? = none) : S = [] := List.head?_eq_none_iff.mp h
theorem rk_le {S : List Int} {n : Int} : rk S n ≤ S.length := List.countP_le_length

/-! ### trails -/
/-- one step of the search: right, where the next one is not beyond, else down -/
def stp (w : Int) (S : List Int) (n : Int) (s : Nat × Int) : Option (Nat × Int) :=
  match (nx (w ^ s.1) S s.2).filter (fun y => decide (y ≤ n)) with
  | some y => some (s.1, y)
  | none => match s.1 with
    | 0 => none
    | l + 1 => some (l, s.2)
def mu (S : List Int) (s : Nat × Int) : Nat := s.1 + up S s.2
theorem stp_lt {w : Int} {S : List Int} (hw : 0 < w) (h : Srt S) {n : Int} {s s' : Nat × Int} (e : stp w S n s = some s') : mu S s' < mu S s := by
  obtain ⟨l, k⟩ := s
  unfold stp at e
  cases e1 : (nx (w ^ l) S k).filter (fun y => decide (y ≤ n)) with
  | some y =>
    simp only [e1, Option.some.injEq] at e
    subst e
    obtain ⟨e2, _⟩ := Option.filter_eq_some_iff.mp e1
    have := up_lt ((nx_some h).mp e2).1 (nx_lt (Int.pow_pos hw) h e2)
    show l + up S y < l + up S k
    omega
  | none =>
    simp only [e1] at e
    cases l with
    | zero => cases e
    | succ l =>
      simp only [Option.some.injEq] at e
      subst e
      show l + up S k < l + 1 + up S k
      omega
def run (w : Int) (S : List Int) (n : Int) : Nat → Nat × Int → List (Nat × Int)
  | 0, s => [s]
  | f + 1, s => s :: match stp w S n s with
    | some s' => run w S n f s'
    | none => []
theorem run_fuel {w : Int} {S : List Int} (hw : 0 < w) (h : Srt S) {n : Int} : ∀ (f g : Nat) (s : Nat × Int), mu S s ≤ f → mu S s ≤ g → run w S n f s = run w S n g s
  | 0, 0, s, _, _ => rfl
  | 0, g + 1, s, h1, _ => by
    cases e : stp w S n s with
    | none => simp only [run, e]
    | some s' => have := stp_lt hw h e; omega
  | f + 1, 0, s, _, h2 => by
    cases e : stp w S n s with
    | none => simp only [run, e]
    | some s' => have := stp_lt hw h e; omega
  | f + 1, g + 1, s, h1, h2 => by
    cases e : stp w S n s with
    | none => simp only [run, e]
    | some s' =>
      have := stp_lt hw h e
      simp only [run, e]
      rw [run_fuel hw h f g s' (by omega) (by omega)]
/-- the places from s on -/
def tr (w : Int) (S : List Int) (n : Int) (s : Nat × Int) : List (Nat × Int) := run w S n (mu S s) s
theorem tr_eq {w : Int} {S : List Int} (hw : 0 < w) (h : Srt S) {n : Int} (s : Nat × Int) : tr w S n s = s :: match stp w S n s with
    | some s' => tr w S n s'
    | none => [] := by
  unfold tr
  cases e : stp w S n s with
  | none =>
    cases q : mu S s with
    | zero => simp only [run]
    | succ f => simp only [run, e]
  | some s' =>
    have l := stp_lt hw h e
    obtain ⟨f, hf⟩ : ∃ f, mu S s = f + 1 := ⟨mu S s - 1, by omega⟩
    rw [hf]
    simp only [run, e]
    rw [run_fuel hw h f (mu S s') s' (by omega) (Nat.le_refl _)]
def trail (w : Int) (h : Nat) (S : List Int) (n : Int) : List (Nat × Int) := match S.head? with
  | none => []
  | some a => if a ≤ n then tr w S n (h, a) else []
theorem tr_ne {w : Int} {S : List Int} {n : Int} {s : Nat × Int} : tr w S n s ≠ [] := by
  unfold tr
  cases mu S s <;> simp [run]
theorem tr_len {w : Int} {S : List Int} (hw : 0 < w) (h : Srt S) {n : Int} (s : Nat × Int) : (tr w S n s).length ≤ mu S s + 1 := by
  unfold tr
  generalize hf : mu S s = f
  clear hf
  induction f generalizing s with
  | zero => simp [run]
  | succ f ih =>
    simp only [run]
    cases e : stp w S n s with
    | none => simp
    | some s' => have := ih s'; simp; omega
end Sk

namespace Sk
theorem stp_right {w : Int} {S : List Int} {n : Int} {l : Nat} {k y : Int} (e : nx (w ^ l) S k = some y) (h : y ≤ n) : stp w S n (l, k) = some (l, y) := by
  unfold stp
  simp only [e, Option.filter, decide_eq_true h, if_true]
theorem stp_down {w : Int} {S : List Int} {n : Int} {l : Nat} {k : Int} (h : ∀ y, nx (w ^ (l + 1)) S k = some y → ¬ y ≤ n) : stp w S n (l + 1, k) = some (l, k) := by
  unfold stp
  cases e : nx (w ^ (l + 1)) S k with
  | none => simp only [e, Option.filter]
  | some y => simp only [e, Option.filter, decide_eq_false (h y e), Bool.false_eq_true, if_false]
theorem stp_end {w : Int} {S : List Int} {n : Int} {k : Int} (h : ∀ y, nx (w ^ 0) S k = some y → ¬ y ≤ n) : stp w S n (0, k) = none := by
  unfold stp
  cases e : nx (w ^ 0) S k with
  | none => simp only [e, Option.filter]
  | some y => simp only [e, Option.filter, decide_eq_false (h y e), Bool.false_eq_true, if_false]
theorem tr_go {w : Int} {S : List Int} (hw : 0 < w) (h : Srt S) {n : Int} {s s' : Nat × Int} (e : stp w S n s = some s') : tr w S n s = s :: tr w S n s' := by
  rw [tr_eq hw h s, e]
theorem tr_stop {w : Int} {S : List Int} (hw : 0 < w) (h : Srt S) {n : Int} {s : Nat × Int} (e : stp w S n s = none) : tr w S n s = [s] := by
  rw [tr_eq hw h s, e]
theorem st_pred {w : Int} {S : List Int} (hw : 0 < w) {l : Nat} {k : Int} (h : St (w ^ (l + 1)) S k) : St (w ^ l) S k := by
  rw [Int.pow_succ] at h
  exact st_down (Int.pow_pos hw) h
/-- what stands of a step: where the search stands -/
theorem stp_st {w : Int} {S : List Int} (hw : 0 < w) (h : Srt S) {n : Int} {l l' : Nat} {k k' : Int} (hs : St (w ^ l) S k) (hk : k ≤ n) (e : stp w S n (l, k) = some (l', k')) : St (w ^ l') S k' ∧ k' ≤ n ∧ l' ≤ l := by
  unfold stp at e
  cases e1 : (nx (w ^ l) S k).filter (fun y => decide (y ≤ n)) with
  | some y =>
    simp only [e1, Option.some.injEq, Prod.mk.injEq] at e
    obtain ⟨rfl, rfl⟩ := e
    obtain ⟨e2, e3⟩ := Option.filter_eq_some_iff.mp e1
    exact ⟨st_nx (Int.pow_pos hw) h e2, of_decide_eq_true e3, Nat.le_refl _⟩
  | none =>
    simp only [e1] at e
    cases l with
    | zero => cases e
    | succ l =>
      simp only [Option.some.injEq, Prod.mk.injEq] at e
      obtain ⟨rfl, rfl⟩ := e
      exact ⟨st_pred hw hs, hk, Nat.le_succ _⟩
theorem nx_one {S : List Int} {k : Int} : nx 1 S k = abv S k := by
  unfold nx abv
  simp only [Int.ediv_one]
theorem stp_none {w : Int} {S : List Int} (h : Srt S) {n : Int} {l : Nat} {k : Int} (hs : St (w ^ l) S k) (hk : k ≤ n) (e : stp w S n (l, k) = none) : l = 0 ∧ bel S (n + 1) = some k := by
  unfold stp at e
  cases e1 : (nx (w ^ l) S k).filter (fun y => decide (y ≤ n)) with
  | some y => simp only [e1] at e; cases e
  | none =>
    simp only [e1] at e
    cases l with
    | succ l => simp only at e; cases e
    | zero =>
      refine ⟨rfl, (bel_some h).mpr ⟨hs.1, by omega, fun z hz hl => ?_⟩⟩
      rw [Int.pow_zero, nx_one] at e1
      cases e2 : abv S k with
      | none => exact abv_none.mp e2 z hz
      | some y =>
        rw [e2] at e1
        have q : ¬ y ≤ n := fun q => by simp only [Option.filter, decide_eq_true q, if_true] at e1; cases e1
        rcases Int.lt_or_le k z with q2 | q2
        · have := ((abv_some h).mp e2).2.2 z hz q2
          omega
        · exact q2
theorem tr_last {w : Int} {S : List Int} (hw : 0 < w) (h : Srt S) {n : Int} : ∀ (f : Nat) (l : Nat) (k : Int), mu S (l, k) ≤ f → St (w ^ l) S k → k ≤ n → ∃ b, bel S (n + 1) = some b ∧ (tr w S n (l, k)).getLast? = some (0, b)
  | f, l, k, hf, hs, hk => by
    cases e : stp w S n (l, k) with
    | none =>
      obtain ⟨rfl, hb⟩ := stp_none h hs hk e
      exact ⟨k, hb, by rw [tr_stop hw h e]; rfl⟩
    | some s' =>
      obtain ⟨l', k'⟩ := s'
      have lt := stp_lt hw h e
      obtain ⟨h1, h2, _⟩ := stp_st hw h hs hk e
      cases f with
      | zero => omega
      | succ f =>
        obtain ⟨b, hb, hl⟩ := tr_last hw h f l' k' (by omega) h1 h2
        refine ⟨b, hb, ?_⟩
        rw [tr_go hw h e]
        cases et : tr w S n (l', k') with
        | nil => exact absurd et tr_ne
        | cons x r => rw [et] at hl; rw [List.getLast?_cons_cons]; exact hl
theorem bel_none_lt {S : List Int} (h : Srt S) {n : Int} : bel S (n + 1) = none ↔ ∀ a, S.head? = some a → ¬ a ≤ n := by
  rw [bel_none]
  constructor
  · intro q a ha l
    have := q a (head_mem ha)
    omega
  · intro q z hz
    cases e : S.head? with
    | none => rw [head_nil e] at hz; cases hz
    | some a =>
      have := q a e
      have := head_le h e z hz
      omega
/-- the trail's end -/
theorem trail_last {w : Int} {h : Nat} {S : List Int} (hw : 0 < w) (hs : Srt S) {n : Int} : (trail w h S n).getLast? = (bel S (n + 1)).map fun b => (0, b) := by
  unfold trail
  cases e : S.head? with
  | none =>
    rw [(bel_none_lt hs).mpr fun a ha => by rw [e] at ha; cases ha]
    rfl
  | some a =>
    by_cases q : a ≤ n
    · simp only [q, if_true]
      obtain ⟨b, h1, h2⟩ := tr_last hw hs (mu S (h, a)) h a (Nat.le_refl _) (st_least hs e) q
      rw [h2, h1]
      rfl
    · simp only [q, if_false]
      rw [(bel_none_lt hs).mpr fun b hb => by rw [e] at hb; cases hb; exact q]
      rfl
theorem trail_nil {w : Int} {h : Nat} {S : List Int} (hw : 0 < w) (hs : Srt S) {n : Int} : trail w h S n = [] ↔ bel S (n + 1) = none := by
  have := trail_last (h := h) hw hs (n := n)
  rw [← List.getLast?_eq_none_iff, this, Option.map_eq_none_iff]
theorem trail_len {w : Int} {h : Nat} {S : List Int} (hw : 0 < w) (hs : Srt S) {n : Int} : (trail w h S n).length ≤ h + S.length + 1 := by
  unfold trail
  cases e : S.head? with
  | none => simp
  | some a =>
    by_cases q : a ≤ n
    · simp only [q, if_true]
      have h1 := tr_len hw hs (n := n) (h, a)
      have h2 := up_le (S := S) (x := a)
      have h3 : mu S (h, a) = h + up S a := rfl
      omega
    · simp only [q, if_false]
      simp

/-! ### places -/
theorem rk_get {S : List Int} (h : Srt S) {i : Nat} {x : Int} (e : S[i]? = some x) : rk S x = i := by
  unfold rk
  have hi := (List.getElem?_eq_some_iff.mp e).1
  have e2 : S = S.take i ++ S.drop i := (List.take_append_drop i S).symm
  rw [e2, List.countP_append]
  have a : (S.take i).countP (fun z => decide (z < x)) = i := by
    have e3 : (S.take i).countP (fun z => decide (z < x)) = (S.take i).length := List.countP_eq_length.mpr fun z hz => by
      obtain ⟨j, hj, rfl⟩ := List.mem_iff_getElem.mp hz
      have hj2 : j < i := by rw [List.length_take] at hj; omega
      refine decide_eq_true (get_lt h (i := j) (j := i) ?_ e hj2)
      rw [List.getElem_take]
      exact List.getElem?_eq_getElem _
    rw [e3, List.length_take]
    omega
  have b : (S.drop i).countP (fun z => decide (z < x)) = 0 := by
    rw [List.countP_eq_zero]
    intro z hz q
    obtain ⟨j, hj, rfl⟩ := List.mem_iff_getElem.mp hz
    have q' := of_decide_eq_true q
    rw [List.getElem_drop] at q'
    rcases Nat.eq_zero_or_pos j with rfl | hj0
    · have := Option.some.inj ((List.getElem?_eq_getElem (show i + 0 < S.length by omega)).symm.trans e)
      omega
    · have hlen : i + j < S.length := by rw [List.length_drop] at hj; omega
      have := get_lt h e (List.getElem?_eq_getElem hlen) (by omega)
      omega
  omega
theorem rk_mono {S : List Int} {x y : Int} (h : x ≤ y) : rk S x ≤ rk S y := count_le fun z _ q => by
  have := of_decide_eq_true q
  exact decide_eq_true (by omega)
theorem rk_lt {S : List Int} {x y : Int} (hx : x ∈ S) (h : x < y) : rk S x < rk S y := by
  unfold rk
  have h1 : S.countP (fun z => decide (z < y)) = S.countP (fun z => decide (z < x)) + S.countP (fun z => decide (x ≤ z ∧ z < y)) := count_two (fun z _ => by
    rw [← Bool.decide_or, decide_eq_decide]
    omega) fun z _ q => by
    have := of_decide_eq_true q
    exact decide_eq_false (by omega)
  have h2 : 0 < S.countP (fun z => decide (x ≤ z ∧ z < y)) := List.countP_pos_iff.mpr ⟨x, hx, decide_eq_true ⟨Int.le_refl _, h⟩⟩
  omega
theorem rk_le_iff {S : List Int} {x y : Int} (hy : y ∈ S) : rk S x ≤ rk S y ↔ x ≤ y := by
  constructor
  · intro q
    rcases Int.lt_or_le y x with q2 | q2
    · have := rk_lt hy q2; omega
    · exact q2
  · exact rk_mono
theorem bel_rk {S : List Int} (h : Srt S) {n b : Int} (e : bel S n = some b) : rk S n = rk S b + 1 := by
  obtain ⟨b1, b2, b3⟩ := (bel_some h).mp e
  have h1 : rk S n = rk S b + S.countP (fun z => decide (z = b)) := count_two (fun z hz => by
    rw [← Bool.decide_or, decide_eq_decide]
    constructor
    · intro q
      have := b3 z hz q
      omega
    · omega) fun z _ q => by
    have := of_decide_eq_true q
    exact decide_eq_false (by omega)
  have h2 : S.countP (fun z => decide (z = b)) = 1 := by
    obtain ⟨i, hi, hb⟩ := List.mem_iff_getElem.mp b1
    have e1 : S[i]? = some b := by rw [List.getElem?_eq_getElem hi, hb]
    have h3 := rk_get h e1
    have h4 : S.countP (fun z => decide (z < b + 1)) = rk S b + S.countP (fun z => decide (z = b)) := count_two (fun z _ => by
      rw [← Bool.decide_or, decide_eq_decide]
      omega) fun z _ q => by
      have := of_decide_eq_true q
      exact decide_eq_false (by omega)
    have h5 := (srt_nodup h)
    have h6 : S.count b = 1 := by
      have := List.nodup_iff_count.mp h5 b
      have := List.count_pos_iff.mpr b1
      omega
    rw [← h6]
    unfold List.count
    exact List.countP_congr fun z _ => by simp
  omega
theorem bel_none_rk {S : List Int} {n : Int} (e : bel S n = none) : rk S n = 0 := by
  unfold rk
  rw [List.countP_eq_zero]
  intro z hz
  have := bel_none.mp e z hz
  simp
  omega
theorem bf_one {S : List Int} (h : Srt S) {n : Int} : bf 1 S n = bel S n := by
  unfold bf
  cases e : bel S n with
  | none => rfl
  | some b =>
    show hd 1 S b = some b
    refine (hd_some h).mpr ⟨((bel_some h).mp e).1, rfl, fun z _ q => ?_⟩
    rw [Int.ediv_one, Int.ediv_one] at q
    omega
theorem gp_one {S : List Int} (h : Srt S) {k : Int} (hk : k ∈ S) : gp 1 S k = 1 := by
  have h6 : S.count k = 1 := by
    have := List.nodup_iff_count.mp (srt_nodup h) k
    have := List.count_pos_iff.mpr hk
    omega
  rw [← h6]
  unfold gp List.count
  exact List.countP_congr fun z _ => by simp
theorem abv_head {S : List Int} (h : Srt S) {n : Int} (e : bel S (n + 1) = none) : abv S (n - 1) = S.head? := by
  have e' := bel_none.mp e
  cases eh : S.head? with
  | none => rw [head_nil eh]; rfl
  | some a => exact (abv_some h).mpr ⟨head_mem eh, by have := e' a (head_mem eh); omega, fun z hz _ => head_le h eh z hz⟩
theorem abv_self {S : List Int} (h : Srt S) {n : Int} (e : bel S (n + 1) = some n) : abv S (n - 1) = some n := by
  obtain ⟨h1, h2, h3⟩ := (bel_some h).mp e
  exact (abv_some h).mpr ⟨h1, by omega, fun z _ q => by omega⟩
theorem abv_bel {S : List Int} (h : Srt S) {n b : Int} (e : bel S (n + 1) = some b) (ne : b ≠ n) : abv S b = abv S (n - 1) := by
  obtain ⟨h1, h2, h3⟩ := (bel_some h).mp e
  have key : ∀ z ∈ S, (b < z ↔ n - 1 < z) := fun z hz => by
    constructor
    · intro q
      rcases Int.lt_or_le z (n + 1) with q2 | q2
      · have := h3 z hz q2; omega
      · omega
    · intro q
      omega
  cases e2 : abv S (n - 1) with
  | none =>
    refine abv_none.mpr fun z hz => ?_
    have := abv_none.mp e2 z hz
    have := key z hz
    omega
  | some y =>
    obtain ⟨y1, y2, y3⟩ := (abv_some h).mp e2
    exact (abv_some h).mpr ⟨y1, (key y y1).mpr y2, fun z hz q => y3 z hz ((key z hz).mp q)⟩
theorem abv_bel2 {S : List Int} (h : Srt S) {n b : Int} (hn : n ∉ S) (e : bel S n = some b) : abv S b = abv S n := by
  obtain ⟨h1, h2, h3⟩ := (bel_some h).mp e
  have key : ∀ z ∈ S, (b < z ↔ n < z) := fun z hz => by
    have zn : z ≠ n := fun q => hn (q ▸ hz)
    constructor
    · intro q
      rcases lt_or zn with q2 | q2
      · have := h3 z hz q2; omega
      · exact q2
    · intro q
      omega
  cases e2 : abv S n with
  | none =>
    refine abv_none.mpr fun z hz => ?_
    have := abv_none.mp e2 z hz
    have := key z hz
    omega
  | some y =>
    obtain ⟨y1, y2, y3⟩ := (abv_some h).mp e2
    exact (abv_some h).mpr ⟨y1, (key y y1).mpr y2, fun z hz q => y3 z hz ((key z hz).mp q)⟩
theorem abv_head2 {S : List Int} (h : Srt S) {n : Int} (hn : n ∉ S) (e : bel S n = none) : S.head? = abv S n := by
  have e' := bel_none.mp e
  cases eh : S.head? with
  | none => rw [head_nil eh]; rfl
  | some a =>
    have h1 := e' a (head_mem eh)
    have h2 : a ≠ n := fun q => hn (q ▸ head_mem eh)
    exact ((abv_some h).mpr ⟨head_mem eh, by omega, fun z hz _ => head_le h eh z hz⟩).symm
/-- the ones from low on, up to below high -/
def mid (S : List Int) (lo hi : Int) : List Int := S.filter fun z => decide (lo ≤ z ∧ z < hi)
theorem filter_ge {S : List Int} (h : Srt S) (n : Int) : S.filter (fun z => decide (n ≤ z)) = S.drop (rk S n) := by
  refine srt_ext (srt_filter h _) (List.Pairwise.sublist (List.drop_sublist _ S) h) fun x => ?_
  rw [List.mem_filter, decide_eq_true_eq]
  constructor
  · rintro ⟨hx, q⟩
    obtain ⟨i, hi, rfl⟩ := List.mem_iff_getElem.mp hx
    have e1 := rk_get h (List.getElem?_eq_getElem hi)
    have := rk_mono (S := S) q
    refine List.mem_iff_getElem.mpr ⟨i - rk S n, by rw [List.length_drop]; omega, ?_⟩
    rw [List.getElem_drop]
    congr 1
    omega
  · intro hx
    obtain ⟨j, hj, rfl⟩ := List.mem_iff_getElem.mp hx
    rw [List.length_drop] at hj
    have hlen : rk S n + j < S.length := by omega
    rw [List.getElem_drop]
    refine ⟨List.getElem_mem _, ?_⟩
    have e1 := rk_get h (List.getElem?_eq_getElem hlen)
    rcases Int.lt_or_le S[rk S n + j] n with q | q
    · have := rk_lt (List.getElem_mem hlen) q
      omega
    · exact q
theorem filter_lt {S : List Int} (h : Srt S) (n : Int) : S.filter (fun z => decide (z < n)) = S.take (rk S n) := by
  refine srt_ext (srt_filter h _) (srt_take h _) fun x => ?_
  rw [List.mem_filter, decide_eq_true_eq]
  constructor
  · rintro ⟨hx, q⟩
    obtain ⟨i, hi, rfl⟩ := List.mem_iff_getElem.mp hx
    have e1 := rk_get h (List.getElem?_eq_getElem hi)
    have := rk_lt hx q
    exact List.mem_iff_getElem.mpr ⟨i, by rw [List.length_take]; omega, by rw [List.getElem_take]⟩
  · intro hx
    obtain ⟨j, hj, rfl⟩ := List.mem_iff_getElem.mp hx
    rw [List.length_take] at hj
    have hlen : j < S.length := by omega
    rw [List.getElem_take]
    refine ⟨List.getElem_mem _, ?_⟩
    have e1 := rk_get h (List.getElem?_eq_getElem hlen)
    rcases Int.lt_or_le S[j] n with q | q
    · exact q
    · have := rk_mono (S := S) q
      omega
theorem mid_eq {S : List Int} (h : Srt S) (lo hi : Int) : mid S lo hi = (S.drop (rk S lo)).take (rk S hi - rk S lo) := by
  unfold mid
  have e : (fun z => decide (lo ≤ z ∧ z < hi)) = fun z => (decide (z < hi) && decide (lo ≤ z)) := by
    funext z
    rw [← Bool.decide_and, decide_eq_decide]
    omega
  rw [e]
  have e2 : (S.filter fun z => decide (z < hi) && decide (lo ≤ z)) = (S.filter fun z => decide (lo ≤ z)).filter fun z => decide (z < hi) := by
    rw [List.filter_filter]
  rw [e2, filter_ge h, filter_lt (List.Pairwise.sublist (List.drop_sublist _ S) h)]
  congr 1
  by_cases q : lo ≤ hi
  · have e3 : rk S hi = (S.take (rk S lo)).countP (fun z => decide (z < hi)) + (S.drop (rk S lo)).countP (fun z => decide (z < hi)) := by
      have := List.countP_append (p := fun z => decide (z < hi)) (l₁ := S.take (rk S lo)) (l₂ := S.drop (rk S lo))
      rw [List.take_append_drop] at this
      exact this
    have e4 : (S.take (rk S lo)).countP (fun z => decide (z < hi)) = (S.take (rk S lo)).length := List.countP_eq_length.mpr fun z hz => by
      rw [← filter_lt h] at hz
      have := of_decide_eq_true (List.mem_filter.mp hz).2
      exact decide_eq_true (by omega)
    rw [List.length_take] at e4
    have := rk_le (S := S) (n := lo)
    unfold rk at *
    omega
  · have e3 : (S.drop (rk S lo)).countP (fun z => decide (z < hi)) = 0 := by
      rw [List.countP_eq_zero, ← filter_ge h]
      intro z hz
      have := of_decide_eq_true (List.mem_filter.mp hz).2
      simp
      omega
    have := rk_mono (S := S) (show hi ≤ lo by omega)
    unfold rk at *
    omega
theorem mid_len {S : List Int} (h : Srt S) (lo hi : Int) : (mid S lo hi).length = rk S hi - rk S lo := by
  rw [mid_eq h, List.length_take, List.length_drop]
  have := rk_le (S := S) (n := hi)
  omega
end Sk

namespace Sk
theorem nx_at {c : Int} {S : List Int} (hc : 0 < c) (h : Srt S) {i j : Nat} {k : Int} (hi : S[i]? = some k) (hj : i < j) (same : ∀ m z, i ≤ m → m < j → S[m]? = some z → z / c = k / c) (out : ∀ y, S[j]? = some y → y / c ≠ k / c) : nx c S k = S[j]? := by
  have low : ∀ m z, m < j → S[m]? = some z → z / c ≤ k / c := fun m z hm hz => by
    rcases Nat.lt_or_ge m i with q | q
    · exact div_le hc (Int.le_of_lt (get_lt h hz hi q))
    · rw [same m z q hm hz]; exact Int.le_refl _
  cases e : S[j]? with
  | none =>
    refine nx_none.mpr fun z hz => ?_
    obtain ⟨m, hm, rfl⟩ := List.mem_iff_getElem.mp hz
    have : S.length ≤ j := by
      rcases Nat.lt_or_ge j S.length with q | q
      · rw [List.getElem?_eq_getElem q] at e; cases e
      · exact q
    exact low m _ (by omega) (List.getElem?_eq_getElem hm)
  | some y =>
    have ky := get_lt h hi e hj
    have := div_le hc (Int.le_of_lt ky)
    have := out y e
    refine (nx_some h).mpr ⟨List.mem_of_getElem? e, by omega, fun z hz q => ?_⟩
    obtain ⟨m, hm, rfl⟩ := List.mem_iff_getElem.mp hz
    have em : S[m]? = some S[m] := List.getElem?_eq_getElem hm
    rcases Nat.lt_or_ge m j with q2 | q2
    · have := low m _ q2 em
      omega
    · rcases Nat.eq_or_lt_of_le q2 with q3 | q3
      · subst q3
        rw [em] at e
        exact Int.le_of_eq (Option.some.inj e).symm
      · exact Int.le_of_lt (get_lt h e em q3)
theorem head_rev {S : List Int} {n : Int} : (S.reverse.filter fun z => decide (z ≤ n)).head? = bel S (n + 1) := by
  unfold bel
  rw [List.filter_reverse, List.head?_reverse]
  refine congrArg _ (List.filter_congr fun z _ => ?_)
  rw [decide_eq_decide]; omega
theorem head_ge {S : List Int} {n : Int} : (S.filter fun z => decide (n ≤ z)).head? = abv S (n - 1) := by
  unfold abv
  rw [List.head?_filter]
  refine congrArg (fun p => S.find? p) (funext fun z => ?_)
  rw [decide_eq_decide]; omega
end Sk

namespace Sk
/-- whether a number stands, told by its place -/
def cnd (c : Int) (S : List Int) (i : Nat) : Prop := i = 0 ∨ S.getD (i - 1) 0 / c < S.getD i 0 / c
instance {c : Int} {S : List Int} {i : Nat} : Decidable (cnd c S i) := by unfold cnd; exact inferInstance
def plc (c : Int) (S : List Int) : List Nat := (List.range S.length).filter fun i => decide (cnd c S i)
theorem getD_of {S : List Int} {i : Nat} {x : Int} (e : S[i]? = some x) : S.getD i 0 = x := by rw [List.getD_eq_getElem?_getD, e]; rfl
theorem lt_of_get {S : List Int} {i : Nat} {x : Int} (e : S[i]? = some x) : i < S.length := by
  rcases Nat.lt_or_ge i S.length with q | q
  · exact q
  · rw [List.getElem?_eq_none q] at e; cases e
theorem get_of {S : List Int} {i : Nat} (h : i < S.length) : S[i]? = some (S.getD i 0) := by
  rw [List.getD_eq_getElem?_getD, List.getElem?_eq_getElem h]; rfl
theorem cnd_st {c : Int} {S : List Int} (hc : 0 < c) (h : Srt S) {i : Nat} {x : Int} (e : S[i]? = some x) : cnd c S i ↔ St c S x := by
  have ei := getD_of e
  have hl := lt_of_get e
  unfold cnd
  constructor
  · intro q
    refine ⟨List.mem_of_getElem? e, fun z hz zx => ?_⟩
    obtain ⟨m, hm, rfl⟩ := List.mem_iff_getElem.mp hz
    have em : S[m]? = some S[m] := List.getElem?_eq_getElem hm
    have mi : m < i := by
      rcases Nat.lt_or_ge m i with q2 | q2
      · exact q2
      · rcases Nat.eq_or_lt_of_le q2 with q3 | q3
        · subst q3; rw [em] at e; have := Option.some.inj e; omega
        · have := get_lt h e em q3; omega
    rcases q with q | q
    · omega
    · rw [ei] at q
      have e1 := get_of (S := S) (i := i - 1) (by omega)
      have : S[m] ≤ S.getD (i - 1) 0 := by
        rcases Nat.eq_or_lt_of_le (show m ≤ i - 1 by omega) with q3 | q3
        · subst q3; rw [em] at e1; exact Int.le_of_eq (Option.some.inj e1)
        · exact Int.le_of_lt (get_lt h em e1 q3)
      have := div_le hc this
      omega
  · intro st
    rcases Nat.eq_zero_or_pos i with q | q
    · exact .inl q
    · refine .inr ?_
      have e1 := get_of (S := S) (i := i - 1) (by omega)
      have lt := get_lt h e1 e (by omega)
      have := div_le hc (Int.le_of_lt lt)
      have := st.2 _ (List.mem_of_getElem? e1) lt
      rw [ei]
      omega
theorem plc_mem {c : Int} {S : List Int} {i : Nat} : i ∈ plc c S ↔ i < S.length ∧ cnd c S i := by
  unfold plc; simp
theorem plc_srt {c : Int} {S : List Int} : (plc c S).Pairwise (· < ·) := List.Pairwise.filter _ List.pairwise_lt_range
theorem gap_next {ps : List Nat} (h : ps.Pairwise (· < ·)) {k i m : Nat} (hk : ps[k]? = some i) (hm : m ∈ ps) (im : i < m) : ∃ j, ps[k + 1]? = some j ∧ j ≤ m := by
  obtain ⟨q, hq, rfl⟩ := List.mem_iff_getElem.mp hm
  have hkl : k < ps.length := by
    rcases Nat.lt_or_ge k ps.length with z | z
    · exact z
    · rw [List.getElem?_eq_none z] at hk; cases hk
  rw [List.getElem?_eq_getElem hkl] at hk
  have hk := Option.some.inj hk
  have pw := List.pairwise_iff_getElem.mp h
  have kq : k < q := by
    rcases Nat.lt_or_ge k q with z | z
    · exact z
    · rcases Nat.eq_or_lt_of_le z with z2 | z2
      · subst z2; omega
      · have := pw q k hq hkl z2; omega
  refine ⟨ps[k + 1]'(by omega), List.getElem?_eq_getElem (by omega), ?_⟩
  rcases Nat.eq_or_lt_of_le (show k + 1 ≤ q by omega) with z | z
  · subst z; exact Nat.le_refl _
  · exact Nat.le_of_lt (pw (k + 1) q (by omega) hq z)
theorem plc_next {c : Int} {S : List Int} (hc : 0 < c) (h : Srt S) {k i : Nat} {x : Int} (hk : (plc c S)[k]? = some i) (e : S[i]? = some x) : nx c S x = (plc c S)[k + 1]?.bind fun j => S[j]? := by
  obtain ⟨j, hj, ij⟩ : ∃ j, ((plc c S)[k + 1]?.bind fun j => S[j]?) = S[j]? ∧ i < j ∧ (∀ m, i < m → m < j → m < S.length → ¬ cnd c S m) ∧ (∀ y, S[j]? = some y → cnd c S j) := by
    cases q : (plc c S)[k + 1]? with
    | none =>
      have hi := lt_of_get e
      refine ⟨S.length, by rw [List.getElem?_eq_none (Nat.le_refl _)]; rfl, hi, fun m im _ hm cm => ?_, fun y hy => ?_⟩
      · obtain ⟨j, hj, _⟩ := gap_next plc_srt hk (plc_mem.mpr ⟨hm, cm⟩) im
        rw [q] at hj; cases hj
      · have := lt_of_get hy; omega
    | some j =>
      have mj := plc_mem.mp (List.mem_of_getElem? q)
      refine ⟨j, rfl, ?_, fun m im mj2 hm cm => ?_, fun _ _ => mj.2⟩
      · have kl : k + 1 < (plc c S).length := by
          rcases Nat.lt_or_ge (k + 1) (plc c S).length with z | z
          · exact z
          · rw [List.getElem?_eq_none z] at q; cases q
        rw [List.getElem?_eq_getElem kl] at q
        rw [List.getElem?_eq_getElem (show k < _ by omega)] at hk
        have := List.pairwise_iff_getElem.mp (plc_srt (c := c) (S := S)) k (k + 1) (by omega) kl (by omega)
        have h1 := Option.some.inj q
        have h2 := Option.some.inj hk
        omega
      · obtain ⟨j2, hj2, l2⟩ := gap_next plc_srt hk (plc_mem.mpr ⟨hm, cm⟩) im
        rw [q] at hj2
        cases hj2
        omega
  obtain ⟨ij, btw, out⟩ := ij
  rw [hj]
  have same : ∀ m, i ≤ m → m < j → ∀ z, S[m]? = some z → z / c = x / c := fun m => by
    induction m with
    | zero =>
      intro h1 _ z hz
      obtain rfl : i = 0 := by omega
      rw [e] at hz; cases hz; rfl
    | succ m ih =>
      intro h1 h2 z hz
      rcases Nat.eq_or_lt_of_le h1 with q | q
      · subst q; rw [e] at hz; cases hz; rfl
      · have hz' := lt_of_get hz
        have nb := btw (m + 1) q h2 hz'
        have em := get_of (S := S) (i := m) (by omega)
        have i1 := ih (by omega) (by omega) _ em
        have := div_le hc (Int.le_of_lt (get_lt h em hz (by omega)))
        have n2 : ¬ S.getD m 0 / c < z / c := fun q2 => nb (.inr (by rw [getD_of hz]; exact q2))
        omega
  refine nx_at hc h e ij (fun m z h1 h2 h3 => same m h1 h2 z h3) fun y hy => ?_
  have cj := out y hy
  have hy' := lt_of_get hy
  rcases cj with q | q
  · omega
  · have em := get_of (S := S) (i := j - 1) (by omega)
    have := same (j - 1) (by omega) (by omega) _ em
    rw [getD_of hy] at q
    omega
theorem plc_there {c : Int} {S : List Int} (hc : 0 < c) (h : Srt S) {x : Int} : x ∈ (plc c S).map (fun i => S.getD i 0) ↔ St c S x := by
  rw [List.mem_map]
  constructor
  · rintro ⟨i, hi, rfl⟩
    obtain ⟨h1, h2⟩ := plc_mem.mp hi
    exact (cnd_st hc h (get_of h1)).mp h2
  · intro st
    obtain ⟨i, hi, rfl⟩ := List.mem_iff_getElem.mp st.1
    have e : S[i]? = some S[i] := List.getElem?_eq_getElem hi
    exact ⟨i, plc_mem.mpr ⟨hi, (cnd_st hc h e).mpr st⟩, getD_of e⟩
end Sk

namespace Sk
/-! ### levels of a row with one number more -/
theorem alk_in {c : Int} {S : List Int} (hc : 0 < c) (h : Srt S) {n a : Int} (hn : n ∉ S) (hst : St c (ins S n) n) (ha : abv S n = some a) (e : n / c = a / c) : St c S a := by
  obtain ⟨h1, h2, h3⟩ := (abv_some h).mp ha
  refine ⟨h1, fun z hz zl => ?_⟩
  have ne : z ≠ n := fun q => hn (q ▸ hz)
  rcases lt_or ne with q | q
  · rw [← e]
    exact hst.2 z (mem_ins.mpr (.inr hz)) q
  · have := h3 z hz q
    omega
theorem lv_put {c : Int} {S : List Int} (hc : 0 < c) (h : Srt S) {n : Int} (hn : n ∉ S) (hst : St c (ins S n) n) {k : Int} : k ∈ lv c (ins S n) ↔ k = n ∨ (k ∈ lv c S ∧ ¬ (abv S n = some k ∧ n / c = k / c)) := by
  rw [lv_mem, lv_mem]
  by_cases e : k = n
  · subst e
    exact ⟨fun _ => .inl rfl, fun _ => hst⟩
  · rw [st_ins_k hc h hn e]
    constructor
    · rintro ⟨h1, h2⟩
      refine .inr ⟨h1, fun ⟨q1, q2⟩ => h2 ⟨((abv_some h).mp q1).2.1, q2⟩⟩
    · rintro (q | ⟨h1, h2⟩)
      · exact absurd q e
      · refine ⟨h1, fun ⟨q1, q2⟩ => h2 ⟨(abv_some h).mpr ⟨h1.1, q1, fun z hz zn => ?_⟩, q2⟩⟩
        rcases Int.lt_or_le z k with q3 | q3
        · have a1 := div_le hc (Int.le_of_lt zn)
          have a2 := div_le hc (Int.le_of_lt q3)
          exact absurd (by omega) (h1.2 z hz q3)
        · exact q3
theorem lv_stay {c : Int} {S : List Int} (hc : 0 < c) (h : Srt S) {n : Int} (hn : n ∉ S) (hst : ¬ St c (ins S n) n) : lv c (ins S n) = lv c S := by
  refine srt_ext (srt_lv (srt_ins h n)) (srt_lv h) fun k => ?_
  rw [lv_mem, lv_mem]
  by_cases e : k = n
  · subst e
    exact ⟨fun q => absurd q hst, fun q => absurd q.1 hn⟩
  · rw [st_ins_k hc h hn e]
    refine ⟨fun q => q.1, fun q => ⟨q, fun ⟨q1, q2⟩ => hst ?_⟩⟩
    rw [st_ins_n hc h hn]
    intro z hz e2
    obtain ⟨z1, z2, _⟩ := (bel_some h).mp hz
    exact q.2 z z1 (by omega) (by omega)
theorem lv_lv {c d : Int} {S : List Int} (hc : 0 < c) (h : Srt S) : lv (c * d) (lv c S) = lv (c * d) S := by
  refine srt_ext (srt_lv (srt_lv h)) (srt_lv h) fun k => ?_
  rw [lv_mem, lv_mem]
  constructor
  · rintro ⟨h1, h2⟩
    have h1 := lv_mem.mp h1
    refine ⟨h1.1, fun z hz zk e => ?_⟩
    cases eh : hd c S z with
    | none => exact hd_none.mp eh z hz rfl
    | some y =>
      obtain ⟨y1, y2, y3⟩ := (hd_some h).mp eh
      have yz := y3 z hz rfl
      refine h2 y (lv_mem.mpr ⟨y1, fun x hx xy e2 => ?_⟩) (by omega) ?_
      · have := y3 x hx (e2.trans y2)
        omega
      · rw [div_mul hc, y2, ← div_mul hc]
        exact e
  · intro q
    exact ⟨lv_mem.mpr (st_down hc q), fun z hz zk => q.2 z (lv_mem.mp hz).1 zk⟩
end Sk

namespace Sk
/-! ### the steps of a trail -/
theorem stp_inv {w : Int} {S : List Int} {n : Int} {l : Nat} {k : Int} {s' : Nat × Int} (e : stp w S n (l, k) = some s') :
    (∃ y, nx (w ^ l) S k = some y ∧ y ≤ n ∧ s' = (l, y)) ∨ (∃ l', l = l' + 1 ∧ s' = (l', k) ∧ ∀ y, nx (w ^ l) S k = some y → ¬ y ≤ n) := by
  unfold stp at e
  cases e1 : (nx (w ^ l) S k).filter (fun y => decide (y ≤ n)) with
  | some y =>
    simp only [e1, Option.some.injEq] at e
    obtain ⟨e2, e3⟩ := Option.filter_eq_some_iff.mp e1
    exact .inl ⟨y, e2, of_decide_eq_true e3, e.symm⟩
  | none =>
    simp only [e1] at e
    cases l with
    | zero => cases e
    | succ l =>
      simp only [Option.some.injEq] at e
      refine .inr ⟨l, rfl, e.symm, fun y hy q => ?_⟩
      rw [hy] at e1
      simp only [Option.filter, decide_eq_true q, if_true] at e1
      cases e1
theorem tr_chain {w : Int} {S : List Int} (hw : 0 < w) (h : Srt S) {n : Int} : ∀ (f : Nat) (s : Nat × Int), mu S s ≤ f → ∀ (i : Nat) (a b : Nat × Int), (tr w S n s)[i]? = some a → (tr w S n s)[i + 1]? = some b → stp w S n a = some b
  | f, s, hf, i, a, b, ha, hb => by
    cases e : stp w S n s with
    | none =>
      rw [tr_stop hw h e] at hb
      rw [List.getElem?_eq_none (by simp)] at hb
      cases hb
    | some s' =>
      have lt := stp_lt hw h e
      rw [tr_go hw h e] at ha hb
      cases i with
      | zero =>
        rw [List.getElem?_cons_zero] at ha
        rw [List.getElem?_cons_succ] at hb
        cases ha
        have : (tr w S n s')[0]? = some s' := by rw [tr_eq hw h s']; rfl
        rw [this] at hb
        cases hb
        exact e
      | succ i =>
        rw [List.getElem?_cons_succ] at ha hb
        cases f with
        | zero => omega
        | succ f => exact tr_chain hw h f s' (by omega) i a b ha hb
theorem tr_inv {w : Int} {S : List Int} (hw : 0 < w) (h : Srt S) {n : Int} {I : Nat × Int → Prop} (hs : ∀ a b, I a → stp w S n a = some b → I b) : ∀ (f : Nat) (s : Nat × Int), mu S s ≤ f → I s → ∀ x ∈ tr w S n s, I x
  | f, s, hf, hi, x, hx => by
    cases e : stp w S n s with
    | none =>
      rw [tr_stop hw h e, List.mem_singleton] at hx
      exact hx ▸ hi
    | some s' =>
      have lt := stp_lt hw h e
      rw [tr_go hw h e] at hx
      rcases List.mem_cons.mp hx with q | q
      · exact q ▸ hi
      · cases f with
        | zero => omega
        | succ f => exact tr_inv hw h hs f s' (by omega) (hs s s' hi e) x q
/-- what holds wherever the search stands -/
structure Rch (w : Int) (h : Nat) (S : List Int) (n : Int) (s : Nat × Int) : Prop where
  lv : s.1 ≤ h
  st : St (w ^ s.1) S s.2
  le : s.2 ≤ n
  up : ∀ y, nx (w ^ (s.1 + 1)) S s.2 = some y → ¬ y ≤ n
theorem rch_top {w : Int} {h : Nat} {S : List Int} (hw : 0 < w) (hs : Srt S) {n x : Int} (lo : ∀ z ∈ S, 0 ≤ z) (hi : ∀ z ∈ S, z < w ^ h) (hx : S.head? = some x) (xn : x ≤ n) : Rch w h S n (h, x) where
  lv := Nat.le_refl _
  st := st_least hs hx
  le := xn
  up := fun y hy => by
    obtain ⟨y1, y2, _⟩ := (nx_some hs).mp hy
    replace y2 : x / w ^ (h + 1) < y / w ^ (h + 1) := y2
    have xm := head_mem hx
    have e : ∀ z ∈ S, z / w ^ (h + 1) = 0 := fun z hz => by
      rw [Int.pow_succ, div_mul (Int.pow_pos hw), Int.ediv_eq_zero_of_lt (lo z hz) (hi z hz), Int.zero_ediv]
    have e1 := e y y1
    have e2 := e x xm
    omega
theorem rch_nx_top {w : Int} {h : Nat} {S : List Int} (hw : 0 < w) (hs : Srt S) {k : Int} (lo : ∀ z ∈ S, 0 ≤ z) (hi : ∀ z ∈ S, z < w ^ h) (hk : k ∈ S) : nx (w ^ h) S k = none := by
  refine nx_none.mpr fun z hz => ?_
  rw [Int.ediv_eq_zero_of_lt (lo z hz) (hi z hz), Int.ediv_eq_zero_of_lt (lo k hk) (hi k hk)]
  exact Int.le_refl _
theorem rch_blk {w : Int} {h : Nat} {S : List Int} (hw : 0 < w) (hs : Srt S) {n : Int} {l : Nat} {k y : Int} (r : Rch w h S n (l, k)) (e : nx (w ^ l) S k = some y) (yn : y ≤ n) : y / w ^ (l + 1) = k / w ^ (l + 1) := by
  have hc : 0 < w ^ (l + 1) := Int.pow_pos hw
  obtain ⟨y1, y2, y3⟩ := (nx_some hs).mp e
  have kl := nx_lt (Int.pow_pos hw) hs e
  have a := div_le hc (Int.le_of_lt kl)
  rcases Decidable.em (y / w ^ (l + 1) = k / w ^ (l + 1)) with q | q
  · exact q
  · have lt : k / w ^ (l + 1) < y / w ^ (l + 1) := by omega
    cases en : nx (w ^ (l + 1)) S k with
    | none =>
      have := nx_none.mp en y y1
      omega
    | some z =>
      have zn := r.up z en
      have := ((nx_some hs).mp en).2.2 y y1 lt
      omega
theorem rch_step {w : Int} {h : Nat} {S : List Int} (hw : 0 < w) (hs : Srt S) {n : Int} {a b : Nat × Int} (r : Rch w h S n a) (e : stp w S n a = some b) : Rch w h S n b := by
  obtain ⟨l, k⟩ := a
  rcases stp_inv e with ⟨y, y1, y2, rfl⟩ | ⟨l', rfl, rfl, no⟩
  · refine ⟨r.lv, st_nx (Int.pow_pos hw) hs y1, y2, fun z hz => ?_⟩
    have eb := rch_blk hw hs r y1 y2
    exact r.up z (by rw [← nx_blk eb]; exact hz)
  · exact ⟨Nat.le_of_succ_le r.lv, st_pred hw r.st, r.le, no⟩
/-- a number's block's place in the block above -/
def pos (w : Int) (s : Nat × Int) : Int := (s.2 / w ^ s.1) % w
theorem pos_b {w : Int} (hw : 0 < w) (s : Nat × Int) : 0 ≤ pos w s ∧ pos w s < w := ⟨Int.emod_nonneg _ (by omega), Int.emod_lt_of_pos _ hw⟩
theorem pos_right {w : Int} {h : Nat} {S : List Int} (hw : 0 < w) (hs : Srt S) {n : Int} {l : Nat} {k y : Int} (r : Rch w h S n (l, k)) (e : nx (w ^ l) S k = some y) (yn : y ≤ n) : pos w (l, k) < pos w (l, y) := by
  have eb := rch_blk hw hs r e yn
  obtain ⟨_, y2, _⟩ := (nx_some hs).mp e
  rw [Int.pow_succ, div_mul (Int.pow_pos hw), div_mul (Int.pow_pos hw)] at eb
  show k / w ^ l % w < y / w ^ l % w
  have e1 := Int.emod_add_mul_ediv (k / w ^ l) w
  have e2 := Int.emod_add_mul_ediv (y / w ^ l) w
  rw [eb] at e2
  omega
theorem tr_short {w : Int} {h : Nat} {S : List Int} (hw : 0 < w) (hs : Srt S) {n : Int} : ∀ (f : Nat) (s : Nat × Int), mu S s ≤ f → Rch w h S n s → ((tr w S n s).length : Int) ≤ 1 + s.1 * w + (w - 1 - pos w s)
  | f, s, hf, r => by
    have hp := pos_b hw s
    have nn : 0 ≤ (s.1 : Int) * w := Int.mul_nonneg (by omega) (by omega)
    cases e : stp w S n s with
    | none =>
      rw [tr_stop hw hs e, List.length_singleton]
      omega
    | some s' =>
      have lt := stp_lt hw hs e
      have r' := rch_step hw hs r e
      rw [tr_go hw hs e, List.length_cons]
      cases f with
      | zero => omega
      | succ f =>
        have ih := tr_short hw hs f s' (by omega) r'
        have hp' := pos_b hw s'
        obtain ⟨l, k⟩ := s
        rcases stp_inv e with ⟨y, y1, y2, rfl⟩ | ⟨l', rfl, rfl, no⟩
        · have := pos_right hw hs r y1 y2
          show ((_ + 1 : Nat) : Int) ≤ 1 + (l : Int) * w + (w - 1 - pos w (l, k))
          replace ih : ((tr w S n (l, y)).length : Int) ≤ 1 + (l : Int) * w + (w - 1 - pos w (l, y)) := ih
          generalize (l : Int) * w = q at *
          omega
        · show ((_ + 1 : Nat) : Int) ≤ 1 + ((l' + 1 : Nat) : Int) * w + (w - 1 - pos w (l' + 1, k))
          replace ih : ((tr w S n (l', k)).length : Int) ≤ 1 + (l' : Int) * w + (w - 1 - pos w (l', k)) := ih
          have e3 : ((l' + 1 : Nat) : Int) * w = (l' : Int) * w + w := by
            rw [show ((l' + 1 : Nat) : Int) = (l' : Int) + 1 by omega, Int.add_mul, Int.one_mul]
          rw [e3]
          generalize (l' : Int) * w = q at *
          omega
theorem trail_short {w : Int} {h : Nat} {S : List Int} (hw : 0 < w) (h1 : 1 ≤ h) (hs : Srt S) {n : Int} (lo : ∀ z ∈ S, 0 ≤ z) (hi : ∀ z ∈ S, z < w ^ h) : ((trail w h S n).length : Int) ≤ 1 + h * w := by
  have nn : 0 ≤ (h : Int) * w := Int.mul_nonneg (by omega) (by omega)
  unfold trail
  cases eh : S.head? with
  | none => simp only [List.length_nil]; omega
  | some x =>
    simp only
    split
    · rename_i xn
      obtain ⟨g, rfl⟩ : ∃ g, h = g + 1 := ⟨h - 1, by omega⟩
      have r := rch_top hw hs lo hi eh xn
      have no : ∀ y, nx (w ^ (g + 1)) S x = some y → ¬ y ≤ n := fun y hy => by
        rw [rch_nx_top hw hs lo hi (head_mem eh)] at hy; cases hy
      have e := stp_down no
      have r' := rch_step hw hs r e
      rw [tr_go hw hs e, List.length_cons]
      have ih : ((tr w S n (g, x)).length : Int) ≤ 1 + (g : Int) * w + (w - 1 - pos w (g, x)) := tr_short hw hs _ (g, x) (Nat.le_refl _) r'
      have hp := pos_b hw (g, x)
      have e3 : ((g + 1 : Nat) : Int) * w = (g : Int) * w + w := by
        rw [show ((g + 1 : Nat) : Int) = (g : Int) + 1 by omega, Int.add_mul, Int.one_mul]
      rw [e3]
      generalize (g : Int) * w = q at *
      omega
    · simp only [List.length_nil]; omega
/-- the next one on a level, found by going along the row -/
theorem nx_walk {c : Int} {S : List Int} (hc : 0 < c) (h : Srt S) {i : Nat} {k b x : Int} (ex : S[i]? = some x) (eb : b / c = k / c) (sm : ∀ z ∈ S.take i, k < z → z / c = k / c) (kx : k < x) (ne : x / c ≠ b / c) : nx c S k = some x := by
  have a := div_le hc (Int.le_of_lt kx)
  refine (nx_some h).mpr ⟨List.mem_of_getElem? ex, by omega, fun z hz zl => ?_⟩
  have kz := lt_of_div hc zl
  obtain ⟨j, hj, rfl⟩ := List.mem_iff_getElem.mp hz
  have ej : S[j]? = some S[j] := List.getElem?_eq_getElem hj
  rcases Nat.lt_or_ge j i with q | q
  · have : S[j] ∈ S.take i := List.mem_take_iff_getElem.mpr ⟨j, by omega, rfl⟩
    have := sm _ this kz
    omega
  · rcases Nat.eq_or_lt_of_le q with q | q
    · subst q; rw [ej] at ex; cases ex; exact Int.le_refl _
    · exact Int.le_of_lt (get_lt h ex ej q)
theorem nx_walk_end {c : Int} {S : List Int} (hc : 0 < c) {k : Int} (sm : ∀ z ∈ S, k < z → z / c = k / c) : nx c S k = none := by
  refine nx_none.mpr fun z hz => ?_
  rcases Int.lt_or_le k z with q | q
  · have := sm z hz q; omega
  · exact div_le hc q
end Sk

/-! ### own rules and the steps by which a reading is gone through -/
namespace Lk
open PySem PySem.Spec PyProof.Rows L2
/-- a def of the text that keeps its promise, however its arguments are bound -/
def FO (P : Program) (w : World) (K : PySem.W.Frag) (mg : Str → Option Value) (base : Heap) (k : Nat) (f : Addr) (ps : List Str) (sp : Sp) : Prop :=
  ∃ fd, FnOk P w K mg base (L2.CX P w) k f fd ps sp ∧ Binds K fd ps []
section
variable {P : Program} {w : World} {K : PySem.W.Frag} {mg : Str → Option Value} {base : Heap}
theorem FO.mk' {x qual : Str} {st : Stmt} {f : Addr} {N ps : List Str} {k : Nat} {sp : Sp} (F : ∃ fd, Fun K x qual st f fd) (S : FnScope N ps (defScope st))
    (hb : ∀ fd, Fun K x qual st f fd → Binds K fd ps [])
    (len : ∀ vs H Q E, sp vs H Q E → vs.length = ps.length)
    (body : ∀ (cdv : Value) (A : Around) (outer : List Env) (s : Shared) (H : Hp) (vs : List V) (Q : VK) (E : XK), Room k (A.deeper (envOfC qual (defScope st) s.heap.objs.size f cdv)) → sp vs H Q E →
      ∃ t, PSs (cxOf (L2.CX P w) P w K mg base N qual (defScope st) f cdv A outer s H E) (defBody st) t ∧ t { nx := fun _ H' => Q .non H', rt := Q } (start N vs) H) :
    FO P w K mg base (k + 1) f ps sp := by
  obtain ⟨fd, F⟩ := F
  exact ⟨fd, F.okX S len body, hb fd F⟩
theorem FO.imp {f : Addr} {ps : List Str} {k : Nat} {sp sp' : Sp} (F : FO P w K mg base k f ps sp) (h : ∀ vs H Q E, sp' vs H Q E → sp vs H Q E) : FO P w K mg base k f ps sp' := by
  obtain ⟨fd, F, b⟩ := F
  exact ⟨fd, F.imp h, b⟩
end
/-! operators, each by a name of its own -/
def nAdd : R2 := rI0 fun i j => .int (i + j)
def nSub : R2 := rI0 fun i j => .int (i - j)
def nMul : R2 := rI CMul fun i j => .int (i * j)
def nMod : R2 := rI (fun _ j => 0 < j) fun i j => .int (i % j)
def nDiv : R2 := rI (fun _ j => 0 < j ∧ j < 2 ^ 64) fun i j => .int (i / j)
def nPow : R2 := rI CPow fun i j => .int (i ^ j.toNat)
def nLt : R2 := rI0 fun i j => .bl (decide (i < j))
def nLe : R2 := rI0 fun i j => .bl (decide (i ≤ j))
def nGt : R2 := rI0 fun i j => .bl (decide (j < i))
def nGe : R2 := rI0 fun i j => .bl (decide (j ≤ i))
def nIsN : R2 := fun x y H Q => y = .non ∧ Q (.bl (decide (x = .non))) H
def nNotN : R2 := fun x y H Q => y = .non ∧ Q (.bl (!decide (x = .non))) H
section
variable {X : Cx}
theorem o_add : OpR X (binaryOp .Add) nAdd := op_add
theorem o_sub : OpR X (binaryOp .Sub) nSub := op_sub
theorem o_mul : OpR X (binaryOp .Mult) nMul := op_mul
theorem o_mod : OpR X (binaryOp .Mod) nMod := op_mod
theorem o_pow : OpR X (binaryOp .Pow) nPow := op_pow
theorem o_div : OpR X (binaryOp .FloorDiv) nDiv := by
  intro pins s σ H x y v u Q I rx ry h
  obtain ⟨i, j, e1, e2, ⟨h1, h2⟩, q⟩ := h
  exact op_fdivW pins s σ H x y v u Q I rx ry ⟨i, j, e1, e2, wide_div (b := 64) h1 (by omega) (by decide) (by decide), q⟩
theorem o_lt : OpR X (compareOp .Lt) nLt := op_lt
theorem o_le : OpR X (compareOp .LtE) nLe := op_le
theorem o_gt : OpR X (compareOp .Gt) nGt := op_gt
theorem o_ge : OpR X (compareOp .GtE) nGe := op_ge
theorem o_isN : OpR X (compareOp .Is) nIsN := op_isN
theorem o_notN : OpR X (compareOp .IsNot) nNotN := op_notN
end
/-- an if whose ways meet again: what is known there is said by a word of one's own -/
def tSeqC (t u : TS) : TS := tSeq t u
theorem pss_consC {X : Cx} {st : Stmt} {sts : List Stmt} {t u : TS} (h1 : PS X st t) (h2 : PSs X sts u) : PSs X (st :: sts) (tSeqC t u) := pss_cons h1 h2
theorem g_seqC {t u : TS} {D : Ends} {σ : L2.St} {H : Hp} (h : t { D with nx := u D } σ H) : tSeqC t u D σ H := h
theorem g_cut {t u : TS} {D : Ends} {σ : L2.St} {H : Hp} (I : L2.St → Hp → Prop) (h1 : ∀ N : L2.St → Hp → Prop, (∀ σ' H', I σ' H' → N σ' H') → t { D with nx := N } σ H) (h2 : ∀ σ' H', I σ' H' → u D σ' H') : tSeqC t u D σ H := h1 _ h2
/-! fields, one step each -/
def dFld (K : PySem.W.Frag) (f : Str) : V → Hp → VK → Prop := fun x H1 Q => ∃ a C dx fs v, x = .ref a ∧ H1 a = some (.ins C dx fs) ∧ Cls K C ∧ NoAttr K C f ∧ fs.lookup f = some v ∧ Q v H1
def dBl (x : V) (H : Hp) (R : Bool → Hp → Prop) : Prop := ∃ k, x = .bl k ∧ R k H
def dNewL (xs : List V) (H1 : Hp) (Q : VK) : Prop := xs.length ≤ sizeLine ∧ ∀ p, H1 p = none → Q (.ref p) (upd H1 p (.lst xs))
def dNewT (xs : List V) (H1 : Hp) (Q : VK) : Prop := xs.length ≤ sizeLine ∧ ∀ p, H1 p = none → Q (.ref p) (upd H1 p (.tup xs))
def dRng (vs : List V) (H1 : Hp) (R : It → Hp → Prop) : Prop := ∃ j : Int, vs = [.int j] ∧ -(2 ^ 62) ≤ j ∧ j < 2 ^ 62 ∧ R (Itr 0 j.toNat) H1
def dGet : V → V → Hp → VK → Prop := fun x y H2 Q => ∃ a v, x = .ref a ∧ DGet H2 a y (some v) ∧ Q v H2
def dIn : V → V → Hp → VK → Prop := fun y x H2 Q => ∃ a o, x = .ref a ∧ DGet H2 a y o ∧ Q (.bl o.isSome) H2
def dNotIn : V → V → Hp → VK → Prop := fun y x H2 Q => ∃ a o, x = .ref a ∧ DGet H2 a y o ∧ Q (.bl (!o.isSome)) H2
section
variable {K : PySem.W.Frag} {σ : L2.St} {H : Hp} {Q : VK} {D : Ends} {v x y : V} {i j : Int} {n : Nat} {ta tb te tc : TE} {t u : TS} {c c2 : TT} {tA tr : TA} {b : Bool}
theorem g_seq (h : t { D with nx := u D } σ H) : tSeq t u D σ H := h
theorem g_pr1 {a b c : L2.St → Hp → Prop} {r : VK} (h : a σ H) : Ends.nx { nx := a, rt := r, bk := b, ct := c } σ H := h
theorem g_pr2 {a b c : L2.St → Hp → Prop} {r : VK} (h : r v H) : Ends.rt { nx := a, rt := r, bk := b, ct := c } v H := h
theorem g_next (h : D.nx σ H) : tNext D σ H := h
theorem g_set (h : te σ H fun x H1 => D.nx (σ.set n (some x)) H1) : tAsg te (gName n) D σ H := h
theorem g_ret (h : te σ H D.rt) : tRet te D σ H := h
theorem g_retN (h : D.rt .non H) : tRetN D σ H := h
theorem g_drop (h : te σ H fun _ H1 => D.nx σ H1) : tDrop te D σ H := h
theorem g_if (h : c σ H fun b H1 => if b = true then t D σ H1 else u D σ H1) : tIfS c t u D σ H := h
theorem g_var (e : σ[n]? = some (some v)) (h : Q v H) : tVar n σ H Q := ⟨v, e, h⟩
theorem g_c (h : Q v H) : tC v σ H Q := h
theorem g_op {r : R2} (h : ta σ H fun x H1 => tb σ H1 fun y H2 => r x y H2 Q) : tOp r ta tb σ H Q := h
theorem g_un {r : V → Hp → VK → Prop} (h : ta σ H fun x H1 => r x H1 Q) : tUn r ta σ H Q := h
theorem g_neg (h : Q (.int (-i)) H) : rU (fun i => .int (-i)) (.int i) H Q := ⟨i, rfl, h⟩
theorem g_test {R : Bool → Hp → Prop} (h : te σ H fun x H' => dBl x H' R) : tTest te σ H R := h
theorem g_tB {R : Bool → Hp → Prop} (h : te σ H fun x H' => dBl x H' R) : tB te σ H R := h
theorem g_bl {R : Bool → Hp → Prop} (h : R b H) : dBl (.bl b) H R := ⟨b, rfl, h⟩
theorem g_not {R : Bool → Hp → Prop} (h : c σ H fun k H1 => R (!k) H1) : tNot c σ H R := h
theorem g_and {R : Bool → Hp → Prop} (h : c σ H fun k H1 => if k = true then c2 σ H1 R else R false H1) : tAnd c c2 σ H R := h
theorem g_or {R : Bool → Hp → Prop} (h : c σ H fun k H1 => if k = true then R true H1 else c2 σ H1 R) : tOr c c2 σ H R := h
theorem g_andV (h : ta σ H fun x H1 => dBl x H1 fun k H1 => if k = true then tb σ H1 Q else Q (.bl false) H1) : tAndV ta tb σ H Q := h
theorem g_orV (h : ta σ H fun x H1 => dBl x H1 fun k H1 => if k = true then Q (.bl true) H1 else tb σ H1 Q) : tOrV ta tb σ H Q := h
theorem g_notV (h : ta σ H fun x H1 => dBl x H1 fun k H1 => Q (.bl (!k)) H1) : tNotV ta σ H Q := h
theorem g_ifE (h : c σ H fun k H1 => if k = true then ta σ H1 Q else tb σ H1 Q) : tIf c ta tb σ H Q := h
theorem g_add (h : Q (.int (i + j)) H) : nAdd (.int i) (.int j) H Q := ⟨i, j, rfl, rfl, h⟩
theorem g_sub (h : Q (.int (i - j)) H) : nSub (.int i) (.int j) H Q := ⟨i, j, rfl, rfl, h⟩
theorem g_mul (k : CMul i j) (h : Q (.int (i * j)) H) : nMul (.int i) (.int j) H Q := ⟨i, j, rfl, rfl, k, h⟩
theorem g_mod (k : 0 < j) (h : Q (.int (i % j)) H) : nMod (.int i) (.int j) H Q := ⟨i, j, rfl, rfl, k, h⟩
theorem g_div (k : 0 < j ∧ j < 2 ^ 64) (h : Q (.int (i / j)) H) : nDiv (.int i) (.int j) H Q := ⟨i, j, rfl, rfl, k, h⟩
theorem g_pow (k : CPow i j) (h : Q (.int (i ^ j.toNat)) H) : nPow (.int i) (.int j) H Q := ⟨i, j, rfl, rfl, k, h⟩
theorem g_lt (h : Q (.bl (decide (i < j))) H) : nLt (.int i) (.int j) H Q := ⟨i, j, rfl, rfl, h⟩
theorem g_le (h : Q (.bl (decide (i ≤ j))) H) : nLe (.int i) (.int j) H Q := ⟨i, j, rfl, rfl, h⟩
theorem g_gt (h : Q (.bl (decide (j < i))) H) : nGt (.int i) (.int j) H Q := ⟨i, j, rfl, rfl, h⟩
theorem g_ge (h : Q (.bl (decide (j ≤ i))) H) : nGe (.int i) (.int j) H Q := ⟨i, j, rfl, rfl, h⟩
theorem g_eqI (h : Q (.bl (decide (i = j))) H) : rEq (.int i) (.int j) H Q := ⟨rfl, by
  rw [show decide (V.int i = V.int j) = decide (i = j) by simp]
  exact h⟩
theorem g_neI (h : Q (.bl (!decide (i = j))) H) : rNe (.int i) (.int j) H Q := ⟨rfl, by
  rw [show decide (V.int i = V.int j) = decide (i = j) by simp]
  exact h⟩
theorem g_neB {a b : Bool} (h : Q (.bl (!decide (a = b))) H) : rNe (.bl a) (.bl b) H Q := ⟨rfl, by
  rw [show decide (V.bl a = V.bl b) = decide (a = b) by simp]
  exact h⟩
theorem g_isN (h : Q (.bl (decide (x = .non))) H) : nIsN x .non H Q := ⟨rfl, h⟩
theorem g_notN (h : Q (.bl (!decide (x = .non))) H) : nNotN x .non H Q := ⟨rfl, h⟩
theorem g_fld0 {f : Str} (h : ta σ H fun x H1 => dFld K f x H1 Q) : tFld K ta f σ H Q := h
theorem g_fld {f : Str} {a C dx : Addr} {fs : List (Str × V)} (ho : H a = some (.ins C dx fs)) (hc : Cls K C) (hn : NoAttr K C f) (hl : fs.lookup f = some v) (h : Q v H) : dFld K f (.ref a) H Q := ⟨a, C, dx, fs, v, rfl, ho, hc, hn, hl, h⟩
theorem g_get0 (h : ta σ H fun x H1 => tb σ H1 fun y H2 => dGet x y H2 Q) : tDGet ta tb σ H Q := h
theorem g_get {a : Addr} {kvs : List (Key × V)} (ho : H a = some (.dK kvs)) (e : valV kvs (Sum.inl i) = some v) (h : Q v H) : dGet (.ref a) (.int i) H Q :=
  ⟨a, v, rfl, e ▸ DGet.k (k := Sum.inl i) ho, h⟩
theorem g_in0 (h : ta σ H fun y H1 => tb σ H1 fun x H2 => dIn y x H2 Q) : tDIn ta tb σ H Q := h
theorem g_in {a : Addr} {kvs : List (Key × V)} (ho : H a = some (.dK kvs)) (h : Q (.bl (valV kvs (Sum.inl i)).isSome) H) : dIn (.int i) (.ref a) H Q :=
  ⟨a, _, rfl, DGet.k (k := Sum.inl i) ho, h⟩
theorem g_nin0 (h : ta σ H fun y H1 => tb σ H1 fun x H2 => dNotIn y x H2 Q) : tDNotIn ta tb σ H Q := h
theorem g_nin {a : Addr} {kvs : List (Key × V)} (ho : H a = some (.dK kvs)) (h : Q (.bl (!(valV kvs (Sum.inl i)).isSome)) H) : dNotIn (.int i) (.ref a) H Q :=
  ⟨a, _, rfl, DGet.k (k := Sum.inl i) ho, h⟩
theorem g_nil {R : List V → Hp → Prop} (h : R [] H) : tNil σ H R := h
theorem g_cons {R : List V → Hp → Prop} (h : ta σ H fun x H1 => tr σ H1 fun xs H2 => R (x :: xs) H2) : tCons ta tr σ H R := h
theorem g_call {sp : Sp} {E : XK} (h : tA σ H fun vs H1 => sp vs H1 Q E) : tCall sp [] E tA σ H Q := by
  unfold tCall
  simpa using h
def dMeth (C : Addr) (m : Str) (sp : Sp) (E : XK) (σ : L2.St) (t : TA) : V → Hp → VK → Prop := fun x H1 Q => ∃ a dx fs, x = .ref a ∧ H1 a = some (.ins C dx fs) ∧ fs.lookup m = none ∧ t σ H1 fun vs H2 => sp (x :: vs) H2 Q E
theorem g_meth0 {C : Addr} {m : Str} {sp : Sp} {E : XK} (h : ta σ H fun x H1 => dMeth C m sp E σ tA x H1 Q) : tMeth C m sp [] E ta tA σ H Q := by
  unfold tMeth
  unfold dMeth at h
  simpa using h
theorem g_meth {C a dx : Addr} {fs : List (Str × V)} {m : Str} {sp : Sp} {E : XK} (ho : H a = some (.ins C dx fs)) (hl : fs.lookup m = none) (h : tA σ H fun vs H2 => sp (.ref a :: vs) H2 Q E) : dMeth C m sp E σ tA (.ref a) H Q :=
  ⟨a, dx, fs, rfl, ho, hl, h⟩
theorem g_callB {r : List V → Hp → VK → Prop} (h : tA σ H fun vs H1 => r vs H1 Q) : tCB r tA σ H Q := h
theorem g_tup0 (h : tA σ H fun xs H1 => dNewT xs H1 Q) : tTup tA σ H Q := h
theorem g_lst0 (h : tA σ H fun xs H1 => dNewL xs H1 Q) : tLst tA σ H Q := h
theorem g_for {wi : TI} {g : TG} (h : wi σ H fun J H1 => ∃ W : Nat → Nat → L2.St → Hp → Prop, (∃ m, W 0 m σ H1) ∧ ∀ i m σ H, W i m σ H →
  (J.stop i H ∧ D.nx σ H) ∨ (J.go i H ∧ ∃ N : L2.St → Hp → Prop, (∀ σ' H', N σ' H' → ∃ m', m' < m ∧ W (i + 1) m' σ' H') ∧ ∀ x H', J.yld i H x H' → g x σ H' fun σ2 H2 => t { D with nx := N, ct := N, bk := D.nx } σ2 H2)) : tFor wi g t D σ H := h
theorem g_rng1 {R : It → Hp → Prop} (h : tA σ H fun vs H1 => dRng vs H1 R) : iRng1 tA σ H R := h
theorem g_rng {R : It → Hp → Prop} (h1 : -(2 ^ 62) ≤ i) (h2 : i < 2 ^ 62) (h : R (Itr 0 i.toNat) H) : dRng [.int i] H R := ⟨i, rfl, h1, h2, h⟩
theorem g_name (f : L2.St → Hp → Prop) (h : f (σ.set n (some v)) H) : gName n v σ H f := h
theorem g_ite {A B : Prop} (h1 : b = true → A) (h2 : b = false → B) : if b = true then A else B := by
  cases b with
  | true => exact iteT (h1 rfl)
  | false => exact iteF (h2 rfl)
theorem g_tt {A B : Prop} (h : A) : if true = true then A else B := iteT h
theorem g_ff {A B : Prop} (h : B) : if false = true then A else B := iteF h
theorem g_iteT {A B : Prop} (e : b = true) (h : A) : if b = true then A else B := by rw [if_pos e]; exact h
theorem g_iteF {A B : Prop} (e : b = false) (h : B) : if b = true then A else B := by rw [if_neg (by rw [e]; exact Bool.false_ne_true)]; exact h
theorem g_body {W : Nat → L2.St → Hp → Prop} {m : Nat} (h : t { D with nx := fun σ' H' => ∃ m', m' < m ∧ W m' σ' H', ct := fun σ' H' => ∃ m', m' < m ∧ W m' σ' H', bk := D.nx } σ H) :
    ∃ N : L2.St → Hp → Prop, (∀ σ' H', N σ' H' → ∃ m', m' < m ∧ W m' σ' H') ∧ t { D with nx := N, ct := N, bk := D.nx } σ H := ⟨_, fun _ _ z => z, h⟩
theorem g_while (W : Nat → L2.St → Hp → Prop) (m : Nat) (h0 : W m σ H) (hs : ∀ m σ H, W m σ H → c σ H fun b H1 => if b = true then ∃ N : L2.St → Hp → Prop, (∀ σ' H', N σ' H' → ∃ m', m' < m ∧ W m' σ' H') ∧ t { D with nx := N, ct := N, bk := D.nx } σ H1 else D.nx σ H1) : tWhile c t D σ H := ⟨W, ⟨m, h0⟩, hs⟩
theorem g_ixL {p : Addr} {xs : List V} (hs : SqL K H p xs) (e : atI xs i = some v) (h : Q v H) : rIxL K (.ref p) (.int i) H Q := ⟨p, xs, i, v, rfl, rfl, hs, e, h⟩
theorem g_ixT {p : Addr} {xs : List V} (hs : SqT K H p xs) (e : atI xs i = some v) (h : Q v H) : rIxT K (.ref p) (.int i) H Q := ⟨p, xs, i, v, rfl, rfl, hs, e, h⟩
def nLen (K : PySem.W.Frag) : List V → Hp → VK → Prop := fun xs H Q => ∃ p ys, xs = [.ref p] ∧ (SqL K H p ys ∨ SqT K H p ys) ∧ Q (.int ys.length) H
theorem c_len {X : Cx} : CallR X (.builtin "len") (nLen X.K) := call_len_seq
theorem g_lenL {p : Addr} {xs : List V} (hs : SqL K H p xs) (h : Q (.int xs.length) H) : nLen K [.ref p] H Q := ⟨p, xs, rfl, .inl hs, h⟩
theorem g_lenT {p : Addr} {xs : List V} (hs : SqT K H p xs) (h : Q (.int xs.length) H) : nLen K [.ref p] H Q := ⟨p, xs, rfl, .inr hs, h⟩
def nLenD : List V → Hp → VK → Prop := fun xs H Q => ∃ a kvs, xs = [V.ref a] ∧ H a = some (.dK kvs) ∧ Q (.int kvs.length) H
theorem c_lenD {X : Cx} : CallR X (.builtin "len") nLenD := call_lenD
theorem g_lenD {p : Addr} {kvs : List (Key × V)} (hs : H p = some (.dK kvs)) (h : Q (.int kvs.length) H) : nLenD [.ref p] H Q := ⟨p, kvs, rfl, hs, h⟩
def nMax2 : List V → Hp → VK → Prop := fun xs H Q => ∃ i j, xs = [.int i, .int j] ∧ Q (.int (if j > i then j else i)) H
def nMin2 : List V → Hp → VK → Prop := fun xs H Q => ∃ i j, xs = [.int i, .int j] ∧ Q (.int (if j < i then j else i)) H
theorem c_max2 {X : Cx} (hc : X.calm = true) : CallR X (.builtin "max") nMax2 := call_max2 hc
theorem c_min2 {X : Cx} (hc : X.calm = true) : CallR X (.builtin "min") nMin2 := call_min2 hc
theorem g_max2 (h : Q (.int (max i j)) H) : nMax2 [.int i, .int j] H Q := ⟨i, j, rfl, by
  rw [show (if j > i then j else i) = max i j by rw [Int.max_def]; split <;> split <;> omega]
  exact h⟩
theorem g_min2 (h : Q (.int (min i j)) H) : nMin2 [.int i, .int j] H Q := ⟨i, j, rfl, by
  rw [show (if j < i then j else i) = min i j by rw [Int.min_def]; split <;> split <;> omega]
  exact h⟩
end
theorem g_isi {K : PySem.W.Frag} {H : Hp} {Q : VK} {x c : V} {t u : Value} {b : Bool} (ty : TyX K H x t) (cl : ClsV c u) (e : PySem.W.kitOne K t u = some b) (h : Q (.bl b) H) : rIsi K [x, c] H Q := ⟨x, c, t, u, b, rfl, cl, ty, e, h⟩
def dList (K : PySem.W.Frag) (x : V) (H1 : Hp) (R : It → Hp → Prop) : Prop := ∃ a, x = .ref a ∧ (∃ xs, SqL K H1 a xs) ∧ R (Itl K a) H1
theorem g_iL {K : PySem.W.Frag} {tl : TE} {σ : L2.St} {H : Hp} {R : It → Hp → Prop} (h : tl σ H fun x H1 => dList K x H1 R) : iList K tl σ H R := h
theorem g_lit {K : PySem.W.Frag} {H : Hp} {R : It → Hp → Prop} {a : Addr} {xs : List V} (hs : SqL K H a xs) (h : R (Itl K a) H) : dList K (.ref a) H R := ⟨a, rfl, ⟨_, hs⟩, h⟩
theorem map_get {α β : Type} {f : α → β} {l : List α} {i : Nat} {y : β} (h : (l.map f)[i]? = some y) : ∃ z, l[i]? = some z ∧ y = f z := by
  rw [List.getElem?_map, Option.map_eq_some_iff] at h
  obtain ⟨z, h1, h2⟩ := h
  exact ⟨z, h1, h2.symm⟩
theorem get_map {α β : Type} {f : α → β} {l : List α} {i : Nat} {z : α} (h : l[i]? = some z) : (l.map f)[i]? = some (f z) := by
  rw [List.getElem?_map, h] <;> rfl
def dAll (K : PySem.W.Frag) : List V → Hp → VK → Prop := fun vs H Q => ∃ (a : Addr) (bs : List Bool), vs = [V.ref a] ∧ SqL K H a (bs.map V.bl) ∧ Q (.bl (bs.all id)) H
theorem c_all {X : Cx} (hc : X.calm = true) : CallR X (.builtin "all") (dAll X.K) := cr_all hc
theorem g_all {K : PySem.W.Frag} {H : Hp} {Q : VK} {a : Addr} {bs : List Bool} (hs : SqL K H a (bs.map V.bl)) (e : bs.all id = true) (h : Q (.bl true) H) : dAll K [.ref a] H Q := ⟨a, bs, rfl, hs, by rw [e]; exact h⟩
def nListOf (K : PySem.W.Frag) : List V → Hp → VK → Prop := fun xs H Q => ∃ p ys, xs = [.ref p] ∧ (SqL K H p ys ∨ SqT K H p ys) ∧ ∀ l, H l = none → Q (.ref l) (upd H l (.lst ys))
theorem c_listOf {X : Cx} : CallR X (.type "list") (nListOf X.K) := call_list_of
/-- 1, w, w * w, .. -/
def sz (w : Int) (n : Nat) : List Int := (List.range (n + 1)).map fun j => w ^ j
theorem sz_zero (w : Int) : sz w 0 = [1] := by
  show [w ^ 0] = [1]
  rw [Int.pow_zero]
theorem sz_succ (w : Int) (n : Nat) : sz w (n + 1) = sz w n ++ [w ^ (n + 1)] := by
  unfold sz
  rw [List.range_succ, List.map_append]
  rfl
theorem sz_len (w : Int) (n : Nat) : (sz w n).length = n + 1 := by unfold sz; rw [List.length_map, List.length_range]
theorem sz_get {w : Int} {n j : Nat} (h : j ≤ n) : (sz w n)[j]? = some (w ^ j) := by
  unfold sz
  rw [List.getElem?_map, List.getElem?_range (by omega)]
  rfl
theorem sz_last {w : Int} {n : Nat} : atI ((sz w n).map V.int) (-1) = some (.int (w ^ n)) := by
  cases n with
  | zero => exact atI_last [] _
  | succ n =>
    rw [sz_succ, List.map_append]
    exact atI_last _ _
theorem sz_at {w : Int} {n j : Nat} (h : j ≤ n) : atI ((sz w n).map V.int) (j : Int) = some (.int (w ^ j)) := atI_nat (get_map (sz_get h))
def dLrg (x : V) (H1 : Hp) (Q : VK) : Prop := ∃ n, x = .int n ∧ RgOk 0 n ∧ ∀ q, H1 q = none → Q (.ref q) (upd H1 q (.lst (rgV 0 n)))
theorem g_lrg0 {ta : TE} {σ : L2.St} {H : Hp} {Q : VK} (h : ta σ H fun x H1 => dLrg x H1 Q) : tLstRg (tRg1 ta) σ H Q := h
theorem g_lrg {H : Hp} {Q : VK} {n : Nat} (hn : n ≤ 1000) (h : ∀ q, H q = none → Q (.ref q) (upd H q (.lst (((List.range n).map fun i => ((i : Nat) : Int)).map V.int)))) : dLrg (.int (n : Int)) H Q :=
  ⟨n, rfl, .of_le (by omega) (by omega) (by omega) (by omega), fun q hq => by
    have e : rgV 0 (n : Int) = ((List.range n).map fun i => ((i : Nat) : Int)).map V.int := by
      unfold rgV
      rw [List.map_map, show ((n : Int) - 0).toNat = n by omega]
      exact List.map_congr_left fun i _ => by show V.int (0 + (i : Int)) = _; rw [Int.zero_add]; rfl
    rw [e]
    exact h q hq⟩
/-! targets -/
section
variable {K : PySem.W.Frag} {σ : L2.St} {H : Hp} {v o i x : V}
theorem g_gtup {n : Nat} {t : TGs} {a : Addr} {xs : List V} {f : L2.St → Hp → Prop} (hs : SqT K H a xs) (hl : xs.length = n) (h : t xs σ H f) : gTup K n t (.ref a) σ H f := ⟨a, xs, rfl, hs, hl, h⟩
theorem g_gcons {t : TG} {u : TGs} {r : List V} {f : L2.St → Hp → Prop} (h : t x σ H fun σ' H' => u r σ' H' f) : gCons t u (x :: r) σ H f := ⟨x, r, rfl, h⟩
theorem g_gnil {f : L2.St → Hp → Prop} (h : f σ H) : gNil [] σ H f := ⟨rfl, h⟩
theorem g_asgT {te : TE} {D : Ends} {n : Nat} {t : TGs} (h : te σ H fun x H1 => gTup K n t x σ H1 D.nx) : tAsg te (gTup K n t) D σ H := h
theorem g_asgS {te to ti : TE} {D : Ends} {t : TSet} (h : te σ H fun x H1 => to σ H1 fun o H2 => ti σ H2 fun i H3 => t o i x H3 fun H4 => D.nx σ H4) : tAsg te (gSub to ti t) D σ H := h
theorem ixN_nat {n j : Nat} (h : j < n) : ixN n (j : Int) = some j := by
  unfold ixN
  rw [if_pos (by omega), if_pos (by omega)]
  rfl
theorem g_setL {p : Addr} {xs : List V} {j : Nat} {f : Hp → Prop} (h : H p = some (.lst xs)) (hj : j < xs.length) (q : f (upd H p (.lst (xs.set j v)))) : rSetL (.ref p) (.int (j : Int)) v H f := ⟨p, xs, j, j, rfl, rfl, h, ixN_nat hj, q⟩
end
theorem set_map {n j : Nat} {f : Nat → V} {v : V} (hj : j < n) : ((List.range n).map f).set j v = (List.range n).map fun i => if i = j then v else f i := by
  refine List.ext_getElem? fun i => ?_
  by_cases hi : i < n
  · by_cases e : i = j
    · subst e
      rw [List.getElem?_set_self (by simp; exact hi), List.getElem?_map, List.getElem?_range hi]
      simp
    · rw [List.getElem?_set_ne (Ne.symm e), List.getElem?_map, List.getElem?_map, List.getElem?_range hi]
      simp [e]
  · rw [List.getElem?_eq_none (by simp; omega), List.getElem?_eq_none (by simp; omega)]
/-! the rules, the written part told (within a comprehension it must be) -/
section
variable {X : Cx} {K : PySem.W.Frag} (e : X.K = K)
include e
theorem k_ixL : IxR X (rIxL K) := e ▸ ix_list
theorem k_ixT : IxR X (rIxT K) := e ▸ ix_tup
theorem k_len : CallR X (.builtin "len") (nLen K) := e ▸ c_len
theorem k_listOf : CallR X (.type "list") (nListOf K) := e ▸ c_listOf
theorem k_in : OpR X (compareOp .In) (rIn K false) := e ▸ op_in_seq
theorem k_nin : OpR X (compareOp .NotIn) (rIn K true) := e ▸ op_notIn_seq
theorem k_eqD (hu : X.A.units + 64 < cLine) : OpR X (compareOp .Eq) (rEqD K) := e ▸ op_eqD hu
theorem k_neD (hu : X.A.units + 64 < cLine) : OpR X (compareOp .NotEq) (rNeD K) := e ▸ op_neD hu
theorem k_isi : CallR X (.builtin "isinstance") (rIsi K) := e ▸ call_isi
theorem k_slL : SlR X (rSlL K) := e ▸ sl_list
theorem k_fld {o : Expr} {f : Str} {pos : Pos} {ta : TE} (he : PE X o ta) (hb : attributeBase o f X.env (eval o X.env) = eval o X.env) : PE X (.Attribute o f pos) (tFld K ta f) := e ▸ pe_fld he hb
theorem k_iL {tg l : Expr} {tl : TE} (hl : PE X l tl) : PI X tg l (iList K tl) := e ▸ pi_list hl
end
theorem pow_pos' {w : Int} (h : 0 < w) (n : Nat) : 0 < w ^ n := Int.pow_pos h
theorem atI_c0 {xs : List V} {v : V} (h : xs[0]? = some v) : atI xs 0 = some v := atI_nat (j := 0) h
theorem atI_c1 {xs : List V} {v : V} (h : xs[1]? = some v) : atI xs 1 = some v := atI_nat (j := 1) h
theorem atI_c2 {xs : List V} {v : V} (h : xs[2]? = some v) : atI xs 2 = some v := atI_nat (j := 2) h
/-- the cell at k of the script, or nought -/
def cellAt (ns : List Int) (k : Int) : Int := if k < 0 then 0 else ns.getD k.toNat 0
end Lk

/-! ### data: what == tells of lists and tuples -/
namespace Lk
open PySem PySem.Spec PyProof.Rows L2
structure Sh (k : Nat) (d : PyData) : Prop where
  lay : d.canLay0 = true
  dep : d.depth ≤ k
theorem sh_int {k : Nat} (i : Int) : Sh k (.int i) := ⟨by simp only [PyData.canLay0], by simp only [PyData.depth]; omega⟩
theorem sh_non {k : Nat} : Sh k .none := ⟨by simp only [PyData.canLay0], by simp only [PyData.depth]; omega⟩
theorem sh_bl {k : Nat} (b : Bool) : Sh k (.bool b) := ⟨by simp only [PyData.canLay0], by simp only [PyData.depth]; omega⟩
theorem lay_all : ∀ {ds : List PyData}, (∀ d ∈ ds, d.canLay0 = true) → PyData.canLayAll0 ds = true
  | [], _ => by simp only [PyData.canLayAll0]
  | d :: r, h => by
    have h1 := h d List.mem_cons_self
    have h2 := lay_all fun x hx => h x (List.mem_cons_of_mem _ hx)
    simp only [PyData.canLayAll0, h1, h2, Bool.and_self]
theorem dep_all {k : Nat} : ∀ {ds : List PyData}, (∀ d ∈ ds, d.depth ≤ k) → PyData.depthAll ds ≤ k
  | [], _ => by simp only [PyData.depthAll]; omega
  | d :: r, h => by
    have h1 := h d List.mem_cons_self
    have h2 := dep_all (ds := r) fun x hx => h x (List.mem_cons_of_mem _ hx)
    simp only [PyData.depthAll]
    omega
theorem sh_lst {k : Nat} {ds : List PyData} (h : ∀ d ∈ ds, Sh k d) : Sh (k + 1) (.list ds) := ⟨by simp only [PyData.canLay0]; exact lay_all fun d hd => (h d hd).lay, by
  have := dep_all fun d hd => (h d hd).dep
  simp only [PyData.depth]
  omega⟩
theorem sh_tup {k : Nat} {ds : List PyData} (h : ∀ d ∈ ds, Sh k d) : Sh (k + 1) (.tuple ds) := ⟨by simp only [PyData.canLay0]; exact lay_all fun d hd => (h d hd).lay, by
  have := dep_all fun d hd => (h d hd).dep
  simp only [PyData.depth]
  omega⟩
theorem sh_ints {k : Nat} (ns : List Int) : Sh (k + 1) (.list (ns.map .int)) := sh_lst fun d hd => by
  obtain ⟨i, _, rfl⟩ := List.mem_map.mp hd
  exact sh_int i
theorem Sh.ok {k : Nat} {d : PyData} (s : Sh k d) (h : k ≤ 64) : SeqAt.shaped d = true := by
  show (d.canLay0 && decide (d.depth ≤ 64)) = true
  rw [s.lay, decide_eq_true (Nat.le_trans s.dep h)]
  rfl
/-- all but what stands at d is as it was -/
abbrev But' (d : Addr) (H H' : Hp) : Prop := ∀ b, b ≠ d → H' b = H b
section
variable {K : PySem.W.Frag} {H H' : Hp} {Q : VK} {x y : V} {d : PyData} {k : Nat}
theorem g_eqD (hx : Dp K H x d) (hy : Dp K H y d) (s : Sh k d) (h : Q (.bl true) H) (hk : k ≤ 64 := by decide) : rEqD K x y H Q := ⟨d, d, hx, hy, s.ok hk, s.ok hk, by rw [SeqAt.eqv_refl d s.lay]; exact h⟩
theorem g_neD (hx : Dp K H x d) (hy : Dp K H y d) (s : Sh k d) (h : Q (.bl false) H) (hk : k ≤ 64 := by decide) : rNeD K x y H Q := ⟨d, d, hx, hy, s.ok hk, s.ok hk, by rw [SeqAt.eqv_refl d s.lay]; exact h⟩
theorem eqv_nil (ds : List PyData) : PyData.eqv (.list ds) (.list []) = ds.isEmpty := by
  cases ds <;> simp [PyData.eqv, PyData.eqvAll]
theorem g_eqNil {ds : List PyData} (hx : Dp K H x (.list ds)) (hy : Dp K H y (.list [])) (s : Sh k (.list ds)) (h : Q (.bl ds.isEmpty) H) (hk : k ≤ 64 := by decide) : rEqD K x y H Q :=
  ⟨_, _, hx, hy, s.ok hk, (sh_ints (k := 0) []).ok (by decide), by rw [eqv_nil]; exact h⟩
theorem g_neNil {ds : List PyData} (hx : Dp K H x (.list ds)) (hy : Dp K H y (.list [])) (s : Sh k (.list ds)) (h : Q (.bl (!ds.isEmpty)) H) (hk : k ≤ 64 := by decide) : rNeD K x y H Q :=
  ⟨_, _, hx, hy, s.ok hk, (sh_ints (k := 0) []).ok (by decide), by rw [eqv_nil]; exact h⟩
theorem dpl_ints : ∀ ns : List Int, DpAll K H (ns.map V.int) (ns.map PyData.int)
  | [] => .nil
  | n :: r => .cons (.int n) (dpl_ints r)
theorem dp_ints {a : Addr} {ns : List Int} (h : SqL K H a (ns.map V.int)) : Dp K H (.ref a) (.list (ns.map .int)) := .lst h (dpl_ints ns)
theorem dp_nil {a : Addr} (h : SqL K H a []) : Dp K H (.ref a) (.list []) := .lst h .nil
theorem Same.rd {u : HO} {a : Addr} (s : Same H H') (h : Rd H a u) : Rd H' a u := by
  rcases h with h | ⟨o, h⟩
  · exact .inl (s _ _ h)
  · exact .inr ⟨o, s _ _ h⟩
theorem Same.tup {a : Addr} {xs : List V} (s : Same H H') (h : SqT K H a xs) : SqT K H' a xs := by
  rcases h with h | h
  · exact .inl (Same.rd s h)
  · exact .inr h
mutual
theorem Dp.mono (s : Same H H') : ∀ (d : PyData) (v : V), Dp K H v d → Dp K H' v d
  | .none, _, h => by cases h; exact .non
  | .bool b, _, h => by cases h; exact .bl b
  | .int i, _, h => by cases h; exact .int i
  | .str z, _, h => by cases h; exact .str z
  | .list ds, _, h => by
    cases h with
    | lst hs ha => exact .lst (Same.seq s hs) (DpAll.mono s ds _ ha)
  | .tuple ds, _, h => by
    cases h with
    | tup hs ha => exact .tup (Same.tup s hs) (DpAll.mono s ds _ ha)
  | .dict _, _, h => by cases h
theorem DpAll.mono (s : Same H H') : ∀ (ds : List PyData) (vs : List V), DpAll K H vs ds → DpAll K H' vs ds
  | [], _, h => by cases h; exact .nil
  | d :: ds, _, h => by
    cases h with
    | cons h1 h2 => exact .cons (Dp.mono s d _ h1) (DpAll.mono s ds _ h2)
end
theorem same_new {p : Addr} {o : HO} (h : H p = none) : Same H (upd H p o) := fun b u e => by
  rw [upd_ne (ne_of_none e h)]
  exact e
theorem same_mut {p : Addr} {o : HO} (s : Same H H') (h : H p = none) : Same H (upd H' p o) := fun b u e => by
  rw [upd_ne (ne_of_none e h)]
  exact s b u e
/-- a new list, a new tuple -/
theorem g_newL {xs : List V} (h1 : xs.length ≤ 1000) (h2 : ∀ p H', H p = none → Same H H' → H' p = some (.lst xs) → Q (.ref p) H') : dNewL xs H Q :=
  ⟨Nat.le_of_lt (small1000 h1), fun p hp => h2 p _ hp (same_new hp) upd_same⟩
theorem g_newT {xs : List V} (h1 : xs.length ≤ 1000) (h2 : ∀ p H', H p = none → Same H H' → H' p = some (.tup xs) → Q (.ref p) H') : dNewT xs H Q :=
  ⟨Nat.le_of_lt (small1000 h1), fun p hp => h2 p _ hp (same_new hp) upd_same⟩
theorem g_listOf {a : Addr} {xs : List V} (hs : SqL K H a xs) (h2 : ∀ p H', H p = none → Same H H' → H' p = some (.lst xs) → Q (.ref p) H') : nListOf K [.ref a] H Q := ⟨a, xs, rfl, .inl hs, fun p hp => h2 p _ hp (same_new hp) upd_same⟩
/-- xs.append(y) -/
theorem g_append {σ : L2.St} {to : TE} {tA : TA} (h : to σ H fun x H1 => tyV K "list" x H1 ∧ tA σ H1 fun xs H2 => rAppend x xs H2 Q) : tBM K "list" rAppend to tA σ H Q := h
theorem ty_lst {a : Addr} {xs : List V} (h : H a = some (.lst xs)) : tyV K "list" (.ref a) H := Or.inl ⟨rfl, _, Or.inl (Or.inl h)⟩
theorem g_app {a : Addr} {xs : List V} (h : H a = some (.lst xs)) (hl : xs.length ≤ 1000) (q : Q .non (upd H a (.lst (xs ++ [y])))) : rAppend (.ref a) [y] H Q := ⟨a, xs, y, rfl, rfl, h, small1000 hl, q⟩
/-! lists of tuples -/
def TupL (H : Hp) (q : Addr) (xs : List (List V)) : Prop := ∃ as : List Addr, H q = some (.lst (as.map V.ref)) ∧ Paired (fun a x => H a = some (.tup x)) as xs
theorem paired_same {as : List Addr} {xs : List (List V)} (s : Same H H') (h : Paired (fun a x => H a = some (.tup x)) as xs) : Paired (fun a x => H' a = some (.tup x)) as xs := Paired.mapP h fun _ _ e => s _ _ e
theorem paired_snoc {α β : Type} {F : α → β → Prop} : ∀ {as : List α} {xs : List β} {a : α} {x : β}, Paired F as xs → F a x → Paired F (as ++ [a]) (xs ++ [x])
  | _, _, _, _, .nil, h => .cons h .nil
  | _, _, _, _, .cons r t, h => .cons r (paired_snoc t h)
theorem paired_len {α β : Type} {F : α → β → Prop} : ∀ {as : List α} {xs : List β}, Paired F as xs → as.length = xs.length
  | _, _, .nil => rfl
  | _, _, .cons _ t => by rw [List.length_cons, List.length_cons, paired_len t]
theorem paired_get {α β : Type} {F : α → β → Prop} : ∀ {as : List α} {xs : List β} {i : Nat} {x : β}, Paired F as xs → xs[i]? = some x → ∃ a, as[i]? = some a ∧ F a x
  | _, _, _, _, .nil, e => by simp at e
  | _, _, 0, _, .cons r _, e => by simp at e; subst e; exact ⟨_, rfl, r⟩
  | _, _, i + 1, _, .cons _ t, e => by simpa using paired_get (i := i) t (by simpa using e)
theorem TupL.same {q : Addr} {xs : List (List V)} (s : Same H H') (h : TupL H q xs) : TupL H' q xs := by
  obtain ⟨as, h1, h2⟩ := h
  exact ⟨as, s _ _ h1, paired_same s h2⟩
theorem tupl_nil {q : Addr} (h : H q = some (.lst [])) : TupL H q [] := ⟨[], h, .nil⟩
/-- found.append((..)): the tuple new at t -/
theorem g_appT {q t : Addr} {xs : List (List V)} {x : List V} (h : TupL H q xs) (ht : H t = some (.tup x)) (hl : xs.length ≤ 1000) (k : ∀ H', But' q H H' → TupL H' q (xs ++ [x]) → Q .non H') : rAppend (.ref q) [.ref t] H Q := by
  obtain ⟨as, h1, h2⟩ := h
  refine g_app h1 (by rw [List.length_map, paired_len h2]; exact hl) (k _ (fun b hb => upd_ne hb) ⟨as ++ [t], by rw [upd_same, List.map_append]; rfl, ?_⟩)
  refine Paired.mapP (paired_snoc h2 ht) fun a y e => ?_
  rw [upd_ne (ne_of e h1 (by intro z; cases z))]
  exact e
theorem paired_last {α β : Type} {F : α → β → Prop} {as : List α} {xs : List β} {x : β} (h : Paired F as xs) (e : xs.getLast? = some x) : ∃ bs a, as = bs ++ [a] ∧ F a x := by
  have hl := paired_len h
  rw [List.getLast?_eq_getElem?] at e
  obtain ⟨a, h1, h2⟩ := paired_get h e
  rw [← hl, ← List.getLast?_eq_getElem?] at h1
  obtain ⟨bs, rfl⟩ := List.getLast?_eq_some_iff.mp h1
  exact ⟨bs, a, rfl, h2⟩
theorem TupL.last {q : Addr} {xs : List (List V)} {x : List V} (h : TupL H q xs) (e : xs.getLast? = some x) : ∃ vs t, H q = some (.lst vs) ∧ atI vs (-1) = some (.ref t) ∧ H t = some (.tup x) := by
  obtain ⟨as, h1, h2⟩ := h
  obtain ⟨bs, t, rfl, ht⟩ := paired_last h2 e
  refine ⟨_, t, h1, ?_, ht⟩
  rw [List.map_append]
  exact atI_last _ _
def vD : V → PyData
  | .int i => .int i
  | .bl b => .bool b
  | _ => .none
def plainV : V → Bool
  | .int _ => true
  | .bl _ => true
  | .non => true
  | _ => false
theorem dp_v {v : V} (h : plainV v = true) : Dp K H v (vD v) := by
  cases v <;> first | exact .int _ | exact .bl _ | exact .non | cases h
theorem dpl_v : ∀ {xs : List V}, (∀ v ∈ xs, plainV v = true) → DpAll K H xs (xs.map vD)
  | [], _ => .nil
  | v :: r, h => .cons (dp_v (h v List.mem_cons_self)) (dpl_v fun x hx => h x (List.mem_cons_of_mem _ hx))
theorem dp_tup {t : Addr} {xs : List V} (h : SqT K H t xs) (hp : ∀ v ∈ xs, plainV v = true) : Dp K H (.ref t) (.tuple (xs.map vD)) := .tup h (dpl_v hp)
theorem dp_tups : ∀ {as : List Addr} {xs : List (List V)}, Paired (fun a x => H a = some (.tup x)) as xs → (∀ x ∈ xs, ∀ v ∈ x, plainV v = true) → DpAll K H (as.map V.ref) (xs.map fun x => .tuple (x.map vD))
  | _, _, .nil, _ => .nil
  | _, _, .cons r t, h => .cons (dp_tup (SqT.of r) (h _ List.mem_cons_self)) (dp_tups t fun x hx => h x (List.mem_cons_of_mem _ hx))
theorem TupL.dp {q : Addr} {xs : List (List V)} (h : TupL H q xs) (hp : ∀ x ∈ xs, ∀ v ∈ x, plainV v = true) : Dp K H (.ref q) (.list (xs.map fun x => .tuple (x.map vD))) := by
  obtain ⟨as, h1, h2⟩ := h
  exact .lst (.of h1) (dp_tups h2 hp)
theorem sh_v {k : Nat} (v : V) : Sh k (vD v) := by
  cases v <;> first | exact sh_int _ | exact sh_bl _ | exact sh_non
theorem sV_plain : ∀ {xs : List (Nat × Int)}, ∀ x ∈ xs.map (fun s => [V.int (s.1 : Int), V.int s.2]), ∀ v ∈ x, plainV v = true := fun {xs} x hx v hv => by
  obtain ⟨s, _, rfl⟩ := List.mem_map.mp hx
  rcases List.mem_cons.mp hv with rfl | hv
  · rfl
  · rw [List.mem_singleton.mp hv]; rfl
theorem sh_tups {k : Nat} (xs : List (List V)) : Sh (k + 2) (.list (xs.map fun x => .tuple (x.map vD))) := sh_lst fun d hd => by
  obtain ⟨x, _, rfl⟩ := List.mem_map.mp hd
  exact sh_tup fun e he => by
    obtain ⟨v, _, rfl⟩ := List.mem_map.mp he
    exact sh_v v
/-! comprehensions -/
def dLc (g : TG) (tt : TT) (te : TE) (vs : List Nat) (σ : L2.St) (J : It) (H1 : Hp) (Q : VK) : Prop := ∀ D, H1 D = none → ∃ W : Nat → Nat → Hp → Prop, (∃ m, W 0 m (upd H1 D (.lst []))) ∧ ∀ i m H, W i m H →
  (J.stop i H ∧ Q (.ref D) H) ∨ (J.go i H ∧ ∃ Nx : Hp → Prop, (∀ H', Nx H' → ∃ m', m' < m ∧ W (i + 1) m' H') ∧ ∀ x H', J.yld i H x H' → g x (wipe σ vs) H' fun σ2 H2 => wipe σ2 vs = wipe σ vs ∧ tt σ2 H2 fun b H3 =>
    if b = true then te σ2 H3 fun y H4 => ∃ acc, H4 D = some (.lst acc) ∧ acc.length < sizeLine ∧ Nx (upd H4 D (.lst (acc ++ [y]))) else Nx H3)
theorem g_lc {wi : TI} {g : TG} {tt : TT} {te : TE} {vs : List Nat} {σ : L2.St} (h : wi σ H fun J H1 => dLc g tt te vs σ J H1 Q) : tLc wi g tt te vs σ H Q := h
def Nxt (H1 : Hp) (D : Addr) (os : Nat → List V) (i : Nat) (H' : Hp) : Prop := Same H1 H' ∧ H' D = some (.lst (os i))
def dAdd (D : Addr) (Nx : Hp → Prop) (y : V) (H4 : Hp) : Prop := ∃ acc, H4 D = some (.lst acc) ∧ acc.length < sizeLine ∧ Nx (upd H4 D (.lst (acc ++ [y])))
theorem g_add1 {H1 H4 : Hp} {D : Addr} {os : Nat → List V} {i : Nat} (hD : H1 D = none) (s : Same H1 H4) (e : H4 D = some (.lst (os i))) (hl : (os i).length ≤ 1000) (eo : os (i + 1) = os i ++ [y]) : dAdd D (Nxt H1 D os (i + 1)) y H4 :=
  ⟨os i, e, small1000 hl, same_mut s hD, by rw [upd_same, eo]⟩
theorem g_skip1 {H1 H4 : Hp} {D : Addr} {os : Nat → List V} {i : Nat} (s : Same H1 H4) (e : H4 D = some (.lst (os i))) (eo : os (i + 1) = os i) : Nxt H1 D os (i + 1) H4 := ⟨s, by rw [eo]; exact e⟩
theorem g_lcR {g : TG} {tt : TT} {te : TE} {vs : List Nat} {σ : L2.St} {H1 : Hp} {n : Nat} (os : Nat → List V) (h0 : os 0 = [])
    (hs : ∀ (D : Addr) (i : Nat) (H' : Hp), H1 D = none → i < n → Same H1 H' → H' D = some (.lst (os i)) → g (.int (0 + (i : Int))) (wipe σ vs) H' fun σ2 H2 => wipe σ2 vs = wipe σ vs ∧ tt σ2 H2 fun b H3 =>
      if b = true then te σ2 H3 fun y H4 => dAdd D (Nxt H1 D os (i + 1)) y H4 else Nxt H1 D os (i + 1) H3)
    (hd : ∀ D H', H1 D = none → Same H1 H' → H' D = some (.lst (os n)) → Q (.ref D) H') : dLc g tt te vs σ (Itr 0 n) H1 Q := fun D hD =>
  lc_range (lo := 0) (n := n) (Nxt H1 D os) ⟨same_new hD, by rw [upd_same, h0]⟩ (fun i H hi p => hs D i H hD hi p.1 p.2) fun H p => hd D H hD p.1 p.2
theorem g_lcL {g : TG} {tt : TT} {te : TE} {vs : List Nat} {σ : L2.St} {H1 : Hp} {a : Addr} {xs : List V} (hq : SqL K H1 a xs) (os : Nat → List V) (h0 : os 0 = [])
    (hs : ∀ (D : Addr) (i : Nat) (x : V) (H' : Hp), H1 D = none → xs[i]? = some x → Same H1 H' → H' D = some (.lst (os i)) → g x (wipe σ vs) H' fun σ2 H2 => wipe σ2 vs = wipe σ vs ∧ tt σ2 H2 fun b H3 =>
      if b = true then te σ2 H3 fun y H4 => dAdd D (Nxt H1 D os (i + 1)) y H4 else Nxt H1 D os (i + 1) H3)
    (hd : ∀ D H', H1 D = none → Same H1 H' → H' D = some (.lst (os xs.length)) → Q (.ref D) H') : dLc g tt te vs σ (Itl K a) H1 Q := fun D hD =>
  lc_list (K := K) (a := a) (xs := xs) (Nxt H1 D os) ⟨same_new hD, by rw [upd_same, h0]⟩ (fun i H _ p => Same.seq p.1 hq) (fun i x H hi p => hs D i x H hD hi p.1 p.2) fun H p => hd D H hD p.1 p.2
theorem g_yes {R : Bool → Hp → Prop} {σ : L2.St} (h : R true H) : tYes σ H R := h
end
end Lk

/-! ### a ladder as it stands in the heap -/
namespace Lk
open PySem PySem.Spec PyProof.Rows L2
structure LT (K : PySem.W.Frag) (C : Addr) : Prop where
  cl : Cls K C
  width : NoAttr K C "width"
  high : NoAttr K C "high"
  limit : NoAttr K C "limit"
  many : NoAttr K C "many"
  least : NoAttr K C "least"
  nexts : NoAttr K C "nexts"
  gaps : NoAttr K C "gaps"
structure ExF (K : PySem.W.Frag) (mg : Str → Option Value) (x : Str) (C : Addr) : Prop where
  g : mg x = some (.ref C)
  x : PySem.W.excIn K C [.type "ValueError", .type "Exception", .type "BaseException", .type "object"] "ValueError.__new__" = true
  k : PySem.W.keepIn K (.ref C) = true
  b : PySem.W.subIn K (.ref C) (.type "BaseException") = some true
  t : PySem.W.typeIn K (.ref C) = some (.type "type")
  d : PySem.W.hasDictIn K C = true
def ov : Option Int → V
  | none => .non
  | some i => .int i
/-- the fields, in the order in which they are stored -/
def lf (w h lim many : Int) (least : Option Int) (nx gx : Addr) : List (Str × V) := [("width", .int w), ("high", .int h), ("limit", .int lim), ("many", .int many), ("least", ov least), ("nexts", .ref nx), ("gaps", .ref gx)]
section
variable {w h lim many : Int} {least : Option Int} {nx gx : Addr}
theorem lf_width : (lf w h lim many least nx gx).lookup ("width" : Str) = some (.int w) := by simp only [lf, List.lookup, beq_self_eq_true]
theorem lf_high : (lf w h lim many least nx gx).lookup ("high" : Str) = some (.int h) := by
  simp only [lf, List.lookup, show (("high" : Str) == "width") = false by decide +kernel, beq_self_eq_true]
theorem lf_limit : (lf w h lim many least nx gx).lookup ("limit" : Str) = some (.int lim) := by
  simp only [lf, List.lookup, show (("limit" : Str) == "width") = false by decide +kernel, show (("limit" : Str) == "high") = false by decide +kernel, beq_self_eq_true]
theorem lf_many : (lf w h lim many least nx gx).lookup ("many" : Str) = some (.int many) := by
  simp only [lf, List.lookup, show (("many" : Str) == "width") = false by decide +kernel, show (("many" : Str) == "high") = false by decide +kernel, show (("many" : Str) == "limit") = false by decide +kernel, beq_self_eq_true]
theorem lf_least : (lf w h lim many least nx gx).lookup ("least" : Str) = some (ov least) := by
  simp only [lf, List.lookup, show (("least" : Str) == "width") = false by decide +kernel, show (("least" : Str) == "high") = false by decide +kernel, show (("least" : Str) == "limit") = false by decide +kernel, show (("least" : Str) == "many") = false by decide +kernel, beq_self_eq_true]
theorem lf_nexts : (lf w h lim many least nx gx).lookup ("nexts" : Str) = some (.ref nx) := by
  simp only [lf, List.lookup, show (("nexts" : Str) == "width") = false by decide +kernel, show (("nexts" : Str) == "high") = false by decide +kernel, show (("nexts" : Str) == "limit") = false by decide +kernel, show (("nexts" : Str) == "many") = false by decide +kernel, show (("nexts" : Str) == "least") = false by decide +kernel, beq_self_eq_true]
theorem lf_gaps : (lf w h lim many least nx gx).lookup ("gaps" : Str) = some (.ref gx) := by
  simp only [lf, List.lookup, show (("gaps" : Str) == "width") = false by decide +kernel, show (("gaps" : Str) == "high") = false by decide +kernel, show (("gaps" : Str) == "limit") = false by decide +kernel, show (("gaps" : Str) == "many") = false by decide +kernel, show (("gaps" : Str) == "least") = false by decide +kernel, show (("gaps" : Str) == "nexts") = false by decide +kernel, beq_self_eq_true]
theorem lf_no {m : Str} (e : (([("width", 0), ("high", 0), ("limit", 0), ("many", 0), ("least", 0), ("nexts", 0), ("gaps", 0)] : List (Str × Nat)).any fun q => m == q.1) = false) : (lf w h lim many least nx gx).lookup m = none := by
  simp only [List.any_cons, List.any_nil, Bool.or_eq_false_iff] at e
  obtain ⟨e1, e2, e3, e4, e5, e6, e7, _⟩ := e
  simp only [lf, List.lookup, e1, e2, e3, e4, e5, e6, e7]
theorem lf_putMany {z : Int} : putF "many" (.int z) (lf w h lim many least nx gx) = lf w h lim z least nx gx := by
  simp only [lf, putF, show ¬ (("width" : Str) = "many") by decide +kernel, show ¬ (("high" : Str) = "many") by decide +kernel, show ¬ (("limit" : Str) = "many") by decide +kernel, if_false, if_true]
theorem lf_putLeast {z : Option Int} : putF "least" (ov z) (lf w h lim many least nx gx) = lf w h lim many z nx gx := by
  simp only [lf, putF, show ¬ (("width" : Str) = "least") by decide +kernel, show ¬ (("high" : Str) = "least") by decide +kernel, show ¬ (("limit" : Str) = "least") by decide +kernel, show ¬ (("many" : Str) = "least") by decide +kernel, if_false, if_true]
end
/-- a dict: what it tells of each number, and how many entries it has at most -/
def DI (n : Nat) (H : Hp) (d : Addr) (f : Int → Option V) : Prop := ∃ kvs : List (Key × V), H d = some (.dK kvs) ∧ (kvs.map (·.1)).Nodup ∧ kvs.length ≤ n ∧ (∀ k, valV kvs (Sum.inl k) = f k) ∧ ∀ s, valV kvs (Sum.inr s) = none
/-- all but what stands at d is as it was -/
def But (d : Addr) (H H' : Hp) : Prop := ∀ b, b ≠ d → H' b = H b
theorem valV_drop {κ : Type} [DecidableEq κ] (k j : κ) : ∀ kvs : List (κ × V), valV (dropK kvs k) j = if j = k then none else valV kvs j
  | [] => by
    show none = _
    split <;> rfl
  | q :: r => by
    have ih := valV_drop k j r
    by_cases e : q.1 = k
    · rw [dropK_pos e, ih]
      by_cases e2 : j = k
      · rw [if_pos e2, if_pos e2]
      · rw [if_neg e2, if_neg e2, valV_neg fun z => e2 (z.symm.trans e)]
    · rw [dropK_neg e]
      by_cases e3 : q.1 = j
      · rw [valV_pos e3, if_neg fun z => e (e3.trans z), valV_pos e3]
      · rw [valV_neg e3, ih, valV_neg e3]
theorem nodup_len {α : Type} [DecidableEq α] : ∀ {l m : List α}, l.Nodup → (∀ x ∈ l, x ∈ m) → l.length ≤ m.length
  | [], _, _, _ => Nat.zero_le _
  | a :: r, m, h, s => by
    obtain ⟨h1, h2⟩ := List.nodup_cons.mp h
    have ha := s a List.mem_cons_self
    have := nodup_len (l := r) (m := m.erase a) h2 fun x hx => by
      have ne : x ≠ a := fun e => h1 (by rw [← e]; exact hx)
      exact (List.mem_erase_of_ne ne).mpr (s x (List.mem_cons_of_mem _ hx))
    rw [List.length_erase_of_mem ha] at this
    have := List.length_pos_of_mem ha
    rw [List.length_cons]
    omega
section
variable {K : PySem.W.Frag} {H H' : Hp} {Q : VK} {d : Addr} {f g : Int → Option V} {n m : Nat} {k : Int} {v : V} {D : Ends} {σ : L2.St}
theorem DI.at (x : DI n H d f) (e : H' d = H d) : DI n H' d f := by
  obtain ⟨kvs, h1, h2⟩ := x
  exact ⟨kvs, e.trans h1, h2⟩
theorem DI.to (x : DI n H d f) (e : ∀ k, f k = g k) : DI n H d g := by
  obtain ⟨kvs, h1, h2, h3, h4, h5⟩ := x
  exact ⟨kvs, h1, h2, h3, fun k => (h4 k).trans (e k), h5⟩
/-- no more entries than numbers that it may tell of -/
theorem DI.tight {S : List Int} (x : DI n H d f) (h : ∀ k v, f k = some v → k ∈ S) : DI S.length H d f := by
  obtain ⟨kvs, h1, h2, h3, h4, h5⟩ := x
  refine ⟨kvs, h1, h2, ?_, h4, h5⟩
  have q := nodup_len (m := S.map Sum.inl) h2 fun y hy => ?_
  · rw [List.length_map, List.length_map] at q
    exact q
  · obtain ⟨p, hp, rfl⟩ := List.mem_map.mp hy
    have s : (valV kvs p.1).isSome = true := by
      rw [← valV_any]
      exact List.any_eq_true.mpr ⟨p, hp, decide_eq_true rfl⟩
    obtain ⟨k, w⟩ := p
    cases k with
    | inl i =>
      rw [h4 i] at s
      obtain ⟨v, hv⟩ := Option.isSome_iff_exists.mp s
      exact List.mem_map.mpr ⟨i, h i v hv, rfl⟩
    | inr z =>
      rw [h5 z] at s
      cases s
theorem DI.mono (x : DI n H d f) (h : n ≤ m) : DI m H d f := by
  obtain ⟨kvs, h1, h2, h3, h4⟩ := x
  exact ⟨kvs, h1, h2, Nat.le_trans h3 h, h4⟩
theorem g_diGet (x : DI n H d f) (e : f k = some v) (h : Q v H) : dGet (.ref d) (.int k) H Q := by
  obtain ⟨kvs, h1, h2, h3, h4, h5⟩ := x
  exact g_get h1 ((h4 k).trans e) h
theorem g_diIn (x : DI n H d f) (h : Q (.bl (f k).isSome) H) : dIn (.int k) (.ref d) H Q := by
  obtain ⟨kvs, h1, h2, h3, h4, h5⟩ := x
  exact g_in h1 (by rw [h4]; exact h)
theorem g_diNin (x : DI n H d f) (h : Q (.bl (!(f k).isSome)) H) : dNotIn (.int k) (.ref d) H Q := by
  obtain ⟨kvs, h1, h2, h3, h4, h5⟩ := x
  exact g_nin h1 (by rw [h4]; exact h)
def dPut (D : Ends) (σ : L2.St) (v x y : V) (H3 : Hp) : Prop := ∃ a H4, x = .ref a ∧ DPut H3 a y v H4 ∧ D.nx σ H4
theorem g_put0 {td ty tv : TE} (h : tv σ H fun v H1 => td σ H1 fun x H2 => ty σ H2 fun y H3 => dPut D σ v x y H3) : sDPut td ty tv D σ H := h
theorem g_diPut (x : DI n H d f) (hn : n ≤ 1000) (h : ∀ H', But d H H' → DI (n + 1) H' d (fun j => if j = k then some v else f j) → D.nx σ H') : dPut D σ v (.ref d) (.int k) H := by
  obtain ⟨kvs, h1, h2, h3, h4, h5⟩ := x
  refine ⟨d, _, rfl, DPut.k (k := Sum.inl k) h1 (small1000 (by omega)), h _ (fun b hb => upd_ne hb) ⟨_, upd_same, ?_, Nat.le_trans (length_putK _ _ _) (by omega), fun j => ?_, fun s => ?_⟩⟩
  · cases e : valV kvs (Sum.inl k : Key) with
    | none => exact nd_putK v h2 e
    | some u =>
      have e2 : (kvs.any fun kv => decide (kv.1 = (Sum.inl k : Key))) = true := by rw [valV_any, e] <;> rfl
      unfold putK
      rw [if_pos e2, List.map_map]
      refine (List.map_congr_left fun q hq => ?_) ▸ h2
      show q.1 = (if q.1 = Sum.inl k then (q.1, v) else q).1
      split <;> rfl
  · rw [valV_put, h4 j]
    show _ = if j = k then some v else f j
    by_cases q : j = k
    · rw [if_pos (by rw [q]), if_pos q]
    · rw [if_neg fun z => q (Sum.inl.inj z), if_neg q]
  · rw [valV_put, if_neg (fun z => nomatch z), h5 s]
def dPop (x y : V) (H2 : Hp) (Q : VK) : Prop := ∃ a, x = .ref a ∧ IsD H2 a ∧ ∃ kvs k v, H2 a = some (.dK kvs) ∧ y = kV k ∧ valV kvs k = some v ∧ Q v (upd H2 a (.dK (dropK kvs k)))
def dPop0 (ty : TE) (σ : L2.St) (x : V) (H1 : Hp) (Q : VK) : Prop := ∃ a, x = .ref a ∧ IsD H1 a ∧ ty σ H1 fun y H2 => ∃ kvs k v, H2 a = some (.dK kvs) ∧ y = kV k ∧ valV kvs k = some v ∧ Q v (upd H2 a (.dK (dropK kvs k)))
theorem g_pop0 {td ty : TE} (h : td σ H fun x H1 => dPop0 ty σ x H1 Q) : tDPop1 td ty σ H Q := h
/-- d.pop(k), k a name's value -/
theorem g_diPop {i : Nat} (x : DI n H d f) (ek : σ[i]? = some (some (.int k))) (e : f k = some v) (h : ∀ H', But d H H' → DI n H' d (fun j => if j = k then none else f j) → Q v H') : dPop0 (tVar i) σ (.ref d) H Q := by
  obtain ⟨kvs, h1, h2, h3, h4, h5⟩ := x
  refine ⟨d, rfl, .inl ⟨kvs, .inl h1⟩, .int k, ek, kvs, Sum.inl k, v, h1, rfl, (h4 k).trans e, h _ (fun b hb => upd_ne hb) ⟨_, upd_same, nd_dropK h2, Nat.le_trans (dropK_le _ _) h3, fun j => ?_, fun s => ?_⟩⟩
  · rw [valV_drop, h4 j]
    show _ = if j = k then none else f j
    by_cases q : j = k
    · rw [if_pos (by rw [q]), if_pos q]
    · rw [if_neg fun z => q (Sum.inl.inj z), if_neg q]
  · rw [valV_drop, if_neg (fun z => nomatch z), h5 s]
def dAug (tv : TE) (rd : V → V → Hp → VK → Prop) (D : Ends) (σ : L2.St) (x y : V) (H2 : Hp) : Prop := ∃ a v, x = .ref a ∧ DGet H2 a y (some v) ∧ tv σ H2 fun z H3 => rd v z H3 fun u H4 => ∃ H5, DPut H4 a y u H5 ∧ D.nx σ H5
end
/-- what is fixed of a ladder: width, height, where its parts stand -/
structure LS where
  w : Int
  h : Nat
  dx : Addr
  nx : Addr
  gx : Addr
  ds : Nat → Addr
  gs : Nat → Addr
structure LOk (L : LS) : Prop where
  w1 : 2 ≤ L.w
  w2 : L.w ≤ 9
  h1 : 1 ≤ L.h
  h2 : L.h ≤ 12
  ng : L.nx ≠ L.gx
  di : ∀ i j, i ≤ L.h → j ≤ L.h → L.ds i = L.ds j → i = j
  gi : ∀ i j, i ≤ L.h → j ≤ L.h → L.gs i = L.gs j → i = j
  dg : ∀ i j, i ≤ L.h → j ≤ L.h → L.ds i ≠ L.gs j
def refs (h : Nat) (f : Nat → Addr) : List V := (List.range (h + 1)).map fun l => V.ref (f l)
theorem refs_at {h l : Nat} {f : Nat → Addr} (hl : l ≤ h) : atI (refs h f) (l : Int) = some (.ref (f l)) := by
  refine atI_nat ?_
  unfold refs
  rw [List.getElem?_map, List.getElem?_range (by omega)]
  rfl
def nV (c : Int) (S : List Int) (k : Int) : Option V := (Sk.nA c S k).map ov
def gV (c : Int) (S : List Int) (k : Int) : Option V := (Sk.gA c S k).map V.int
/-- its parts, each level's dicts as of a row of that level's own -/
structure LadX (C : Addr) (H : Hp) (p : Addr) (L : LS) (le : Option Int) (many : Int) (T : Nat → List Int) : Prop where
  ok : LOk L
  ob : H p = some (.ins C L.dx (lf L.w L.h (L.w ^ L.h) many le L.nx L.gx))
  nl : H L.nx = some (.lst (refs L.h L.ds))
  gl : H L.gx = some (.lst (refs L.h L.gs))
  dn : ∀ l, l ≤ L.h → DI 200 H (L.ds l) (nV (L.w ^ l) (T l))
  dg : ∀ l, l ≤ L.h → DI 200 H (L.gs l) (gV (L.w ^ l) (T l))
/-- a ladder that keeps the numbers of S -/
structure Lad (C : Addr) (H : Hp) (p : Addr) (L : LS) (S : List Int) : Prop extends LadX C H p L S.head? (S.length : Int) (fun _ => S) where
  srt : Sk.Srt S
  lo : ∀ z ∈ S, 0 ≤ z
  hi : ∀ z ∈ S, z < L.w ^ L.h
  len : S.length ≤ 100
/-- what belongs to it -/
def LS.own (L : LS) (p b : Addr) : Prop := b = p ∨ b = L.nx ∨ b = L.gx ∨ ∃ l, l ≤ L.h ∧ (b = L.ds l ∨ b = L.gs l)
section
variable {K : PySem.W.Frag} {C : Addr} {H H' : Hp} {p : Addr} {L : LS} {le : Option Int} {many : Int} {T : Nat → List Int} {S : List Int} {Q : VK} {D : Ends} {σ : L2.St} {l : Nat}
theorem LadX.at (x : LadX C H p L le many T) (h : ∀ b, L.own p b → H' b = H b) : LadX C H' p L le many T where
  ok := x.ok
  ob := (h p (.inl rfl)).trans x.ob
  nl := (h _ (.inr (.inl rfl))).trans x.nl
  gl := (h _ (.inr (.inr (.inl rfl)))).trans x.gl
  dn := fun l hl => (x.dn l hl).at (h _ (.inr (.inr (.inr ⟨l, hl, .inl rfl⟩))))
  dg := fun l hl => (x.dg l hl).at (h _ (.inr (.inr (.inr ⟨l, hl, .inr rfl⟩))))
theorem LadX.there (x : LadX C H p L le many T) {b : Addr} (h : L.own p b) : ∃ o, H b = some o := by
  rcases h with rfl | rfl | rfl | ⟨l, hl, rfl | rfl⟩
  · exact ⟨_, x.ob⟩
  · exact ⟨_, x.nl⟩
  · exact ⟨_, x.gl⟩
  · obtain ⟨kvs, h, _⟩ := x.dn l hl; exact ⟨_, h⟩
  · obtain ⟨kvs, h, _⟩ := x.dg l hl; exact ⟨_, h⟩
theorem LadX.same (x : LadX C H p L le many T) (s : Same H H') : LadX C H' p L le many T := x.at fun b hb => by
  obtain ⟨o, e⟩ := x.there hb
  rw [e]
  exact s b o e
theorem Lad.same (x : Lad C H p L S) (s : Same H H') : Lad C H' p L S := { x.toLadX.same s with srt := x.srt, lo := x.lo, hi := x.hi, len := x.len }
theorem Lad.at (x : Lad C H p L S) (h : ∀ b, L.own p b → H' b = H b) : Lad C H' p L S := { x.toLadX.at h with srt := x.srt, lo := x.lo, hi := x.hi, len := x.len }
/-- what was tracked and is none of its own is as it was -/
def Keeps (L : LS) (p : Addr) (H H' : Hp) : Prop := ∀ b o, H b = some o → ¬ L.own p b → H' b = some o
theorem own_no (x : LadX C H p L le many T) {b : Addr} (h : H b = none) : ¬ L.own p b := fun q => by
  obtain ⟨o, e⟩ := x.there q
  rw [h] at e; cases e
theorem Same.keeps {L : LS} {p : Addr} (s : Same H H') : Keeps L p H H' := fun b o e _ => s b o e
theorem pow_ok (o : LOk L) {l : Nat} (hl : l ≤ L.h) : 0 < L.w ^ l ∧ L.w ^ l ≤ 282429536481 := by
  have := o.h2
  have h1 := o.w1
  have h2 := o.w2
  refine ⟨Int.pow_pos (by omega), ?_⟩
  obtain ⟨m, e⟩ : ∃ m : Nat, L.w = (m : Int) := ⟨L.w.toNat, by omega⟩
  have a : m ^ l ≤ 9 ^ l := Nat.pow_le_pow_left (by omega) l
  have b : 9 ^ l ≤ 9 ^ 12 := Nat.pow_le_pow_right (by decide) (by omega)
  have c : 9 ^ 12 = 282429536481 := by decide
  rw [e, ← Int.natCast_pow]
  omega
theorem lad_width (t : LT K C) (x : LadX C H p L le many T) (h : Q (.int L.w) H) : dFld K "width" (.ref p) H Q := g_fld x.ob t.cl t.width lf_width h
theorem lad_high (t : LT K C) (x : LadX C H p L le many T) (h : Q (.int (L.h : Int)) H) : dFld K "high" (.ref p) H Q := g_fld x.ob t.cl t.high lf_high h
theorem lad_limit (t : LT K C) (x : LadX C H p L le many T) (h : Q (.int (L.w ^ L.h)) H) : dFld K "limit" (.ref p) H Q := g_fld x.ob t.cl t.limit lf_limit h
theorem lad_many (t : LT K C) (x : LadX C H p L le many T) (h : Q (.int many) H) : dFld K "many" (.ref p) H Q := g_fld x.ob t.cl t.many lf_many h
theorem lad_least (t : LT K C) (x : LadX C H p L le many T) (h : Q (ov le) H) : dFld K "least" (.ref p) H Q := g_fld x.ob t.cl t.least lf_least h
theorem lad_nexts (t : LT K C) (x : LadX C H p L le many T) (h : Q (.ref L.nx) H) : dFld K "nexts" (.ref p) H Q := g_fld x.ob t.cl t.nexts lf_nexts h
theorem lad_gaps (t : LT K C) (x : LadX C H p L le many T) (h : Q (.ref L.gx) H) : dFld K "gaps" (.ref p) H Q := g_fld x.ob t.cl t.gaps lf_gaps h
theorem lad_nx (x : LadX C H p L le many T) (hl : l ≤ L.h) (h : Q (.ref (L.ds l)) H) : rIxL K (.ref L.nx) (.int (l : Int)) H Q := g_ixL (.of x.nl) (refs_at hl) h
theorem lad_gx (x : LadX C H p L le many T) (hl : l ≤ L.h) (h : Q (.ref (L.gs l)) H) : rIxL K (.ref L.gx) (.int (l : Int)) H Q := g_ixL (.of x.gl) (refs_at hl) h
theorem lad_nx0 (x : LadX C H p L le many T) (h : Q (.ref (L.ds 0)) H) : rIxL K (.ref L.nx) (.int 0) H Q := lad_nx (l := 0) x (Nat.zero_le _) h
theorem lad_meth {m : Str} {sp : Sp} {E : XK} {tA : TA} (x : LadX C H p L le many T) (hm : (([("width", 0), ("high", 0), ("limit", 0), ("many", 0), ("least", 0), ("nexts", 0), ("gaps", 0)] : List (Str × Nat)).any fun q => m == q.1) = false)
    (h : tA σ H fun vs H2 => sp (.ref p :: vs) H2 Q E) : dMeth C m sp E σ tA (.ref p) H Q := g_meth x.ob (lf_no hm) h
theorem lad_dn (x : LadX C H p L le many T) (hl : l ≤ L.h) {k : Int} {o : Option Int} (e : Sk.nA (L.w ^ l) (T l) k = some o) (h : Q (ov o) H) : dGet (.ref (L.ds l)) (.int k) H Q :=
  g_diGet (x.dn l hl) (by unfold nV; rw [e]; rfl) h
theorem lad_dg (x : LadX C H p L le many T) (hl : l ≤ L.h) {k z : Int} (e : Sk.gA (L.w ^ l) (T l) k = some z) (h : Q (.int z) H) : dGet (.ref (L.gs l)) (.int k) H Q :=
  g_diGet (x.dg l hl) (by unfold gV; rw [e]; rfl) h
end
/-- the one behind, if it lies in n's block -/
def alk (c n : Int) : Option Int → Option Int
  | some a => if n / c = a / c then some a else none
  | none => none
theorem LadX.congr {C : Addr} {H : Hp} {p : Addr} {L : LS} {le : Option Int} {many : Int} {T T' : Nat → List Int} (x : LadX C H p L le many T) (h : ∀ l, l ≤ L.h → T l = T' l) : LadX C H p L le many T' :=
  ⟨x.ok, x.ob, x.nl, x.gl, fun l hl => by rw [← h l hl]; exact x.dn l hl, fun l hl => by rw [← h l hl]; exact x.dg l hl⟩
theorem nV_mem {c : Int} {S : List Int} {k : Int} {v : V} (h : nV c S k = some v) : k ∈ S := by
  unfold nV Sk.nA at h
  split at h
  · rename_i q; exact q.1
  · cases h
theorem gV_mem {c : Int} {S : List Int} {k : Int} {v : V} (h : gV c S k = some v) : k ∈ S := by
  unfold gV Sk.gA at h
  split at h
  · rename_i q; exact q.1
  · cases h
theorem own_nx {L : LS} {p : Addr} : L.own p L.nx := .inr (.inl rfl)
theorem own_gx {L : LS} {p : Addr} : L.own p L.gx := .inr (.inr (.inl rfl))
theorem own_ds {L : LS} {p : Addr} {l : Nat} (h : l ≤ L.h) : L.own p (L.ds l) := .inr (.inr (.inr ⟨l, h, .inl rfl⟩))
theorem own_gs {L : LS} {p : Addr} {l : Nat} (h : l ≤ L.h) : L.own p (L.gs l) := .inr (.inr (.inr ⟨l, h, .inr rfl⟩))
section
variable {C : Addr} {H H' : Hp} {p : Addr} {L : LS} {le : Option Int} {many : Int} {T : Nat → List Int} {l : Nat}
theorem LadX.p_ds (x : LadX C H p L le many T) (h : l ≤ L.h) : p ≠ L.ds l := by
  obtain ⟨kvs, e, _⟩ := x.dn l h
  exact ne_of x.ob e (by intro z; cases z)
theorem LadX.p_gs (x : LadX C H p L le many T) (h : l ≤ L.h) : p ≠ L.gs l := by
  obtain ⟨kvs, e, _⟩ := x.dg l h
  exact ne_of x.ob e (by intro z; cases z)
theorem LadX.nx_ds (x : LadX C H p L le many T) (h : l ≤ L.h) : L.nx ≠ L.ds l := by
  obtain ⟨kvs, e, _⟩ := x.dn l h
  exact ne_of x.nl e (by intro z; cases z)
theorem LadX.nx_gs (x : LadX C H p L le many T) (h : l ≤ L.h) : L.nx ≠ L.gs l := by
  obtain ⟨kvs, e, _⟩ := x.dg l h
  exact ne_of x.nl e (by intro z; cases z)
theorem LadX.gx_ds (x : LadX C H p L le many T) (h : l ≤ L.h) : L.gx ≠ L.ds l := by
  obtain ⟨kvs, e, _⟩ := x.dn l h
  exact ne_of x.gl e (by intro z; cases z)
theorem LadX.gx_gs (x : LadX C H p L le many T) (h : l ≤ L.h) : L.gx ≠ L.gs l := by
  obtain ⟨kvs, e, _⟩ := x.dg l h
  exact ne_of x.gl e (by intro z; cases z)
theorem LadX.p_nx (x : LadX C H p L le many T) : p ≠ L.nx := ne_of x.ob x.nl (by intro z; cases z)
theorem LadX.p_gx (x : LadX C H p L le many T) : p ≠ L.gx := ne_of x.ob x.gl (by intro z; cases z)
/-- one level's dicts have changed -/
theorem LadX.lev (x : LadX C H p L le many T) (hl : l ≤ L.h) {S : List Int} (b : ∀ c, c ≠ L.ds l → c ≠ L.gs l → H' c = H c) (hn : DI 200 H' (L.ds l) (nV (L.w ^ l) S)) (hg : DI 200 H' (L.gs l) (gV (L.w ^ l) S)) :
    LadX C H' p L le many (fun j => if j = l then S else T j) where
  ok := x.ok
  ob := (b _ (x.p_ds hl) (x.p_gs hl)).trans x.ob
  nl := (b _ (x.nx_ds hl) (x.nx_gs hl)).trans x.nl
  gl := (b _ (x.gx_ds hl) (x.gx_gs hl)).trans x.gl
  dn := fun j hj => by
    by_cases e : j = l
    · subst e; rw [if_pos rfl]; exact hn
    · rw [if_neg e]
      exact (x.dn j hj).at (b _ (fun q => e (x.ok.di j l hj hl q)) (x.ok.dg j l hj hl))
  dg := fun j hj => by
    by_cases e : j = l
    · subst e; rw [if_pos rfl]; exact hg
    · rw [if_neg e]
      exact (x.dg j hj).at (b _ (fun q => x.ok.dg l j hl hj q.symm) (fun q => e (x.ok.gi j l hj hl q)))
theorem LadX.fld (x : LadX C H p L le many T) (b : But p H H') {le' : Option Int} {many' : Int} (e : H' p = some (.ins C L.dx (lf L.w L.h (L.w ^ L.h) many' le' L.nx L.gx))) : LadX C H' p L le' many' T where
  ok := x.ok
  ob := e
  nl := (b _ (Ne.symm x.p_nx)).trans x.nl
  gl := (b _ (Ne.symm x.p_gx)).trans x.gl
  dn := fun j hj => (x.dn j hj).at (b _ (Ne.symm (x.p_ds hj)))
  dg := fun j hj => (x.dg j hj).at (b _ (Ne.symm (x.p_gs hj)))
def dFset (K : PySem.W.Frag) (f : Str) (D : Ends) (σ : L2.St) (y x : V) (H2 : Hp) : Prop := ∃ a C dx fs, x = .ref a ∧ H2 a = some (.ins C dx fs) ∧ Cls K C ∧ NoAttr K C f ∧ fs.length < 1000 ∧ D.nx σ (upd H2 a (.ins C dx (putF f y fs)))
variable {K : PySem.W.Frag} {D : Ends} {σ : L2.St}
theorem g_fset0 {ta tv : TE} {f : Str} (h : tv σ H fun y H1 => ta σ H1 fun x H2 => dFset K f D σ y x H2) : sFld K ta tv f D σ H := h
theorem lad_setLeast (t : LT K C) (x : LadX C H p L le many T) (z : Option Int) (h : ∀ H', But p H H' → LadX C H' p L z many T → D.nx σ H') : dFset K "least" D σ (ov z) (.ref p) H :=
  ⟨p, C, L.dx, _, rfl, x.ob, t.cl, t.least, by show 7 < 1000; decide, h _ (fun b hb => upd_ne hb) (x.fld (fun b hb => upd_ne hb) (by rw [upd_same, lf_putLeast]))⟩
theorem lad_setMany (t : LT K C) (x : LadX C H p L le many T) (z : Int) (h : ∀ H', But p H H' → LadX C H' p L le z T → D.nx σ H') : dFset K "many" D σ (.int z) (.ref p) H :=
  ⟨p, C, L.dx, _, rfl, x.ob, t.cl, t.many, by show 7 < 1000; decide, h _ (fun b hb => upd_ne hb) (x.fld (fun b hb => upd_ne hb) (by rw [upd_same, lf_putMany]))⟩
theorem g_aug0 {td ty tv : TE} {rd : V → V → Hp → VK → Prop} (h : td σ H fun x H1 => ty σ H1 fun y H2 => dAug tv rd D σ x y H2) : sDAug td ty tv rd D σ H := h
theorem g_diAugA {n : Nat} {d : Addr} {f : Int → Option V} {k z : Int} (x : DI n H d f) (hn : n ≤ 1000) (e : f k = some (.int z)) (h : ∀ H', But d H H' → DI (n + 1) H' d (fun j => if j = k then some (.int (z + 1)) else f j) → D.nx σ H') : dAug (tC (.int 1)) rAdd D σ (.ref d) (.int k) H := by
  obtain ⟨a, H4, e1, q1, q2⟩ := g_diPut (v := .int (z + 1)) (D := D) (σ := σ) x hn h
  cases e1
  obtain ⟨kvs, h1, h2, h3, h4, h5⟩ := x
  exact ⟨d, .int z, rfl, by rw [← e, ← h4]; exact DGet.k (k := Sum.inl k) h1, z, 1, rfl, rfl, H4, q1, q2⟩
theorem g_diAugS {n : Nat} {d : Addr} {f : Int → Option V} {k z : Int} (x : DI n H d f) (hn : n ≤ 1000) (e : f k = some (.int z)) (h : ∀ H', But d H H' → DI (n + 1) H' d (fun j => if j = k then some (.int (z - 1)) else f j) → D.nx σ H') : dAug (tC (.int 1)) rSub D σ (.ref d) (.int k) H := by
  obtain ⟨a, H4, e1, q1, q2⟩ := g_diPut (v := .int (z - 1)) (D := D) (σ := σ) x hn h
  cases e1
  obtain ⟨kvs, h1, h2, h3, h4, h5⟩ := x
  exact ⟨d, .int z, rfl, by rw [← e, ← h4]; exact DGet.k (k := Sum.inl k) h1, z, 1, rfl, rfl, H4, q1, q2⟩
end
theorem Keeps.step {L : LS} {p : Addr} {H H1 H2 : Hp} (k : Keeps L p H H1) (h : ∀ c, ¬ L.own p c → H2 c = H1 c) : Keeps L p H H2 := fun b o e nb => (h b nb).trans (k b o e nb)
theorem Keeps.same {L : LS} {p : Addr} {H H1 H2 : Hp} (k : Keeps L p H H1) (s : Same H1 H2) : Keeps L p H H2 := fun b o e nb => s b o (k b o e nb)
theorem Keeps.but {L : LS} {p q : Addr} {H H1 H2 : Hp} (k : Keeps L p H H1) (hq : H q = none) (b : But q H1 H2) : Keeps L p H H2 := fun c o e nc => (b c (ne_of_none e hq)).trans (k c o e nc)
theorem Keeps.refl {L : LS} {p : Addr} {H : Hp} : Keeps L p H H := fun _ _ e _ => e
theorem Keeps.trans {L : LS} {p : Addr} {H H1 H2 : Hp} (a : Keeps L p H H1) (b : Keeps L p H1 H2) : Keeps L p H H2 := fun c o e nc => b c o (a c o e nc) nc
/-- dicts alone have changed: lists of tuples are as they were -/
theorem TupL.dicts {H H' : Hp} {q d g : Addr} {xs : List (List V)} {n m : Nat} {f f' : Int → Option V} (t : TupL H q xs) (hd : DI n H d f) (hg : DI m H g f') (h : ∀ c, c ≠ d → c ≠ g → H' c = H c) : TupL H' q xs := by
  obtain ⟨k1, e1, _⟩ := hd
  obtain ⟨k2, e2, _⟩ := hg
  obtain ⟨as, h1, h2⟩ := t
  refine ⟨as, (h q (ne_of h1 e1 (by intro z; cases z)) (ne_of h1 e2 (by intro z; cases z))).trans h1, Paired.mapP h2 fun a x e => ?_⟩
  exact (h a (ne_of e e1 (by intro z; cases z)) (ne_of e e2 (by intro z; cases z))).trans e
theorem TupL.inst {H H' : Hp} {q p : Addr} {xs : List (List V)} {C dx : Addr} {fs : List (Str × V)} (t : TupL H q xs) (e1 : H p = some (.ins C dx fs)) (h : But p H H') : TupL H' q xs := by
  obtain ⟨as, h1, h2⟩ := t
  refine ⟨as, (h q (ne_of h1 e1 (by intro z; cases z))).trans h1, Paired.mapP h2 fun a x e => ?_⟩
  exact (h a (ne_of e e1 (by intro z; cases z))).trans e
theorem nA_of {c : Int} {S : List Int} {k : Int} (h : Sk.St c S k) : Sk.nA c S k = some (Sk.nx c S k) := if_pos h
theorem gA_of {c : Int} {S : List Int} {k : Int} (h : Sk.St c S k) : Sk.gA c S k = some (Sk.gp c S k : Int) := if_pos h
theorem nV_some {c : Int} {S : List Int} {k : Int} : (nV c S k).isSome = decide (Sk.St c S k) := by
  unfold nV Sk.nA
  by_cases h : Sk.St c S k
  · rw [if_pos h, decide_eq_true h]; rfl
  · rw [if_neg h, decide_eq_false h]; rfl
theorem st_one {S : List Int} {k : Int} : Sk.St 1 S k ↔ k ∈ S := ⟨fun h => h.1, fun h => ⟨h, fun z _ hl e => by rw [Int.ediv_one, Int.ediv_one] at e; omega⟩⟩
end Lk

/-! ### what is refused, and taken -/
namespace Lk
open PySem PySem.Spec PyProof.Rows L2
/-! calls whose refusals are wished for at the caller's slots -/
def tMethS (C : Addr) (m : Str) (sp : Sp) (W : L2.St → XK) (to : TE) (tA : TA) : TE := fun σ H Q => to σ H fun x H1 => ∃ (a dx : Addr) (fs : List (Str × V)), x = .ref a ∧ H1 a = some (.ins C dx fs) ∧ fs.lookup m = none ∧ tA σ H1 fun vs H2 => sp (x :: vs) H2 Q (W σ)
def tMakeS (C : Addr) (sp : Sp) (W : L2.St → XK) (tA : TA) : TE := fun σ H Q => tA σ H fun vs H1 => ∀ x dx, H1 x = none → H1 dx = none → dx ≠ x → sp (.ref x :: vs) (upd (upd H1 dx (.own x)) x (.ins C dx [])) (fun v H2 => v = .non ∧ Q (.ref x) H2) (W σ)
section
variable {Y : Cx} {cx : CXT} {n : Nat} {g D : Addr} {fd : FuncData} {qs : List Str} {sp : Sp} {W : L2.St → XK} {nm : Str} {q1 q2 q3 : Pos} {e1 o1 : Expr} {er : List Expr} {to : TE} {tA : TA}
theorem pe_methS {lk : Sem Bool} (he : PE Y o1 to) (hD : Cls Y.K D) (hm : Meth Y.K D nm g) (F : FnOk Y.prog Y.w Y.K Y.mg Y.base cx n g fd qs sp) (hr : Room n Y.A) (hb : Binds Y.K fd qs []) (hp : ∀ σ, PassesAt cx Y σ (W σ)) (ha : PA Y (e1 :: er) tA)
    (h1 : starEach (e1 :: er) Y.env = (false, eval e1 Y.env) :: starEach er Y.env := by rfl) (h2 : (backTo q2 (starEach er Y.env)).any (·.1) = false := by rfl)
    (h3 : eval (.Call (.Attribute o1 nm q3) (e1 :: er) [] q2) Y.env = (do
      let r ← eval o1 Y.env
      standAt q3.atName
      let (u, us) ← holding [r] (getMethod r nm lk)
      callWith q2 u us (backTo q2 (starEach (e1 :: er) Y.env)) (backToKw q2 (keywordEach [] Y.env))) := by rfl) :
    PE Y (.Call (.Attribute o1 nm q3) (e1 :: er) [] q2) (tMethS D nm sp W to tA) := by
  constructor
  intro ps s σ H Q I h
  refine PySem.W.methodCall_KW (pl := lk) (thn (he.run ps s σ H _ I h) ?_) h3
  rintro u s1 ⟨x, H1, I1, rx, a, dx, fs, rfl, ea, lo, q⟩
  obtain rfl : u = Value.ref a := rx
  refine getmeth_ok I1 ea hD hm lo (PySem.W.callWith_K (first := [.ref a]) (h₀ := Y.base) I.ok.mod.kin hm.kp (thn (ha.run q2 ps s1 σ H1 _ I1 q) ?_) h1 h2)
  rintro us s2 ⟨vs, H2, I2, r, k⟩
  exact ⟨I2.kIn, run_fnS (us := .ref a :: us) (vs := .ref a :: vs) F hr hb (hp σ) I2 (.cons rfl r) k⟩
theorem pe_makeS (M : Mk Y.K D g) (F : FnOk Y.prog Y.w Y.K Y.mg Y.base cx n g fd qs sp) (hr : Room (n + 1) Y.A) (hg : Gl Y nm) (hm : Y.mg nm = some (.ref D)) (hb : Binds Y.K fd qs []) (hp : ∀ σ, PassesAt cx Y σ (W σ)) (ha : PA Y (e1 :: er) tA)
    (h0 : (nm == ("__debug__" : Str)) = false := by decide) (h1 : starEach (e1 :: er) Y.env = (false, eval e1 Y.env) :: starEach er Y.env := by rfl) (h2 : (backTo q2 (starEach er Y.env)).any (·.1) = false := by rfl) :
    PE Y (.Call (.Name nm q1) (e1 :: er) [] q2) (tMakeS D sp W tA) := by
  constructor
  intro ps s σ H Q I h
  refine wpAny_Call_Name_kw (ld_glob I hg hm (PySem.W.callWith_K (h₀ := Y.base) I.ok.mod.kin M.kp (thn (ha.run q2 ps s σ H _ I h) ?_) h1 h2) h0)
  rintro us s1 ⟨vs, H1, I1, r, k⟩
  refine ⟨I1.kIn, ?_⟩
  have k2 := k (s1.heap.objs.size + 1) s1.heap.objs.size (I1.hok.fresh (Nat.le_succ _)) (I1.hok.fresh (Nat.le_refl _)) (Nat.ne_of_lt (Nat.lt_succ_self _))
  have J := Inv.made (C := D) I1
  have hl : (Value.ref (s1.heap.objs.size + 1) :: us).length = qs.length := by
    have := F.len _ _ _ _ k2
    rw [List.length_cons] at this ⊢
    rw [← r.length]
    exact this
  have b := hb _ (Value.ref (s1.heap.objs.size + 1) :: us) J.kIn (by rw [List.append_nil]; exact hl)
  rw [List.append_nil] at b
  refine wpAny_call (make_map (f := g) I1.kIn M.makes M.init (beq_iff_eq.mp M.fn) (codeAny_mono (F.run _ Y.stack _ _ ⟨Value.ref (s1.heap.objs.size + 1) :: us, []⟩ _ _ _ (W σ) (hr.make D us [])
    (J.env0.make D us []) b (Paired.cons (show RelV (V.ref (s1.heap.objs.size + 1)) (Value.ref (s1.heap.objs.size + 1)) from rfl) r) k2) ?_))
  rintro (e | fl) s' hq
  · exact hp σ ps _ _ e s' J hq
  · cases fl with
    | ret u =>
      obtain ⟨v, H', J2, rv, rfl, k3⟩ := J.after hq
      exact ⟨rv, V.ref (s1.heap.objs.size + 1), H', J2, rfl, k3⟩
    | next => exact False.elim hq
    | brk => exact False.elim hq
    | cont => exact False.elim hq
end
/-- an if whose test tells b, at a place M -/
theorem g_ifP {c : TT} {t u : TS} {D : Ends} {σ : L2.St} {H : Hp} (b : Bool) (M : Hp → Prop) (hc : ∀ R : Bool → Hp → Prop, (∀ H', M H' → R b H') → c σ H R) (ht : b = true → ∀ H', M H' → t D σ H') (hu : b = false → ∀ H', M H' → u D σ H') : tIfS c t u D σ H :=
  g_if (hc _ fun H' m => g_ite (fun e => ht e H' m) fun e => hu e H' m)
/-- a value by several roads -/
theorem g_via {t : TE} {σ : L2.St} {H : Hp} {Q : VK} (v : V) (M : Hp → Prop) (hc : ∀ R : VK, (∀ H', M H' → R v H') → t σ H R) (h : ∀ H', M H' → Q v H') : t σ H Q := hc Q h
theorem i_t {A B : Prop} (h : A) : if true = true then A else B := by rw [if_pos rfl]; exact h
theorem i_f {A B : Prop} (h : B) : if false = true then A else B := by rw [if_neg (by decide)]; exact h
theorem i_nt {A B : Prop} (h : B) : if (!true) = true then A else B := by rw [if_neg (by decide)]; exact h
theorem i_nf {A B : Prop} (h : A) : if (!false) = true then A else B := by rw [if_pos (by decide)]; exact h
/-- isinstance(e, c) in the suite, e what it holds -/
def rIsG (K : PySem.W.Frag) (cls : Value) (d : Option Addr) (a : Addr) : List V → Hp → VK → Prop := fun xs H Q => ∃ D : Addr, cls = .ref D ∧ d = none ∧ ExcC K D ∧ rIsE K D a xs H Q
theorem call_isG {Y : Cx} {a : Addr} {oe : Obj} {pn : List (Addr × Obj)} {cls : Value} {d : Option Addr} {K : PySem.W.Frag} (eK : Y.K = K) (hz : Zc cls d oe) (hf : ∃ vs, oe.data = .fields vs) : CallR (Y.suite a ((a, oe) :: pn)) (.builtin "isinstance") (rIsG K cls d a) := by
  subst eK
  intro ps s σ H xs us Q I r h
  obtain ⟨D, rfl, rfl, C, h⟩ := h
  exact call_isE C hz hf ps s σ H xs us Q I r h
section
variable {K : PySem.W.Frag} {σ : L2.St} {H : Hp} {Q : VK} {D : Ends}
theorem g_isG {cls c : Addr} {a : Addr} {b : Bool} (C : ExcC K cls) (e : PySem.W.kitOne K (.ref cls) (.ref c) = some b) (h : Q (.bl b) H) : rIsG K (.ref cls) none a [.ref a, .ref c] H Q :=
  ⟨cls, rfl, rfl, C, .ref c, .ref c, b, rfl, fun u r => r, e, h⟩
theorem g_isGt {cls : Addr} {a : Addr} {b : Bool} {nm : String} (C : ExcC K cls) (e : PySem.W.kitOne K (.ref cls) (.type nm) = some b) (h : Q (.bl b) H) : rIsG K (.ref cls) none a [.ref a, .ty nm] H Q :=
  ⟨cls, rfl, rfl, C, .ty nm, .type nm, b, rfl, fun u r => r, e, h⟩
def dMethS (C : Addr) (m : Str) (sp : Sp) (E : XK) (σ : L2.St) (t : TA) : V → Hp → VK → Prop := fun x H1 Q => ∃ (a dx : Addr) (fs : List (Str × V)), x = .ref a ∧ H1 a = some (.ins C dx fs) ∧ fs.lookup m = none ∧ t σ H1 fun vs H2 => sp (x :: vs) H2 Q E
theorem g_methS {C : Addr} {m : Str} {sp : Sp} {W : L2.St → XK} {to : TE} {tA : TA} (h : to σ H fun x H1 => dMeth C m sp (W σ) σ tA x H1 Q) : tMethS C m sp W to tA σ H Q := h
theorem g_callS {sp : Sp} {W : L2.St → XK} {tA : TA} (h : tA σ H fun vs H1 => sp vs H1 Q (W σ)) : tCallS sp W tA σ H Q := h
/-- a new one of a class -/
def dMake (C : Addr) (sp : Sp) (E : XK) (vs : List V) (H1 : Hp) (Q : VK) : Prop := ∀ x dx, H1 x = none → H1 dx = none → dx ≠ x → sp (.ref x :: vs) (upd (upd H1 dx (.own x)) x (.ins C dx [])) (fun v H2 => v = .non ∧ Q (.ref x) H2) E
theorem g_makeS {C : Addr} {sp : Sp} {W : L2.St → XK} {tA : TA} (h : tA σ H fun vs H1 => dMake C sp (W σ) vs H1 Q) : tMakeS C sp W tA σ H Q := h
theorem g_make {C : Addr} {sp : Sp} {E : XK} {tA : TA} (h : tA σ H fun vs H1 => dMake C sp E vs H1 Q) : tMake C sp [] E tA σ H Q := by
  unfold tMake
  unfold dMake at h
  simpa using h
variable {c cls : Value} {d : Option Addr} {ts : Addr → Value → Option Addr → TS} {Wout : WX} {r : List (Value × (Addr → Value → Option Addr → TS))} {i : Nat}
theorem w_hit (e : PySem.W.exmOne K cls c = some true) (h : ∀ a, H a = none → ts a cls d D σ H) : wMany K Wout D ((c, ts) :: r) cls d σ H := ⟨true, e, fun _ => h, fun q => nomatch q⟩
theorem w_miss (e : PySem.W.exmOne K cls c = some false) (h : wMany K Wout D r cls d σ H) : wMany K Wout D ((c, ts) :: r) cls d σ H := ⟨false, e, fun q => (nomatch q), fun _ => h⟩
theorem w_only (e : PySem.W.exmOne K cls c = some true) (h : ∀ a, H a = none → ts a cls d D σ H) : wOnly K c ts Wout D cls d σ H := ⟨true, e, fun _ => h, fun q => nomatch q⟩
theorem w_as (e : PySem.W.exmOne K cls c = some true) (h : ∀ a, H a = none → ts a cls d { nx := fun σ' H' => D.nx (σ'.set i none) H', rt := D.rt, bk := fun σ' H' => D.bk (σ'.set i none) H', ct := fun σ' H' => D.ct (σ'.set i none) H' } (σ.set i (some (.ref a))) H) : wAs K c i ts Wout D cls d σ H :=
  ⟨true, e, fun _ => h, fun q => nomatch q⟩
end
end Lk

/-! ### comprehensions that make new things; lists of lists -/
namespace Lk
open PySem PySem.Spec PyProof.Rows L2
/-- the heap without what stands at D -/
def off (D : Addr) (H : Hp) : Hp := fun b => if b = D then none else H b
section
variable {H H' H1 : Hp} {D b : Addr}
theorem off_ne (h : b ≠ D) : off D H b = H b := if_neg h
theorem off_self : off D H D = none := if_pos rfl
theorem off_at {o : HO} (h : b ≠ D) (e : H b = some o) : off D H b = some o := (off_ne h).trans e
theorem off_le : Same (off D H) H := fun b o e => by
  by_cases q : b = D
  · rw [q, off_self] at e; cases e
  · rw [off_ne q] at e; exact e
theorem same_off (s : Same H H') : Same (off D H) (off D H') := fun b o e => by
  by_cases q : b = D
  · rw [q, off_self] at e; cases e
  · rw [off_ne q] at e ⊢; exact s b o e
theorem off_upd {o : HO} : off D (upd H D o) = off D H := funext fun b => by
  by_cases q : b = D
  · rw [q, off_self, off_self]
  · rw [off_ne q, off_ne q, upd_ne q]
theorem off_but (h : But' D H H') : off D H' = off D H := funext fun b => by
  by_cases q : b = D
  · rw [q, off_self, off_self]
  · rw [off_ne q, off_ne q, h b q]
theorem off_none (e : H D = none) : off D H = H := funext fun b => by
  by_cases q : b = D
  · rw [q, off_self, e]
  · rw [off_ne q]
end
section
variable {K : PySem.W.Frag} {H H' H1 : Hp} {D : Addr} {Q : VK}
def NxtP (H1 : Hp) (D : Addr) (F : Nat → V → Hp → Prop) (i : Nat) (H' : Hp) : Prop := Same H1 H' ∧ ∃ ys : List V, H' D = some (.lst ys) ∧ ys.length = i ∧ ∀ j y, ys[j]? = some y → F j y (off D H')
theorem nxtP_add {F : Nat → V → Hp → Prop} {i : Nat} {y : V} {H4 : Hp} (hm : ∀ j y H H', Same H H' → F j y H → F j y H') (hD : H1 D = none) (p : NxtP H1 D F i H') (hi : i ≤ 1000) (s : Same H' H4) (f : F i y (off D H4)) : dAdd D (NxtP H1 D F (i + 1)) y H4 := by
  obtain ⟨s1, ys, e, l, fs⟩ := p
  refine ⟨ys, s _ _ e, small1000 (by omega), same_mut (s1.trans s) hD, ys ++ [y], upd_same, by rw [List.length_append, l]; rfl, fun j z ej => ?_⟩
  rw [off_upd]
  rcases Nat.lt_or_ge j ys.length with q | q
  · rw [List.getElem?_append_left q] at ej
    exact hm j z _ _ (same_off s) (fs j z ej)
  · have hj : j = ys.length := by
      rcases Nat.lt_or_ge j (ys.length + 1) with q2 | q2
      · omega
      · rw [List.getElem?_eq_none (by rw [List.length_append]; exact q2)] at ej; cases ej
    subst hj
    rw [List.getElem?_concat_length] at ej
    cases ej
    rw [l]
    exact f
theorem nxtP_nil {F : Nat → V → Hp → Prop} (hD : H1 D = none) : NxtP H1 D F 0 (upd H1 D (.lst [])) := ⟨same_new hD, [], upd_same, rfl, fun j y e => by rw [List.getElem?_nil] at e; cases e⟩
theorem g_lcPR {g : TG} {te : TE} {vs : List Nat} {σ : L2.St} {n : Nat} (F : Nat → V → Hp → Prop) (hm : ∀ j y H H', Same H H' → F j y H → F j y H') (hn : n ≤ 1000)
    (hs : ∀ (D : Addr) (i : Nat) (H' : Hp), H1 D = none → i < n → Same H1 H' → (∃ ys, H' D = some (.lst ys)) → ∀ N : VK, (∀ y H4, Same H' H4 → F i y (off D H4) → N y H4) → g (.int (0 + (i : Int))) (wipe σ vs) H' fun σ2 H2 => wipe σ2 vs = wipe σ vs ∧ te σ2 H2 N)
    (hd : ∀ D H' ys, H1 D = none → Same H1 H' → H' D = some (.lst ys) → ys.length = n → (∀ j y, ys[j]? = some y → F j y (off D H')) → Q (.ref D) H') : dLc g tYes te vs σ (Itr 0 n) H1 Q := fun D hD =>
  lc_range (lo := 0) (n := n) (NxtP H1 D F) (nxtP_nil hD) (fun i H hi p => hs D i H hD hi p.1 (by obtain ⟨_, ys, e, _⟩ := p; exact ⟨ys, e⟩) _ fun y H4 s f => nxtP_add hm hD p (by omega) s f) fun H ⟨s, ys, e, l, f⟩ => hd D H ys hD s e l f
theorem g_lcPL {g : TG} {te : TE} {vs : List Nat} {σ : L2.St} {a : Addr} {xs : List V} (hq : SqL K H1 a xs) (F : Nat → V → Hp → Prop) (hm : ∀ j y H H', Same H H' → F j y H → F j y H') (hn : xs.length ≤ 1000)
    (hs : ∀ (D : Addr) (i : Nat) (x : V) (H' : Hp), H1 D = none → xs[i]? = some x → Same H1 H' → (∃ ys, H' D = some (.lst ys)) → ∀ N : VK, (∀ y H4, Same H' H4 → F i y (off D H4) → N y H4) → g x (wipe σ vs) H' fun σ2 H2 => wipe σ2 vs = wipe σ vs ∧ te σ2 H2 N)
    (hd : ∀ D H' ys, H1 D = none → Same H1 H' → H' D = some (.lst ys) → ys.length = xs.length → (∀ j y, ys[j]? = some y → F j y (off D H')) → Q (.ref D) H') : dLc g tYes te vs σ (Itl K a) H1 Q := fun D hD =>
  lc_list (K := K) (a := a) (xs := xs) (NxtP H1 D F) (nxtP_nil hD) (fun i H' _ p => Same.seq p.1 hq) (fun i x H hi p => hs D i x H hD hi p.1 (by obtain ⟨_, ys, e, _⟩ := p; exact ⟨ys, e⟩) _ fun y H4 s f => nxtP_add hm hD p (by
    have : i < xs.length := by
      rcases Nat.lt_or_ge i xs.length with q | q
      · exact q
      · rw [List.getElem?_eq_none q] at hi; cases hi
    omega) s f) fun H ⟨s, ys, e, l, f⟩ => hd D H ys hD s e l f
theorem dpl_get : ∀ {ys : List V} {ds : List PyData}, ys.length = ds.length → (∀ (j : Nat) y d, ys[j]? = some y → ds[j]? = some d → Dp K H y d) → DpAll K H ys ds
  | [], [], _, _ => .nil
  | [], _ :: _, l, _ => by cases l
  | _ :: _, [], l, _ => by cases l
  | y :: ys, d :: ds, l, h => .cons (h 0 y d rfl rfl) (dpl_get (Nat.succ.inj l) fun j y d e1 e2 => h (j + 1) y d e1 e2)
end
end Lk

namespace Lk
open PySem PySem.Spec PyProof.Rows L2
def top (i : Nat) : Stmt := PySem.Challenge.pw_skipladder_k13_whole_places.main.body.getD i (.Pass ⟨0, 0, 0, 0⟩)
abbrev s_power : Stmt := top 2
abbrev N_power : List Str := ["width", "level", "found", "turn"]
theorem sc_power : FnScope N_power ["width", "level"] (defScope s_power) := ⟨rfl, rfl, rfl, by decide +kernel, rfl, by decide +kernel, by decide +kernel⟩
abbrev s___init__ : Stmt := inClass (top 19) 0
abbrev N___init__ : List Str := ["self", "width", "high", "level"]
theorem sc___init__ : FnScope N___init__ ["self", "width", "high"] (defScope s___init__) := ⟨rfl, rfl, rfl, by decide +kernel, rfl, by decide +kernel, by decide +kernel⟩
abbrev s__law_cell_at : Stmt := top 22
abbrev N__law_cell_at : List Str := ["_law_script", "_law_k"]
theorem sc__law_cell_at : FnScope N__law_cell_at ["_law_script", "_law_k"] (defScope s__law_cell_at) := ⟨rfl, rfl, rfl, by decide +kernel, rfl, by decide +kernel, by decide +kernel⟩
abbrev s__law_number : Stmt := top 23
abbrev N__law_number : List Str := ["_law_cell", "_law_limit"]
theorem sc__law_number : FnScope N__law_number ["_law_cell", "_law_limit"] (defScope s__law_number) := ⟨rfl, rfl, rfl, by decide +kernel, rfl, by decide +kernel, by decide +kernel⟩
abbrev s_nearest : Stmt := top 15
abbrev N_nearest : List Str := ["ladder", "number", "befores", "places", "at", "place", "level", "later"]
theorem sc_nearest : FnScope N_nearest ["ladder", "number"] (defScope s_nearest) := ⟨rfl, rfl, rfl, by decide +kernel, rfl, by decide +kernel, by decide +kernel⟩
abbrev s_need : Stmt := inClass (top 19) 1
abbrev N_need : List Str := ["self", "number", "most"]
theorem sc_need : FnScope N_need ["self", "number", "most"] (defScope s_need) := ⟨rfl, rfl, rfl, by decide +kernel, rfl, by decide +kernel, by decide +kernel⟩
abbrev s_has : Stmt := inClass (top 19) 2
abbrev N_has : List Str := ["self", "number"]
theorem sc_has : FnScope N_has ["self", "number"] (defScope s_has) := ⟨rfl, rfl, rfl, by decide +kernel, rfl, by decide +kernel, by decide +kernel⟩
abbrev s_block : Stmt := top 3
abbrev N_block : List Str := ["width", "level", "number"]
theorem sc_block : FnScope N_block ["width", "level", "number"] (defScope s_block) := ⟨rfl, rfl, rfl, by decide +kernel, rfl, by decide +kernel, by decide +kernel⟩
abbrev s_alike : Stmt := inClass (top 19) 6
abbrev N_alike : List Str := ["self", "level", "number", "behind"]
theorem sc_alike : FnScope N_alike ["self", "level", "number", "behind"] (defScope s_alike) := ⟨rfl, rfl, rfl, by decide +kernel, rfl, by decide +kernel, by decide +kernel⟩
abbrev s_go_out : Stmt := inClass (top 19) 7
abbrev N_go_out : List Str := ["self", "level", "number", "before", "came", "here", "gaps", "later", "gap"]
theorem sc_go_out : FnScope N_go_out ["self", "level", "number", "before", "came"] (defScope s_go_out) := ⟨rfl, rfl, rfl, by decide +kernel, rfl, by decide +kernel, by decide +kernel⟩
abbrev s_take : Stmt := inClass (top 19) 8
abbrev N_take : List Str := ["self", "number", "befores", "places", "behind", "told", "level", "came"]
theorem sc_take : FnScope N_take ["self", "number"] (defScope s_take) := ⟨rfl, rfl, rfl, by decide +kernel, rfl, by decide +kernel, by decide +kernel⟩
abbrev s_behind : Stmt := inClass (top 19) 3
abbrev N_behind : List Str := ["self", "before"]
theorem sc_behind : FnScope N_behind ["self", "before"] (defScope s_behind) := ⟨rfl, rfl, rfl, by decide +kernel, rfl, by decide +kernel, by decide +kernel⟩
abbrev s_tall : Stmt := top 4
abbrev N_tall : List Str := ["width", "high", "before", "number", "level"]
theorem sc_tall : FnScope N_tall ["width", "high", "before", "number"] (defScope s_tall) := ⟨rfl, rfl, rfl, by decide +kernel, rfl, by decide +kernel, by decide +kernel⟩
abbrev s_stand_in : Stmt := inClass (top 19) 4
abbrev N_stand_in : List Str := ["self", "level", "number", "before", "place", "old", "here", "gaps"]
theorem sc_stand_in : FnScope N_stand_in ["self", "level", "number", "before", "place", "old"] (defScope s_stand_in) := ⟨rfl, rfl, rfl, by decide +kernel, rfl, by decide +kernel, by decide +kernel⟩
abbrev s_put : Stmt := inClass (top 19) 5
abbrev N_put : List Str := ["self", "number", "befores", "places", "before", "behind", "rank", "stands", "told", "level", "old"]
theorem sc_put : FnScope N_put ["self", "number"] (defScope s_put) := ⟨rfl, rfl, rfl, by decide +kernel, rfl, by decide +kernel, by decide +kernel⟩
abbrev s__law_deed : Stmt := top 24
abbrev N__law_deed : List Str := ["_law_ladder", "_law_row", "_law_gone", "_law_cell", "_law_limit", "_law_number_here"]
theorem sc__law_deed : FnScope N__law_deed ["_law_ladder", "_law_row", "_law_gone", "_law_cell", "_law_limit"] (defScope s__law_deed) := ⟨rfl, rfl, rfl, by decide +kernel, rfl, by decide +kernel, by decide +kernel⟩
abbrev s__law_filled : Stmt := top 31
abbrev N__law_filled : List Str := ["_law_script", "_law_ladder", "_law_limit", "_law_row", "_law_gone", "_law_k", "_law_number_here", "_law_cell"]
theorem sc__law_filled : FnScope N__law_filled ["_law_script", "_law_ladder", "_law_limit"] (defScope s__law_filled) := ⟨rfl, rfl, rfl, by decide +kernel, rfl, by decide +kernel, by decide +kernel⟩
abbrev s_place : Stmt := inClass (top 19) 16
abbrev N_place : List Str := ["self", "number", "befores", "places"]
theorem sc_place : FnScope N_place ["self", "number"] (defScope s_place) := ⟨rfl, rfl, rfl, by decide +kernel, rfl, by decide +kernel, by decide +kernel⟩
abbrev s_steps_by_gaps : Stmt := top 17
abbrev N_steps_by_gaps : List Str := ["ladder", "place", "at", "level", "left", "found", "later", "gap"]
theorem sc_steps_by_gaps : FnScope N_steps_by_gaps ["ladder", "place"] (defScope s_steps_by_gaps) := ⟨rfl, rfl, rfl, by decide +kernel, rfl, by decide +kernel, by decide +kernel⟩
abbrev s_way : Stmt := inClass (top 19) 17
abbrev N_way : List Str := ["self", "place"]
theorem sc_way : FnScope N_way ["self", "place"] (defScope s_way) := ⟨rfl, rfl, rfl, by decide +kernel, rfl, by decide +kernel, by decide +kernel⟩
abbrev s_at : Stmt := inClass (top 19) 18
abbrev N_at : List Str := ["self", "place"]
theorem sc_at : FnScope N_at ["self", "place"] (defScope s_at) := ⟨rfl, rfl, rfl, by decide +kernel, rfl, by decide +kernel, by decide +kernel⟩
abbrev s_counted : Stmt := inClass (top 19) 19
abbrev N_counted : List Str := ["self", "low", "high"]
theorem sc_counted : FnScope N_counted ["self", "low", "high"] (defScope s_counted) := ⟨rfl, rfl, rfl, by decide +kernel, rfl, by decide +kernel, by decide +kernel⟩
abbrev s_stretch : Stmt := inClass (top 19) 20
abbrev N_stretch : List Str := ["self", "low", "high", "first", "turn"]
theorem sc_stretch : FnScope N_stretch ["self", "low", "high"] (defScope s_stretch) := ⟨rfl, rfl, rfl, by decide +kernel, rfl, by decide +kernel, by decide +kernel⟩
abbrev s_need_level : Stmt := inClass (top 19) 9
abbrev N_need_level : List Str := ["self", "level"]
theorem sc_need_level : FnScope N_need_level ["self", "level"] (defScope s_need_level) := ⟨rfl, rfl, rfl, by decide +kernel, rfl, by decide +kernel, by decide +kernel⟩
abbrev s_ahead : Stmt := inClass (top 19) 12
abbrev N_ahead : List Str := ["self", "level", "number"]
theorem sc_ahead : FnScope N_ahead ["self", "level", "number"] (defScope s_ahead) := ⟨rfl, rfl, rfl, by decide +kernel, rfl, by decide +kernel, by decide +kernel⟩
abbrev s__law_missing : Stmt := top 25
abbrev N__law_missing : List Str := ["_law_ladder", "_law_number_here", "_law_refused_here", "_law_level"]
theorem sc__law_missing : FnScope N__law_missing ["_law_ladder", "_law_number_here"] (defScope s__law_missing) := ⟨rfl, rfl, rfl, by decide +kernel, rfl, by decide +kernel, by decide +kernel⟩
abbrev s__law_no_place : Stmt := top 26
abbrev N__law_no_place : List Str := ["_law_ladder", "_law_place", "_law_refused_here"]
theorem sc__law_no_place : FnScope N__law_no_place ["_law_ladder", "_law_place"] (defScope s__law_no_place) := ⟨rfl, rfl, rfl, by decide +kernel, rfl, by decide +kernel, by decide +kernel⟩
abbrev s__law_whole : Stmt := top 21
abbrev N__law_whole : List Str := ["_law_found"]
theorem sc__law_whole : FnScope N__law_whole ["_law_found"] (defScope s__law_whole) := ⟨rfl, rfl, rfl, by decide +kernel, rfl, by decide +kernel, by decide +kernel⟩
abbrev s__law_gap : Stmt := top 27
abbrev N__law_gap : List Str := ["_law_row", "_law_number_here", "_law_found", "_law_one"]
theorem sc__law_gap : FnScope N__law_gap ["_law_row", "_law_number_here", "_law_found"] (defScope s__law_gap) := ⟨rfl, rfl, rfl, by decide +kernel, rfl, by decide +kernel, by decide +kernel⟩
abbrev s__law_way : Stmt := top 28
abbrev N__law_way : List Str := ["_law_ladder", "_law_row", "_law_place", "_law_found", "_law_left", "_law_k", "_law_ahead", "_law_due", "_law_kept"]
theorem sc__law_way : FnScope N__law_way ["_law_ladder", "_law_row", "_law_place"] (defScope s__law_way) := ⟨rfl, rfl, rfl, by decide +kernel, rfl, by decide +kernel, by decide +kernel⟩
abbrev s__law_refused : Stmt := top 30
abbrev N__law_refused : List Str := ["_law_ladder", "_law_low", "_law_high", "_law_refused_here"]
theorem sc__law_refused : FnScope N__law_refused ["_law_ladder", "_law_low", "_law_high"] (defScope s__law_refused) := ⟨rfl, rfl, rfl, by decide +kernel, rfl, by decide +kernel, by decide +kernel⟩
abbrev s__law_stretch : Stmt := top 29
abbrev N__law_stretch : List Str := ["_law_ladder", "_law_row", "_law_low", "_law_high", "_law_due", "_law_found", "_law_counted", "_law_one"]
theorem sc__law_stretch : FnScope N__law_stretch ["_law_ladder", "_law_row", "_law_low", "_law_high"] (defScope s__law_stretch) := ⟨rfl, rfl, rfl, by decide +kernel, rfl, by decide +kernel, by decide +kernel⟩
abbrev s_law : Stmt := top 32
abbrev N_law : List Str := ["_law_script", "_law_width", "_law_limit", "_law_turn", "_law_ladder", "_law_row", "_law_gone", "_law_number_here", "_law_held", "_law_kept", "_law_one", "_law_two", "_law_far", "_law_pair", "_law_place"]
theorem sc_law : FnScope N_law ["_law_script"] (defScope s_law) := ⟨rfl, rfl, rfl, by decide +kernel, rfl, by decide +kernel, by decide +kernel⟩
structure Ads where
  power : Addr
  init : Addr
  _law_cell_at : Addr
  _law_number : Addr
  nearest : Addr
  need : Addr
  has : Addr
  block : Addr
  alike : Addr
  go_out : Addr
  take : Addr
  behind : Addr
  tall : Addr
  stand_in : Addr
  put : Addr
  _law_deed : Addr
  _law_filled : Addr
  place : Addr
  steps_by_gaps : Addr
  way : Addr
  a_at : Addr
  counted : Addr
  stretch : Addr
  need_level : Addr
  ahead : Addr
  _law_missing : Addr
  _law_no_place : Addr
  _law_whole : Addr
  _law_gap : Addr
  _law_way : Addr
  _law_refused : Addr
  _law_stretch : Addr
  law : Addr
  Ladder : Addr
  BadSize : Addr
  Missing : Addr
  NoLevel : Addr
  NoPlace : Addr
  OutOfRange : Addr
  Present : Addr
/-- what the top has written -/
structure Txt (K : PySem.W.Frag) (mg : Str → Option Value) (A : Ads) : Prop where
  f_power : ∃ fd, Fun K "power" "power" s_power A.power fd
  g_power : mg "power" = some (.ref A.power)
  k_power : PySem.W.keepIn K (.ref A.power) = true
  f___init__ : ∃ fd, Fun K "__init__" "Ladder.__init__" s___init__ A.init fd
  f__law_cell_at : ∃ fd, Fun K "_law_cell_at" "_law_cell_at" s__law_cell_at A._law_cell_at fd
  g__law_cell_at : mg "_law_cell_at" = some (.ref A._law_cell_at)
  k__law_cell_at : PySem.W.keepIn K (.ref A._law_cell_at) = true
  f__law_number : ∃ fd, Fun K "_law_number" "_law_number" s__law_number A._law_number fd
  g__law_number : mg "_law_number" = some (.ref A._law_number)
  k__law_number : PySem.W.keepIn K (.ref A._law_number) = true
  f_nearest : ∃ fd, Fun K "nearest" "nearest" s_nearest A.nearest fd
  g_nearest : mg "nearest" = some (.ref A.nearest)
  k_nearest : PySem.W.keepIn K (.ref A.nearest) = true
  f_need : ∃ fd, Fun K "need" "Ladder.need" s_need A.need fd
  m_need : Meth K A.Ladder "need" A.need
  f_has : ∃ fd, Fun K "has" "Ladder.has" s_has A.has fd
  m_has : Meth K A.Ladder "has" A.has
  f_block : ∃ fd, Fun K "block" "block" s_block A.block fd
  g_block : mg "block" = some (.ref A.block)
  k_block : PySem.W.keepIn K (.ref A.block) = true
  f_alike : ∃ fd, Fun K "alike" "Ladder.alike" s_alike A.alike fd
  m_alike : Meth K A.Ladder "alike" A.alike
  f_go_out : ∃ fd, Fun K "go_out" "Ladder.go_out" s_go_out A.go_out fd
  m_go_out : Meth K A.Ladder "go_out" A.go_out
  f_take : ∃ fd, Fun K "take" "Ladder.take" s_take A.take fd
  m_take : Meth K A.Ladder "take" A.take
  f_behind : ∃ fd, Fun K "behind" "Ladder.behind" s_behind A.behind fd
  m_behind : Meth K A.Ladder "behind" A.behind
  f_tall : ∃ fd, Fun K "tall" "tall" s_tall A.tall fd
  g_tall : mg "tall" = some (.ref A.tall)
  k_tall : PySem.W.keepIn K (.ref A.tall) = true
  f_stand_in : ∃ fd, Fun K "stand_in" "Ladder.stand_in" s_stand_in A.stand_in fd
  m_stand_in : Meth K A.Ladder "stand_in" A.stand_in
  f_put : ∃ fd, Fun K "put" "Ladder.put" s_put A.put fd
  m_put : Meth K A.Ladder "put" A.put
  f__law_deed : ∃ fd, Fun K "_law_deed" "_law_deed" s__law_deed A._law_deed fd
  g__law_deed : mg "_law_deed" = some (.ref A._law_deed)
  k__law_deed : PySem.W.keepIn K (.ref A._law_deed) = true
  f__law_filled : ∃ fd, Fun K "_law_filled" "_law_filled" s__law_filled A._law_filled fd
  g__law_filled : mg "_law_filled" = some (.ref A._law_filled)
  k__law_filled : PySem.W.keepIn K (.ref A._law_filled) = true
  f_place : ∃ fd, Fun K "place" "Ladder.place" s_place A.place fd
  m_place : Meth K A.Ladder "place" A.place
  f_steps_by_gaps : ∃ fd, Fun K "steps_by_gaps" "steps_by_gaps" s_steps_by_gaps A.steps_by_gaps fd
  g_steps_by_gaps : mg "steps_by_gaps" = some (.ref A.steps_by_gaps)
  k_steps_by_gaps : PySem.W.keepIn K (.ref A.steps_by_gaps) = true
  f_way : ∃ fd, Fun K "way" "Ladder.way" s_way A.way fd
  m_way : Meth K A.Ladder "way" A.way
  f_at : ∃ fd, Fun K "at" "Ladder.at" s_at A.a_at fd
  m_at : Meth K A.Ladder "at" A.a_at
  f_counted : ∃ fd, Fun K "counted" "Ladder.counted" s_counted A.counted fd
  m_counted : Meth K A.Ladder "counted" A.counted
  f_stretch : ∃ fd, Fun K "stretch" "Ladder.stretch" s_stretch A.stretch fd
  m_stretch : Meth K A.Ladder "stretch" A.stretch
  f_need_level : ∃ fd, Fun K "need_level" "Ladder.need_level" s_need_level A.need_level fd
  m_need_level : Meth K A.Ladder "need_level" A.need_level
  f_ahead : ∃ fd, Fun K "ahead" "Ladder.ahead" s_ahead A.ahead fd
  m_ahead : Meth K A.Ladder "ahead" A.ahead
  f__law_missing : ∃ fd, Fun K "_law_missing" "_law_missing" s__law_missing A._law_missing fd
  g__law_missing : mg "_law_missing" = some (.ref A._law_missing)
  k__law_missing : PySem.W.keepIn K (.ref A._law_missing) = true
  f__law_no_place : ∃ fd, Fun K "_law_no_place" "_law_no_place" s__law_no_place A._law_no_place fd
  g__law_no_place : mg "_law_no_place" = some (.ref A._law_no_place)
  k__law_no_place : PySem.W.keepIn K (.ref A._law_no_place) = true
  f__law_whole : ∃ fd, Fun K "_law_whole" "_law_whole" s__law_whole A._law_whole fd
  g__law_whole : mg "_law_whole" = some (.ref A._law_whole)
  k__law_whole : PySem.W.keepIn K (.ref A._law_whole) = true
  f__law_gap : ∃ fd, Fun K "_law_gap" "_law_gap" s__law_gap A._law_gap fd
  g__law_gap : mg "_law_gap" = some (.ref A._law_gap)
  k__law_gap : PySem.W.keepIn K (.ref A._law_gap) = true
  f__law_way : ∃ fd, Fun K "_law_way" "_law_way" s__law_way A._law_way fd
  g__law_way : mg "_law_way" = some (.ref A._law_way)
  k__law_way : PySem.W.keepIn K (.ref A._law_way) = true
  f__law_refused : ∃ fd, Fun K "_law_refused" "_law_refused" s__law_refused A._law_refused fd
  g__law_refused : mg "_law_refused" = some (.ref A._law_refused)
  k__law_refused : PySem.W.keepIn K (.ref A._law_refused) = true
  f__law_stretch : ∃ fd, Fun K "_law_stretch" "_law_stretch" s__law_stretch A._law_stretch fd
  g__law_stretch : mg "_law_stretch" = some (.ref A._law_stretch)
  k__law_stretch : PySem.W.keepIn K (.ref A._law_stretch) = true
  f_law : ∃ fd, Fun K "law" "law" s_law A.law fd
  g_law : mg "law" = some (.ref A.law)
  k_law : PySem.W.keepIn K (.ref A.law) = true
  z_all : mg "all" = none
  z_bool : mg "bool" = none
  z_int : mg "int" = none
  z_isinstance : mg "isinstance" = none
  z_len : mg "len" = none
  z_list : mg "list" = none
  z_max : mg "max" = none
  z_min : mg "min" = none
  z_range : mg "range" = none
  z_sorted : mg "sorted" = none
  z_tuple : mg "tuple" = none
  lt : LT K A.Ladder
  g_Ladder : mg "Ladder" = some (.ref A.Ladder)
  mk_Ladder : Mk K A.Ladder A.init
  x_BadSize : ExF K mg "BadSize" A.BadSize
  x_Missing : ExF K mg "Missing" A.Missing
  x_NoLevel : ExF K mg "NoLevel" A.NoLevel
  x_NoPlace : ExF K mg "NoPlace" A.NoPlace
  x_OutOfRange : ExF K mg "OutOfRange" A.OutOfRange
  x_Present : ExF K mg "Present" A.Present
  e_BadSize_Missing : PySem.W.exmOne K (.ref A.BadSize) (.ref A.Missing) = some false
  e_BadSize_NoPlace : PySem.W.exmOne K (.ref A.BadSize) (.ref A.NoPlace) = some false
  e_BadSize_OutOfRange : PySem.W.exmOne K (.ref A.BadSize) (.ref A.OutOfRange) = some false
  e_Missing_Missing : PySem.W.exmOne K (.ref A.Missing) (.ref A.Missing) = some true
  e_Missing_NoPlace : PySem.W.exmOne K (.ref A.Missing) (.ref A.NoPlace) = some false
  e_Missing_OutOfRange : PySem.W.exmOne K (.ref A.Missing) (.ref A.OutOfRange) = some false
  e_NoLevel_Missing : PySem.W.exmOne K (.ref A.NoLevel) (.ref A.Missing) = some false
  e_NoLevel_NoPlace : PySem.W.exmOne K (.ref A.NoLevel) (.ref A.NoPlace) = some false
  e_NoLevel_OutOfRange : PySem.W.exmOne K (.ref A.NoLevel) (.ref A.OutOfRange) = some false
  e_NoPlace_Missing : PySem.W.exmOne K (.ref A.NoPlace) (.ref A.Missing) = some false
  e_NoPlace_NoPlace : PySem.W.exmOne K (.ref A.NoPlace) (.ref A.NoPlace) = some true
  e_NoPlace_OutOfRange : PySem.W.exmOne K (.ref A.NoPlace) (.ref A.OutOfRange) = some false
  e_OutOfRange_Missing : PySem.W.exmOne K (.ref A.OutOfRange) (.ref A.Missing) = some false
  e_OutOfRange_NoPlace : PySem.W.exmOne K (.ref A.OutOfRange) (.ref A.NoPlace) = some false
  e_OutOfRange_OutOfRange : PySem.W.exmOne K (.ref A.OutOfRange) (.ref A.OutOfRange) = some true
  e_Present_Missing : PySem.W.exmOne K (.ref A.Present) (.ref A.Missing) = some false
  e_Present_NoPlace : PySem.W.exmOne K (.ref A.Present) (.ref A.NoPlace) = some false
  e_Present_OutOfRange : PySem.W.exmOne K (.ref A.Present) (.ref A.OutOfRange) = some false
section
variable {K : PySem.W.Frag} {mg : Str → Option Value} {A : Ads}
theorem b_power : ∀ fd, Fun K "power" "power" s_power A.power fd → Binds K fd ["width", "level"] [] := fun _ F => F.binds fun _ _ _ _ _ _ us hl => match us, hl with | [_, _], _ => rfl
theorem b___init__ : ∀ fd, Fun K "__init__" "Ladder.__init__" s___init__ A.init fd → Binds K fd ["self", "width", "high"] [] := fun _ F => F.binds fun _ _ _ _ _ _ us hl => match us, hl with | [_, _, _], _ => rfl
theorem b__law_cell_at : ∀ fd, Fun K "_law_cell_at" "_law_cell_at" s__law_cell_at A._law_cell_at fd → Binds K fd ["_law_script", "_law_k"] [] := fun _ F => F.binds fun _ _ _ _ _ _ us hl => match us, hl with | [_, _], _ => rfl
theorem b__law_number : ∀ fd, Fun K "_law_number" "_law_number" s__law_number A._law_number fd → Binds K fd ["_law_cell", "_law_limit"] [] := fun _ F => F.binds fun _ _ _ _ _ _ us hl => match us, hl with | [_, _], _ => rfl
theorem b_nearest : ∀ fd, Fun K "nearest" "nearest" s_nearest A.nearest fd → Binds K fd ["ladder", "number"] [] := fun _ F => F.binds fun _ _ _ _ _ _ us hl => match us, hl with | [_, _], _ => rfl
theorem b_need : ∀ fd, Fun K "need" "Ladder.need" s_need A.need fd → Binds K fd ["self", "number", "most"] [] := fun _ F => F.binds fun _ _ _ _ _ _ us hl => match us, hl with | [_, _, _], _ => rfl
theorem b_has : ∀ fd, Fun K "has" "Ladder.has" s_has A.has fd → Binds K fd ["self", "number"] [] := fun _ F => F.binds fun _ _ _ _ _ _ us hl => match us, hl with | [_, _], _ => rfl
theorem b_block : ∀ fd, Fun K "block" "block" s_block A.block fd → Binds K fd ["width", "level", "number"] [] := fun _ F => F.binds fun _ _ _ _ _ _ us hl => match us, hl with | [_, _, _], _ => rfl
theorem b_alike : ∀ fd, Fun K "alike" "Ladder.alike" s_alike A.alike fd → Binds K fd ["self", "level", "number", "behind"] [] := fun _ F => F.binds fun _ _ _ _ _ _ us hl => match us, hl with | [_, _, _, _], _ => rfl
theorem b_go_out : ∀ fd, Fun K "go_out" "Ladder.go_out" s_go_out A.go_out fd → Binds K fd ["self", "level", "number", "before", "came"] [] := fun _ F => F.binds fun _ _ _ _ _ _ us hl => match us, hl with | [_, _, _, _, _], _ => rfl
theorem b_take : ∀ fd, Fun K "take" "Ladder.take" s_take A.take fd → Binds K fd ["self", "number"] [] := fun _ F => F.binds fun _ _ _ _ _ _ us hl => match us, hl with | [_, _], _ => rfl
theorem b_behind : ∀ fd, Fun K "behind" "Ladder.behind" s_behind A.behind fd → Binds K fd ["self", "before"] [] := fun _ F => F.binds fun _ _ _ _ _ _ us hl => match us, hl with | [_, _], _ => rfl
theorem b_tall : ∀ fd, Fun K "tall" "tall" s_tall A.tall fd → Binds K fd ["width", "high", "before", "number"] [] := fun _ F => F.binds fun _ _ _ _ _ _ us hl => match us, hl with | [_, _, _, _], _ => rfl
theorem b_stand_in : ∀ fd, Fun K "stand_in" "Ladder.stand_in" s_stand_in A.stand_in fd → Binds K fd ["self", "level", "number", "before", "place", "old"] [] := fun _ F => F.binds fun _ _ _ _ _ _ us hl => match us, hl with | [_, _, _, _, _, _], _ => rfl
theorem b_put : ∀ fd, Fun K "put" "Ladder.put" s_put A.put fd → Binds K fd ["self", "number"] [] := fun _ F => F.binds fun _ _ _ _ _ _ us hl => match us, hl with | [_, _], _ => rfl
theorem b__law_deed : ∀ fd, Fun K "_law_deed" "_law_deed" s__law_deed A._law_deed fd → Binds K fd ["_law_ladder", "_law_row", "_law_gone", "_law_cell", "_law_limit"] [] := fun _ F => F.binds fun _ _ _ _ _ _ us hl => match us, hl with | [_, _, _, _, _], _ => rfl
theorem b__law_filled : ∀ fd, Fun K "_law_filled" "_law_filled" s__law_filled A._law_filled fd → Binds K fd ["_law_script", "_law_ladder", "_law_limit"] [] := fun _ F => F.binds fun _ _ _ _ _ _ us hl => match us, hl with | [_, _, _], _ => rfl
theorem b_place : ∀ fd, Fun K "place" "Ladder.place" s_place A.place fd → Binds K fd ["self", "number"] [] := fun _ F => F.binds fun _ _ _ _ _ _ us hl => match us, hl with | [_, _], _ => rfl
theorem b_steps_by_gaps : ∀ fd, Fun K "steps_by_gaps" "steps_by_gaps" s_steps_by_gaps A.steps_by_gaps fd → Binds K fd ["ladder", "place"] [] := fun _ F => F.binds fun _ _ _ _ _ _ us hl => match us, hl with | [_, _], _ => rfl
theorem b_way : ∀ fd, Fun K "way" "Ladder.way" s_way A.way fd → Binds K fd ["self", "place"] [] := fun _ F => F.binds fun _ _ _ _ _ _ us hl => match us, hl with | [_, _], _ => rfl
theorem b_at : ∀ fd, Fun K "at" "Ladder.at" s_at A.a_at fd → Binds K fd ["self", "place"] [] := fun _ F => F.binds fun _ _ _ _ _ _ us hl => match us, hl with | [_, _], _ => rfl
theorem b_counted : ∀ fd, Fun K "counted" "Ladder.counted" s_counted A.counted fd → Binds K fd ["self", "low", "high"] [] := fun _ F => F.binds fun _ _ _ _ _ _ us hl => match us, hl with | [_, _, _], _ => rfl
theorem b_stretch : ∀ fd, Fun K "stretch" "Ladder.stretch" s_stretch A.stretch fd → Binds K fd ["self", "low", "high"] [] := fun _ F => F.binds fun _ _ _ _ _ _ us hl => match us, hl with | [_, _, _], _ => rfl
theorem b_need_level : ∀ fd, Fun K "need_level" "Ladder.need_level" s_need_level A.need_level fd → Binds K fd ["self", "level"] [] := fun _ F => F.binds fun _ _ _ _ _ _ us hl => match us, hl with | [_, _], _ => rfl
theorem b_ahead : ∀ fd, Fun K "ahead" "Ladder.ahead" s_ahead A.ahead fd → Binds K fd ["self", "level", "number"] [] := fun _ F => F.binds fun _ _ _ _ _ _ us hl => match us, hl with | [_, _, _], _ => rfl
theorem b__law_missing : ∀ fd, Fun K "_law_missing" "_law_missing" s__law_missing A._law_missing fd → Binds K fd ["_law_ladder", "_law_number_here"] [] := fun _ F => F.binds fun _ _ _ _ _ _ us hl => match us, hl with | [_, _], _ => rfl
theorem b__law_no_place : ∀ fd, Fun K "_law_no_place" "_law_no_place" s__law_no_place A._law_no_place fd → Binds K fd ["_law_ladder", "_law_place"] [] := fun _ F => F.binds fun _ _ _ _ _ _ us hl => match us, hl with | [_, _], _ => rfl
theorem b__law_whole : ∀ fd, Fun K "_law_whole" "_law_whole" s__law_whole A._law_whole fd → Binds K fd ["_law_found"] [] := fun _ F => F.binds fun _ _ _ _ _ _ us hl => match us, hl with | [_], _ => rfl
theorem b__law_gap : ∀ fd, Fun K "_law_gap" "_law_gap" s__law_gap A._law_gap fd → Binds K fd ["_law_row", "_law_number_here", "_law_found"] [] := fun _ F => F.binds fun _ _ _ _ _ _ us hl => match us, hl with | [_, _, _], _ => rfl
theorem b__law_way : ∀ fd, Fun K "_law_way" "_law_way" s__law_way A._law_way fd → Binds K fd ["_law_ladder", "_law_row", "_law_place"] [] := fun _ F => F.binds fun _ _ _ _ _ _ us hl => match us, hl with | [_, _, _], _ => rfl
theorem b__law_refused : ∀ fd, Fun K "_law_refused" "_law_refused" s__law_refused A._law_refused fd → Binds K fd ["_law_ladder", "_law_low", "_law_high"] [] := fun _ F => F.binds fun _ _ _ _ _ _ us hl => match us, hl with | [_, _, _], _ => rfl
theorem b__law_stretch : ∀ fd, Fun K "_law_stretch" "_law_stretch" s__law_stretch A._law_stretch fd → Binds K fd ["_law_ladder", "_law_row", "_law_low", "_law_high"] [] := fun _ F => F.binds fun _ _ _ _ _ _ us hl => match us, hl with | [_, _, _, _], _ => rfl
theorem b_law : ∀ fd, Fun K "law" "law" s_law A.law fd → Binds K fd ["_law_script"] [] := fun _ F => F.binds fun _ _ _ _ _ _ us hl => match us, hl with | [_], _ => rfl
end
end Lk
local macro_rules | `(tactic| walk_at "go1") => `(tactic| first
  | with_reducible refine Lk.g_pr1 ?_
  | with_reducible refine Lk.g_pr2 ?_
  | with_reducible refine Lk.g_seq ?_
  | with_reducible refine Lk.g_set ?_
  | with_reducible refine Lk.g_if ?_
  | with_reducible refine Lk.g_ret ?_
  | with_reducible refine Lk.g_drop ?_
  | with_reducible refine Lk.g_next ?_
  | ((with_reducible refine Lk.g_var (v := ?v) ?e ?_); (case e => rfl))
  | with_reducible refine Lk.g_c ?_
  | with_reducible refine Lk.g_op ?_
  | with_reducible refine Lk.g_test ?_
  | with_reducible refine Lk.g_bl ?_
  | with_reducible refine Lk.g_tB ?_
  | with_reducible refine Lk.g_add ?_
  | with_reducible refine Lk.g_sub ?_
  | ((with_reducible refine Lk.g_mod ?_ ?_); first | decide | omega | assumption)
  | ((with_reducible refine Lk.g_div ?_ ?_); first | decide | omega | assumption)
  | with_reducible refine Lk.g_lt ?_
  | with_reducible refine Lk.g_le ?_
  | with_reducible refine Lk.g_gt ?_
  | with_reducible refine Lk.g_ge ?_
  | with_reducible refine Lk.g_eqI ?_
  | with_reducible refine Lk.g_neI ?_
  | with_reducible refine Lk.g_neB ?_
  | with_reducible refine Lk.g_isN ?_
  | with_reducible refine Lk.g_notN ?_
  | with_reducible refine Lk.g_cons ?_
  | with_reducible refine Lk.g_nil ?_
  | with_reducible refine Lk.g_call ?_
  | with_reducible refine Lk.g_callB ?_
  | with_reducible refine Lk.g_not ?_
  | with_reducible refine Lk.g_and ?_
  | with_reducible refine Lk.g_or ?_
  | with_reducible refine Lk.g_andV ?_
  | with_reducible refine Lk.g_orV ?_
  | with_reducible refine Lk.g_notV ?_
  | with_reducible refine Lk.g_ifE ?_
  | with_reducible refine Lk.g_max2 ?_
  | with_reducible refine Lk.g_min2 ?_
  | with_reducible refine Lk.g_for ?_
  | with_reducible refine Lk.g_rng1 ?_
  | with_reducible refine Lk.g_name _ ?_
  | with_reducible refine Lk.g_un ?_
  | with_reducible refine Lk.g_neg ?_
  | with_reducible refine Lk.g_retN ?_
  | with_reducible refine Lk.g_iL ?_
  | with_reducible refine Lk.g_append ?_
  | with_reducible refine Lk.g_lst0 ?_
  | with_reducible refine Lk.g_tup0 ?_
  | with_reducible refine Lk.g_fld0 ?_
  | with_reducible refine Lk.g_get0 ?_
  | with_reducible refine Lk.g_in0 ?_
  | with_reducible refine Lk.g_nin0 ?_
  | with_reducible refine Lk.g_meth0 ?_
  | with_reducible refine Lk.g_lc ?_
  | with_reducible refine Lk.g_yes ?_
  | with_reducible refine Lk.g_tt ?_
  | with_reducible refine Lk.g_ff ?_
  | with_reducible refine Lk.g_lrg0 ?_
  | (with_reducible refine' Lk.lad_width ?t ?x ?_; (case t => assumption); (case x => assumption))
  | (with_reducible refine' Lk.lad_high ?t ?x ?_; (case t => assumption); (case x => assumption))
  | (with_reducible refine' Lk.lad_limit ?t ?x ?_; (case t => assumption); (case x => assumption))
  | (with_reducible refine' Lk.lad_many ?t ?x ?_; (case t => assumption); (case x => assumption))
  | (with_reducible refine' Lk.lad_least ?t ?x ?_; (case t => assumption); (case x => assumption))
  | (with_reducible refine' Lk.lad_nexts ?t ?x ?_; (case t => assumption); (case x => assumption))
  | (with_reducible refine' Lk.lad_gaps ?t ?x ?_; (case t => assumption); (case x => assumption))
  | (with_reducible refine' Lk.lad_nx ?x ?hl ?_; (case x => assumption); (case hl => omega))
  | (with_reducible refine' Lk.lad_gx ?x ?hl ?_; (case x => assumption); (case hl => omega))
  | (with_reducible refine' Lk.lad_nx0 ?x ?_; (case x => assumption))
  | (with_reducible refine' Lk.lad_meth ?x ?hm ?_; (case x => assumption); (case hm => decide +kernel))
  | with_reducible refine Lk.g_put0 ?_
  | with_reducible refine Lk.g_fset0 ?_
  | with_reducible refine Lk.g_aug0 ?_
  | with_reducible refine Lk.g_asgT ?_
  | with_reducible refine Lk.g_asgS ?_
  | with_reducible refine Lk.g_gcons ?_
  | with_reducible refine Lk.g_gnil ?_
  | with_reducible refine Lk.g_methS ?_
  | with_reducible refine Lk.g_callS ?_
  | with_reducible refine Lk.g_makeS ?_
  | with_reducible refine Lk.g_make ?_
  | with_reducible refine Lk.g_pop0 ?_)
local macro_rules | `(tactic| walk_at "go") => `(tactic| repeat walk_at "go1")
local macro_rules | `(tactic| walk_at "gb") => `(tactic| repeat (first
  | walk_at "go1"
  | with_reducible refine Lk.i_t ?_
  | with_reducible refine Lk.i_f ?_
  | with_reducible refine Lk.i_nt ?_
  | with_reducible refine Lk.i_nf ?_))
local macro_rules | `(tactic| walk_at "gw") => `(tactic| repeat (first
  | with_reducible refine Lk.g_pr1 ?_
  | with_reducible refine Lk.g_pr2 ?_
  | (fail_if_success (with_reducible refine Lk.g_if ?_)); (fail_if_success (with_reducible refine Lk.g_orV ?_)); (fail_if_success (with_reducible refine Lk.g_andV ?_)); walk_at "go1"
  | with_reducible refine Lk.i_t ?_
  | with_reducible refine Lk.i_f ?_
  | with_reducible refine Lk.i_nt ?_
  | with_reducible refine Lk.i_nf ?_))

namespace Lk
open PySem PySem.Spec PyProof.Rows L2
section
variable {P : Program} {w : World} {K : PySem.W.Frag} {mg : Str → Option Value} {base : Heap} {A : Ads}
def sp_power : Sp := fun vs H Q _ => ∃ (w : Int) (l : Nat), vs = [.int w, .int (l : Int)] ∧ 2 ≤ w ∧ w ≤ 9 ∧ l ≤ 12 ∧ Q (.int (w ^ l)) H
theorem ok_power (T : Txt K mg A) : FO P w K mg base 2 A.power ["width", "level"] sp_power := by
  have S := sc_power
  refine FO.mk' T.f_power S b_power (fun vs H Q E h => by obtain ⟨_, _, rfl, _⟩ := h; rfl) (fun cdv Ar outer s H vs Q E hr h => ?_)
  have hu := hu_of hr
  obtain ⟨wd, l, rfl, h1, h2, h3, k⟩ := h
  refine ⟨_, (pss_cons (ps_set (i := 2) S.nd rfl (Or.inl rfl) pe_int)
  (pss_cons (ps_for (passes_of rfl) rfl (pi_range1 rfl T.z_range (pa_cons (pv 1) pa_nil)) (pg_name (i := 3) S.nd rfl (Or.inl rfl))
    (pss_one (ps_set (i := 2) S.nd rfl (Or.inl rfl) (pe_op o_mul (pv 2) (pv 0)))))
  (pss_one (ps_ret (pv 2))))), ?_⟩
  walk_at "go"
  refine g_rng (by omega) (by omega) ?_
  refine for_range (lo := 0) (fun i σ H' => H' = H ∧ ∃ v, σ = [some (.int wd), some (.int (l : Int)), some (.int (wd ^ i)), v]) ⟨rfl, none, by rw [Int.pow_zero]; rfl⟩ ?_ ?_
  · rintro i σ H' hi ⟨rfl, v, rfl⟩
    walk_at "go"
    refine g_mul (.inr (by omega)) ?_
    walk_at "go"
    exact ⟨rfl, _, by rw [Int.pow_succ]; rfl⟩
  · rintro σ H' ⟨rfl, v, rfl⟩
    walk_at "go"
    exact k

def sp_block : Sp := fun vs H Q _ => ∃ (w : Int) (l : Nat) (n : Int), vs = [.int w, .int (l : Int), .int n] ∧ 2 ≤ w ∧ w ≤ 9 ∧ l ≤ 12 ∧ Q (.int (n / w ^ l)) H
theorem pow_bound {w : Int} {l : Nat} (h1 : 2 ≤ w) (h2 : w ≤ 9) (h3 : l ≤ 12) : 0 < w ^ l ∧ w ^ l ≤ 282429536481 := by
  refine ⟨Int.pow_pos (by omega), ?_⟩
  obtain ⟨m, rfl⟩ : ∃ m : Nat, w = (m : Int) := ⟨w.toNat, by omega⟩
  have a : m ^ l ≤ 9 ^ l := Nat.pow_le_pow_left (by omega) l
  have b : 9 ^ l ≤ 9 ^ 12 := Nat.pow_le_pow_right (by decide) h3
  have c : 9 ^ 12 = 282429536481 := by decide
  rw [← Int.natCast_pow]
  omega
theorem ok_block (T : Txt K mg A) : FO P w K mg base 3 A.block ["width", "level", "number"] sp_block := by
  obtain ⟨fd_power, G_power, B_power⟩ := ok_power (P := P) (w := w) (base := base) T
  have S := sc_block
  refine FO.mk' T.f_block S b_block (fun vs H Q E h => by obtain ⟨_, _, _, rfl, _⟩ := h; rfl) (fun cdv Ar outer s H vs Q E hr h => ?_)
  have hu := hu_of hr
  obtain ⟨wd, l, n, rfl, h1, h2, h3, k⟩ := h
  refine ⟨_, (pss_one (ps_ret (pe_op o_div (pv 2) (pe_call G_power (hr.mono (by decide)) rfl T.g_power T.k_power B_power .nil passL (pa_cons (pv 0) (pa_cons (pv 1) pa_nil)))))), ?_⟩
  walk_at "go"
  refine ⟨wd, l, rfl, h1, h2, h3, ?_⟩
  have hp := pow_bound h1 h2 h3
  walk_at "go"
  exact k

def sp__law_cell_at (K : PySem.W.Frag) : Sp := fun vs H Q _ => ∃ (a : Addr) (k : Nat) (ns : List Int), vs = [.ref a, .int (k : Int)] ∧ SqL K H a (ns.map V.int) ∧ Q (.int (ns.getD k 0)) H
theorem ok__law_cell_at (T : Txt K mg A) : FO P w K mg base 2 A._law_cell_at ["_law_script", "_law_k"] (sp__law_cell_at K) := by
  have S := sc__law_cell_at
  refine FO.mk' T.f__law_cell_at S b__law_cell_at (fun vs H Q E h => by obtain ⟨_, _, _, rfl, _⟩ := h; rfl) (fun cdv Ar outer s H vs Q E hr h => ?_)
  have hu := hu_of hr
  obtain ⟨a, k, ns, rfl, hs, q⟩ := h
  refine ⟨_, (pss_cons (ps_if (pt_cmpR o_lt (pv 1) (pe_callB (k_len (K := K) rfl) (by rfl) T.z_len PySem.boot_len (pa_cons (pv 0) pa_nil)) (nomark _))
    (pss_one (ps_ret (pe_ix (k_ixL (K := K) rfl) (pv 0) (pv 1) (fun _ _ => rfl))))
    pss_nil)
  (pss_one (ps_ret pe_int))), ?_⟩
  walk_at "go"
  refine g_lenL hs ?_
  walk_at "go"
  refine g_ite (fun e => ?_) (fun e => ?_)
  · have e' : k < ns.length := by
      have := of_decide_eq_true e
      rw [List.length_map] at this
      omega
    walk_at "go"
    refine g_ixL hs (atI_nat (j := k) (v := .int (ns.getD k 0)) ?_) ?_
    · rw [List.getElem?_map, List.getElem?_eq_getElem e', List.getD_eq_getElem?_getD, List.getElem?_eq_getElem e']
      rfl
    · walk_at "go"
      exact q
  · have e' : ¬ k < ns.length := fun z => by
      have := of_decide_eq_false e
      rw [List.length_map] at this
      omega
    walk_at "go"
    have e2 : ns.getD k 0 = 0 := by
      rw [List.getD_eq_getElem?_getD, List.getElem?_eq_none (by omega)]
      rfl
    rw [e2] at q
    exact q

def sp__law_whole : Sp := fun vs H Q _ => ∃ i : Int, vs = [.int i] ∧ Q (.bl true) H
theorem ok__law_whole (T : Txt K mg A) : FO P w K mg base 2 A._law_whole ["_law_found"] sp__law_whole := by
  have S := sc__law_whole
  refine FO.mk' T.f__law_whole S b__law_whole (fun vs H Q E h => by obtain ⟨_, rfl, _⟩ := h; rfl) (fun cdv Ar outer s H vs Q E hr h => ?_)
  have hu := hu_of hr
  obtain ⟨i, rfl, q⟩ := h
  refine ⟨_, (pss_one (ps_ret (pe_and (pe_callB (k_isi (K := K) rfl) (by rfl) T.z_isinstance PyProof.Rows.boot_isinstance (pa_cons (pv 0) (pa_cons (pe_bltn (v := .ty "int") rfl T.z_int PyProof.Rows.boot_int rfl) pa_nil))) (pe_one (pe_not (pe_callB (k_isi (K := K) rfl) (by rfl) T.z_isinstance PyProof.Rows.boot_isinstance (pa_cons (pv 0) (pa_cons (pe_bltn (v := .ty "bool") rfl T.z_bool PyProof.Rows.boot_bool rfl) pa_nil)))))))), ?_⟩
  walk_at "go"
  refine g_isi (.base (.int i)) (.ty _) (kit_ty (r := true) (by decide +kernel)) ?_
  walk_at "go"
  refine g_isi (.base (.int i)) (.ty _) (kit_ty (r := false) (by decide +kernel)) ?_
  walk_at "go"
  exact q

/-- on how many levels a number stands behind the next lesser one -/
def IsTall (w : Int) (h : Nat) (ob : Option Int) (n : Int) (t : Nat) : Prop := match ob with
  | none => t = h + 1
  | some b => t ≤ h + 1 ∧ (∀ l, l < t → b / w ^ l ≠ n / w ^ l) ∧ (t ≤ h → b / w ^ t = n / w ^ t)
def sp_tall : Sp := fun vs H Q _ => ∃ (w : Int) (h : Nat) (b : Option Int) (n : Int), vs = [.int w, .int (h : Int), ov b, .int n] ∧ 2 ≤ w ∧ w ≤ 9 ∧ h ≤ 12 ∧ ∀ t : Nat, IsTall w h b n t → Q (.int (t : Int)) H
theorem ok_tall (T : Txt K mg A) : FO P w K mg base 4 A.tall ["width", "high", "before", "number"] sp_tall := by
  obtain ⟨fd_block, G_block, B_block⟩ := ok_block (P := P) (w := w) (base := base) T
  have S := sc_tall
  refine FO.mk' T.f_tall S b_tall (fun vs H Q E h => by obtain ⟨_, _, _, _, rfl, _⟩ := h; rfl) (fun cdv Ar outer s H vs Q E hr h => ?_)
  have hu := hu_of hr
  obtain ⟨wd, hh, b, n, rfl, h1, h2, h3, k⟩ := h
  refine ⟨_, (pss_cons (ps_if (pt_cmpR o_isN (pv 2) pe_non (nomark _))
    (pss_one (ps_ret (pe_op o_add (pv 1) pe_int)))
    pss_nil)
  (pss_cons (ps_set (i := 4) S.nd rfl (Or.inl rfl) pe_int)
  (pss_cons (ps_while (passes_of rfl) (PW.pt (pw_and (pt_cmpR o_le (pv 4) (pv 1) (nomark _)) (pw_and1 (pt_cmpR op_ne (pe_call G_block (hr.mono (by decide)) rfl T.g_block T.k_block B_block .nil passL (pa_cons (pv 0) (pa_cons (pv 4) (pa_cons (pv 2) pa_nil)))) (pe_call G_block (hr.mono (by decide)) rfl T.g_block T.k_block B_block .nil passL (pa_cons (pv 0) (pa_cons (pv 4) (pa_cons (pv 3) pa_nil)))) (nomark _)))))
    (pss_one (ps_set (i := 4) S.nd rfl (Or.inl rfl) (pe_op o_add (pv 4) pe_int))))
  (pss_one (ps_ret (pv 4)))))), ?_⟩
  walk_at "go"
  cases b with
  | none =>
    refine g_iteT rfl ?_
    walk_at "go"
    exact k (hh + 1) rfl
  | some b =>
    refine g_iteF rfl ?_
    walk_at "go"
    refine g_while (fun m σ H' => H' = H ∧ ∃ lev : Nat, m = hh + 1 - lev ∧ lev ≤ hh + 1 ∧ (∀ l, l < lev → b / wd ^ l ≠ n / wd ^ l) ∧ σ = [some (.int wd), some (.int (hh : Int)), some (.int b), some (.int n), some (.int (lev : Int))])
      (hh + 1) ⟨rfl, 0, by omega, by omega, (fun l hl => absurd hl (Nat.not_lt_zero l)), rfl⟩ ?_
    rintro m σ H' ⟨rfl, lev, rfl, hl, hne, rfl⟩
    walk_at "go"
    refine g_ite (fun e => ?_) (fun e => ?_)
    · have e' : lev ≤ hh := by have := of_decide_eq_true e; omega
      walk_at "go"
      refine ⟨wd, lev, b, rfl, h1, h2, by omega, ?_⟩
      walk_at "go"
      refine ⟨wd, lev, n, rfl, h1, h2, by omega, ?_⟩
      walk_at "go"
      refine g_ite (fun e2 => ?_) (fun e2 => ?_)
      · have e3 : b / wd ^ lev ≠ n / wd ^ lev := by simpa using e2
        refine g_body ?_
        walk_at "go"
        refine ⟨hh + 1 - (lev + 1), by omega, rfl, lev + 1, rfl, by omega, fun l hl2 => ?_, rfl⟩
        by_cases q : l = lev
        · rw [q]; exact e3
        · exact hne l (by omega)
      · have e3 : b / wd ^ lev = n / wd ^ lev := by simpa using e2
        walk_at "go"
        exact k lev ⟨by omega, hne, fun _ => e3⟩
    · have e' : ¬ lev ≤ hh := by have := of_decide_eq_false e; omega
      walk_at "go"
      exact k lev ⟨by omega, hne, fun q => absurd q e'⟩


end
end Lk

namespace Lk
open PySem PySem.Spec PyProof.Rows L2
section
variable {P : Program} {w : World} {K : PySem.W.Frag} {mg : Str → Option Value} {base : Heap} {A : Ads}
def sp_need (O : Addr) : Sp := fun vs H Q E => ∃ (p : Addr) (n m : Int), vs = [.ref p, .int n, .int m] ∧ (0 ≤ n → n ≤ m → Q .non H) ∧ (¬ (0 ≤ n ∧ n ≤ m) → E (.ref O) none H)
theorem ok_need (T : Txt K mg A) : FO P w K mg base 2 A.need ["self", "number", "most"] (sp_need A.OutOfRange) := by
  have S := sc_need
  refine FO.mk' T.f_need S b_need (fun vs H Q E h => by obtain ⟨_, _, _, rfl, _⟩ := h; rfl) (fun cdv Ar outer s H vs Q E hr h => ?_)
  have hu := hu_of hr
  obtain ⟨p, n, m, rfl, k1, k2⟩ := h
  refine ⟨_, (pss_one (ps_if (PW.pt (pw_or (pt_cmpR o_lt (pv 1) pe_int (nomark _)) (pw_or1 (pt_cmpR o_gt (pv 1) (pv 2) (nomark _)))))
    (pss_one (ps_raise rfl (takes_of rfl rfl rfl rfl) (pmk_own PySem.F.excBase_ValueError T.x_OutOfRange.x T.x_OutOfRange.g T.x_OutOfRange.k (raises_own T.x_OutOfRange.b T.x_OutOfRange.t) rfl)))
    pss_nil)), ?_⟩
  walk_at "go"
  refine g_ite (fun e => ?_) (fun e => ?_)
  · walk_at "go"
    exact k2 (by have := of_decide_eq_true e; omega)
  · walk_at "go"
    refine g_ite (fun e2 => ?_) (fun e2 => ?_)
    · exact k2 (by have := of_decide_eq_true e2; omega)
    · walk_at "go"
      have := of_decide_eq_false e
      have := of_decide_eq_false e2
      exact k1 (by omega) (by omega)

def sp_need_level (C O : Addr) : Sp := fun vs H Q E => ∃ (p : Addr) (n : Int) (L : LS) (S : List Int), vs = [.ref p, .int n] ∧ Lad C H p L S ∧ (∀ l : Nat, n = (l : Int) → l ≤ L.h → Q .non H) ∧ (¬ (0 ≤ n ∧ n ≤ (L.h : Int)) → E (.ref O) none H)
theorem ok_need_level (T : Txt K mg A) : FO P w K mg base 2 A.need_level ["self", "level"] (sp_need_level A.Ladder A.NoLevel) := by
  have S := sc_need_level
  refine FO.mk' T.f_need_level S b_need_level (fun vs H Q E h => by obtain ⟨_, _, _, _, rfl, _⟩ := h; rfl) (fun cdv Ar outer s H vs Q E hr h => ?_)
  have hu := hu_of hr
  obtain ⟨p, n, L, S0, rfl, Ld, k1, k2⟩ := h
  have X := Ld.toLadX
  have lt := T.lt
  refine ⟨_, (pss_one (ps_if (PW.pt (pw_or (pt_cmpR o_lt (pv 1) pe_int (nomark _)) (pw_or1 (pt_cmpR o_gt (pv 1) (k_fld (K := K) rfl (pv 0) rfl) (nomark _)))))
    (pss_one (ps_raise rfl (takes_of rfl rfl rfl rfl) (pmk_own PySem.F.excBase_ValueError T.x_NoLevel.x T.x_NoLevel.g T.x_NoLevel.k (raises_own T.x_NoLevel.b T.x_NoLevel.t) rfl)))
    pss_nil)), ?_⟩
  walk_at "go"
  refine g_ite (fun e => ?_) (fun e => ?_)
  · walk_at "go"
    exact k2 (by have := of_decide_eq_true e; omega)
  · walk_at "go"
    refine g_ite (fun e2 => ?_) (fun e2 => ?_)
    · exact k2 (by have := of_decide_eq_true e2; omega)
    · walk_at "go"
      have := of_decide_eq_false e
      have := of_decide_eq_false e2
      exact k1 n.toNat (by omega) (by omega)

def sp_has (C O : Addr) : Sp := fun vs H Q E => ∃ (p : Addr) (n : Int) (L : LS) (S : List Int), vs = [.ref p, .int n] ∧ Lad C H p L S ∧ (0 ≤ n → n < L.w ^ L.h → Q (.bl (decide (n ∈ S))) H) ∧ (¬ (0 ≤ n ∧ n < L.w ^ L.h) → E (.ref O) none H)
theorem ok_has (T : Txt K mg A) : FO P w K mg base 3 A.has ["self", "number"] (sp_has A.Ladder A.OutOfRange) := by
  obtain ⟨fd_need, G_need, B_need⟩ := ok_need (P := P) (w := w) (base := base) T
  have S := sc_has
  refine FO.mk' T.f_has S b_has (fun vs H Q E h => by obtain ⟨_, _, _, _, rfl, _⟩ := h; rfl) (fun cdv Ar outer s H vs Q E hr h => ?_)
  have hu := hu_of hr
  obtain ⟨p, n, L, S0, rfl, Ld, k1, k2⟩ := h
  have X := Ld.toLadX
  have lt := T.lt
  refine ⟨_, (pss_cons (ps_expr (pe_meth (pv 0) T.lt.cl T.m_need G_need (hr.mono (by decide)) B_need .nil (passes_call (takes_of rfl rfl rfl rfl) (fun _ _ _ _ z => z)) (pa_cons (pv 1) (pa_cons (pe_op o_sub (k_fld (K := K) rfl (pv 0) rfl) pe_int) pa_nil))))
  (pss_one (ps_ret (pe_cmp (pc_din hu (pv 1) (pe_ix (k_ixL (K := K) rfl) (k_fld (K := K) rfl (pv 0) rfl) pe_int (fun _ _ => rfl))))))), ?_⟩
  walk_at "go"
  refine ⟨p, n, _, rfl, fun h1 h2 => ?_, fun q => k2 (by omega)⟩
  walk_at "go"
  refine g_diIn (X.dn 0 (Nat.zero_le _)) ?_
  rw [nV_some, Int.pow_zero, decide_eq_decide.mpr st_one]
  exact k1 h1 (by omega)




def sp_ahead (C ON OM : Addr) : Sp := fun vs H Q E => ∃ (p : Addr) (n k : Int) (L : LS) (S : List Int), vs = [.ref p, .int n, .int k] ∧ Lad C H p L S ∧
  (∀ l : Nat, n = (l : Int) → l ≤ L.h → Sk.St (L.w ^ l) S k → ∀ t H', H t = none → Same H H' → H' t = some (.tup [ov (Sk.nx (L.w ^ l) S k), .int (Sk.gp (L.w ^ l) S k)]) → Q (.ref t) H') ∧
  (∀ l : Nat, n = (l : Int) → l ≤ L.h → ¬ Sk.St (L.w ^ l) S k → E (.ref OM) none H) ∧ (¬ (0 ≤ n ∧ n ≤ (L.h : Int)) → E (.ref ON) none H)
theorem ok_ahead (T : Txt K mg A) : FO P w K mg base 3 A.ahead ["self", "level", "number"] (sp_ahead A.Ladder A.NoLevel A.Missing) := by
  obtain ⟨fd_need_level, G_need_level, B_need_level⟩ := ok_need_level (P := P) (w := w) (base := base) T
  have S := sc_ahead
  refine FO.mk' T.f_ahead S b_ahead (fun vs H Q E h => by obtain ⟨_, _, _, _, _, rfl, _⟩ := h; rfl) (fun cdv Ar outer s H vs Q E hr h => ?_)
  have hu := hu_of hr
  obtain ⟨p, n, x, L, S0, rfl, Ld, k1, k2, k3⟩ := h
  have X := Ld.toLadX
  have lt := T.lt
  refine ⟨_, (pss_cons (ps_expr (pe_meth (pv 0) T.lt.cl T.m_need_level G_need_level (hr.mono (by decide)) B_need_level .nil (passes_call (takes_of rfl rfl rfl rfl) (fun _ _ _ _ z => z)) (pa_cons (pv 1) pa_nil)))
  (pss_cons (ps_if (pt_cmp (pc_dnotin hu (pv 2) (pe_ix (k_ixL (K := K) rfl) (k_fld (K := K) rfl (pv 0) rfl) (pv 1) (fun _ _ => rfl))))
    (pss_one (ps_raise rfl (takes_of rfl rfl rfl rfl) (pmk_own PySem.F.excBase_ValueError T.x_Missing.x T.x_Missing.g T.x_Missing.k (raises_own T.x_Missing.b T.x_Missing.t) rfl)))
    pss_nil)
  (pss_one (ps_ret (pe_tup (pa_cons (pe_dget hu (pe_ix (k_ixL (K := K) rfl) (k_fld (K := K) rfl (pv 0) rfl) (pv 1) (fun _ _ => rfl)) (pv 2) (fun _ _ => rfl)) (pa_cons (pe_dget hu (pe_ix (k_ixL (K := K) rfl) (k_fld (K := K) rfl (pv 0) rfl) (pv 1) (fun _ _ => rfl)) (pv 2) (fun _ _ => rfl)) pa_nil))))))), ?_⟩
  walk_at "go"
  refine ⟨p, n, L, S0, rfl, Ld, fun l e hl => ?_, k3⟩
  subst e
  walk_at "go"
  refine g_diNin (X.dn l hl) ?_
  rw [nV_some]
  walk_at "go"
  refine g_ite (fun e => ?_) (fun e => ?_)
  · walk_at "go"
    exact k2 l rfl hl (by simpa using e)
  · have hx : Sk.St (L.w ^ l) S0 x := by simpa using e
    walk_at "go"
    refine lad_dn X hl (nA_of hx) ?_
    walk_at "go"
    refine lad_dg X hl (gA_of hx) ?_
    walk_at "go"
    exact g_newT (by show 2 ≤ 1000; decide) fun t H' ht s e => k1 l rfl hl hx t H' ht s e

def bfL (L : LS) (S : List Int) (n : Int) : List V := (List.range (L.h + 1)).map fun j => ov (Sk.bf (L.w ^ j) S n)
def plL (L : LS) (S : List Int) (n : Int) : List V := (List.range (L.h + 1)).map fun j => V.int (Sk.pl (L.w ^ j) S n : Nat)
def bfR (L : LS) (S : List Int) (n : Int) (r : Nat) : List V := (List.range (L.h + 1)).map fun j => if r ≤ j then ov (Sk.bf (L.w ^ j) S n) else .non
def plR (L : LS) (S : List Int) (n : Int) (r : Nat) : List V := (List.range (L.h + 1)).map fun j => if r ≤ j then V.int (Sk.pl (L.w ^ j) S n : Nat) else .int 0
def sp_nearest (C : Addr) : Sp := fun vs H Q _ => ∃ (p : Addr) (n : Int) (L : LS) (S : List Int), vs = [.ref p, .int n] ∧ Lad C H p L S ∧
  ∀ t b q H', Same H H' → H t = none → H b = none → H q = none → H' t = some (.tup [.ref b, .ref q]) → H' b = some (.lst (bfL L S n)) → H' q = some (.lst (plL L S n)) → Q (.ref t) H'
theorem bfR_set {L : LS} {S : List Int} {n : Int} {r : Nat} (h : r ≤ L.h) : (bfR L S n (r + 1)).set r (ov (Sk.bf (L.w ^ r) S n)) = bfR L S n r := by
  unfold bfR
  rw [set_map (by omega)]
  refine List.map_congr_left fun j hj => ?_
  by_cases e : j = r
  · subst e; rw [if_pos rfl, if_pos (Nat.le_refl _)]
  · rw [if_neg e]
    by_cases q : r ≤ j
    · rw [if_pos (by omega), if_pos q]
    · rw [if_neg (by omega), if_neg q]
theorem plR_set {L : LS} {S : List Int} {n : Int} {r : Nat} (h : r ≤ L.h) : (plR L S n (r + 1)).set r (.int (Sk.pl (L.w ^ r) S n : Nat)) = plR L S n r := by
  unfold plR
  rw [set_map (by omega)]
  refine List.map_congr_left fun j hj => ?_
  by_cases e : j = r
  · subst e; rw [if_pos rfl, if_pos (Nat.le_refl _)]
  · rw [if_neg e]
    by_cases q : r ≤ j
    · rw [if_pos (by omega), if_pos q]
    · rw [if_neg (by omega), if_neg q]
theorem ok_nearest (T : Txt K mg A) : FO P w K mg base 2 A.nearest ["ladder", "number"] (sp_nearest A.Ladder) := by
  have S := sc_nearest
  refine FO.mk' T.f_nearest S b_nearest (fun vs H Q E h => by obtain ⟨_, _, _, _, rfl, _⟩ := h; rfl) (fun cdv Ar outer s H vs Q E hr h => ?_)
  have hu := hu_of hr
  obtain ⟨p, n, L, S0, rfl, Ld, k⟩ := h
  have X := Ld.toLadX
  have lt := T.lt
  have hh := Ld.ok.h2
  have hs := Ld.srt
  refine ⟨_, (pss_cons (ps_setLc (i := 2) (own := [("level", 6)]) (g := gName 6) (tt := tYes) rfl S.nd rfl rfl (sw_true rfl rfl rfl (by decide +kernel)) (pi_range1 rfl T.z_range (pa_cons (pe_op o_add (k_fld (K := K) rfl (pv 0) rfl) pe_int) pa_nil)) (blkOk_by (N := N_nearest) (sc := defScope s_nearest) (by decide +kernel)) (fun _ _ _ _ _ => pg_name (i := 6) S.nd rfl (Or.inl rfl)) (fun _ _ _ _ _ => pts_nil) (fun _ _ _ _ _ => pe_non))
  (pss_cons (ps_setLc (i := 3) (own := [("level", 6)]) (g := gName 6) (tt := tYes) rfl S.nd rfl rfl (sw_true rfl rfl rfl (by decide +kernel)) (pi_range1 rfl T.z_range (pa_cons (pe_op o_add (k_fld (K := K) rfl (pv 0) rfl) pe_int) pa_nil)) (blkOk_by (N := N_nearest) (sc := defScope s_nearest) (by decide +kernel)) (fun _ _ _ _ _ => pg_name (i := 6) S.nd rfl (Or.inl rfl)) (fun _ _ _ _ _ => pts_nil) (fun _ _ _ _ _ => pe_int))
  (pss_cons (ps_if (PW.pt (pw_or (pt_cmpR o_isN (k_fld (K := K) rfl (pv 0) rfl) pe_non (nomark _)) (pw_or1 (pt_cmpR o_ge (k_fld (K := K) rfl (pv 0) rfl) (pv 1) (nomark _)))))
    (pss_one (ps_ret (pe_tup (pa_cons (pv 2) (pa_cons (pv 3) pa_nil)))))
    pss_nil)
  (pss_cons (ps_set (i := 4) S.nd rfl (Or.inl rfl) (k_fld (K := K) rfl (pv 0) rfl))
  (pss_cons (ps_set (i := 5) S.nd rfl (Or.inl rfl) pe_int)
  (pss_cons (ps_set (i := 6) S.nd rfl (Or.inl rfl) (k_fld (K := K) rfl (pv 0) rfl))
  (pss_cons (ps_while (passes_of rfl) (pt_cmpR o_ge (pv 6) pe_int (nomark _))
    (pss_cons (ps_set (i := 7) S.nd rfl (Or.inl rfl) (pe_dget hu (pe_ix (k_ixL (K := K) rfl) (k_fld (K := K) rfl (pv 0) rfl) (pv 6) (fun _ _ => rfl)) (pv 4) (fun _ _ => rfl)))
    (pss_one (ps_if (PW.pt (pw_and (pt_cmpR o_notN (pv 7) pe_non (nomark _)) (pw_and1 (pt_cmpR o_lt (pv 7) (pv 1) (nomark _)))))
      (pss_cons (ps_set (i := 5) S.nd rfl (Or.inl rfl) (pe_op o_add (pv 5) (pe_dget hu (pe_ix (k_ixL (K := K) rfl) (k_fld (K := K) rfl (pv 0) rfl) (pv 6) (fun _ _ => rfl)) (pv 4) (fun _ _ => rfl))))
      (pss_one (ps_set (i := 4) S.nd rfl (Or.inl rfl) (pv 7))))
      (pss_cons (ps_asg (pv 4) (pg_sub (pv 2) (pv 6) set_list))
      (pss_cons (ps_asg (pv 5) (pg_sub (pv 3) (pv 6) set_list))
      (pss_one (ps_set (i := 6) S.nd rfl (Or.inl rfl) (pe_op o_sub (pv 6) pe_int)))))))))
  (pss_one (ps_ret (pe_tup (pa_cons (pv 2) (pa_cons (pv 3) pa_nil)))))))))))), ?_⟩
  walk_at "go"
  refine g_rng (by omega) (by omega) ?_
  rw [show ((L.h : Int) + 1).toNat = L.h + 1 by omega]
  refine g_lcR (fun i => (List.range i).map fun _ => V.non) rfl ?_ ?_
  · intro D i H' hD hi s e
    walk_at "go"
    refine ⟨rfl, ?_⟩
    walk_at "go"
    exact g_add1 hD s e (by simp; omega) (by rw [List.range_succ, List.map_append]; rfl)
  intro b H1 nb s1 e1
  have X1 := (Ld.same s1).toLadX
  walk_at "go"
  refine g_rng (by omega) (by omega) ?_
  rw [show ((L.h : Int) + 1).toNat = L.h + 1 by omega]
  refine g_lcR (fun i => (List.range i).map fun _ => V.int 0) rfl ?_ ?_
  · intro D i H' hD hi s e
    walk_at "go"
    refine ⟨rfl, ?_⟩
    walk_at "go"
    exact g_add1 hD s e (by simp; omega) (by rw [List.range_succ, List.map_append]; rfl)
  intro q H2 nq1 s2' e2
  have nq := s1.free nq1
  have s2 : Same H H2 := s1.trans s2'
  have X2 := (Ld.same s2).toLadX
  have e1' := s2' _ _ e1
  have nbq : b ≠ q := ne_of_none e1 nq1
  have E1 : H2 b = some (.lst (bfR L S0 n (L.h + 1))) := by
    rw [e1']
    refine congrArg (fun z => some (HO.lst z)) (List.map_congr_left fun j hj => ?_)
    have := List.mem_range.mp hj
    rw [if_neg (by omega)]
  have E2 : H2 q = some (.lst (plR L S0 n (L.h + 1))) := by
    rw [e2]
    refine congrArg (fun z => some (HO.lst z)) (List.map_congr_left fun j hj => ?_)
    have := List.mem_range.mp hj
    rw [if_neg (by omega)]
  have none_ : (∀ z ∈ S0, n ≤ z) → dNewT [.ref b, .ref q] H2 Q := fun hz =>
    g_newT (by show 2 ≤ 1000; decide) fun t H' ht s e => k t b q H' (s2.trans s) (s2.free ht) nb nq e (by
      rw [s _ _ e1']
      refine congrArg (fun z => some (HO.lst z)) (List.map_congr_left fun j hj => ?_)
      rw [Sk.bf_empty hz]
      rfl) (by
      rw [s _ _ e2]
      refine congrArg (fun z => some (HO.lst z)) (List.map_congr_left fun j hj => ?_)
      unfold Sk.pl
      rw [Sk.bf_empty hz]
      rfl)
  walk_at "go"
  cases eh : S0.head? with
  | none =>
    have := Sk.head_nil eh
    subst this
    refine g_iteT rfl ?_
    walk_at "go"
    exact none_ fun z hz => nomatch hz
  | some a =>
    rw [eh] at X2
    refine g_iteF rfl ?_
    walk_at "go"
    refine g_ge ?_
    walk_at "go"
    refine g_ite (fun e => ?_) (fun e => ?_)
    · have e' := of_decide_eq_true e
      walk_at "go"
      exact none_ fun z hz => by have := Sk.head_le hs eh z hz; omega
    have an : a < n := by have := of_decide_eq_false e; omega
    walk_at "go"
    refine g_while (fun m σ H' => ∃ (r : Nat) (at_ pl_ : Int) (lt_ : Option V), σ = [some (.ref p), some (.int n), some (.ref b), some (.ref q), some (.int at_), some (.int pl_), some (.int ((r : Int) - 1)), lt_] ∧ r ≤ L.h + 1 ∧ Same H H' ∧
        H' b = some (.lst (bfR L S0 n r)) ∧ H' q = some (.lst (plR L S0 n r)) ∧ (0 < r → Sk.St (L.w ^ (r - 1)) S0 at_ ∧ at_ < n ∧ pl_ = (Sk.rk S0 at_ : Int)) ∧ m = r + Sk.up S0 at_)
      (L.h + 1 + Sk.up S0 a) ⟨L.h + 1, a, 0, none, ?_, Nat.le_refl _, s2, E1, E2, fun _ => ⟨Sk.st_least hs eh, an, by rw [Sk.rk_least hs eh]; rfl⟩, rfl⟩ ?_
    · rw [show ((L.h + 1 : Nat) : Int) - 1 = (L.h : Int) by omega]
      rfl
    rintro m σ H' ⟨r, at_, pl_, lt_, rfl, hr1, s3, eb, eq, hat, rfl⟩
    have X3 := (Ld.same s3).toLadX
    walk_at "go"
    cases r with
    | zero =>
      refine g_iteF (by simp) ?_
      walk_at "go"
      exact g_newT (by show 2 ≤ 1000; decide) fun t H4 ht s e => k t b q H4 (s3.trans s) (s3.free ht) nb nq e (by
        rw [s _ _ eb]
        exact congrArg (fun z => some (HO.lst z)) (List.map_congr_left fun j hj => if_pos (Nat.zero_le _))) (by
        rw [s _ _ eq]
        exact congrArg (fun z => some (HO.lst z)) (List.map_congr_left fun j hj => if_pos (Nat.zero_le _)))
    | succ l =>
      obtain ⟨hst, hlt, rfl⟩ := hat (Nat.succ_pos _)
      rw [Nat.add_sub_cancel] at hst
      have hl : l ≤ L.h := by omega
      have hp := (pow_ok Ld.ok hl).1
      rw [show ((l + 1 : Nat) : Int) - 1 = (l : Int) by omega]
      refine g_iteT (decide_eq_true (by omega)) ?_
      refine g_body ?_
      walk_at "go"
      refine lad_dn X3 hl (nA_of hst) ?_
      walk_at "go"
      have down : (∀ y, Sk.nx (L.w ^ l) S0 at_ = some y → n ≤ y) → ∀ lv : Option V, ∃ m', m' < l + 1 + Sk.up S0 at_ ∧ ∃ (r : Nat) (at2 pl2 : Int) (lt2 : Option V), ([some (.ref p), some (.int n), some (.ref b), some (.ref q), some (.int at_), some (.int (Sk.rk S0 at_ : Int)), some (.int ((l : Int) - 1)), lv] : L2.St) = [some (.ref p), some (.int n), some (.ref b), some (.ref q), some (.int at2), some (.int pl2), some (.int ((r : Int) - 1)), lt2] ∧ r ≤ L.h + 1 ∧
          Same H (upd (upd H' b (.lst ((bfR L S0 n (l + 1)).set l (.int at_)))) q (.lst ((plR L S0 n (l + 1)).set l (.int (Sk.rk S0 at_ : Int))))) ∧
          (upd (upd H' b (.lst ((bfR L S0 n (l + 1)).set l (.int at_)))) q (.lst ((plR L S0 n (l + 1)).set l (.int (Sk.rk S0 at_ : Int))))) b = some (.lst (bfR L S0 n r)) ∧
          (upd (upd H' b (.lst ((bfR L S0 n (l + 1)).set l (.int at_)))) q (.lst ((plR L S0 n (l + 1)).set l (.int (Sk.rk S0 at_ : Int))))) q = some (.lst (plR L S0 n r)) ∧ (0 < r → Sk.St (L.w ^ (r - 1)) S0 at2 ∧ at2 < n ∧ pl2 = (Sk.rk S0 at2 : Int)) ∧ m' = r + Sk.up S0 at2 := fun hn lv => by
        have hb := Sk.bf_of hp hs hst hlt hn
        refine ⟨l + Sk.up S0 at_, by omega, l, at_, _, lv, rfl, by omega, same_mut (same_mut s3 nb) nq, ?_, ?_, fun h0 => ⟨?_, hlt, rfl⟩, rfl⟩
        · rw [upd_ne nbq, upd_same, ← bfR_set hl, hb]
          rfl
        · rw [upd_same, ← plR_set hl]
          unfold Sk.pl
          rw [hb]
        · have e5 : L.w ^ l = L.w ^ (l - 1) * L.w := by
            obtain ⟨d, rfl⟩ : ∃ d, l = d + 1 := ⟨l - 1, by omega⟩
            rw [Nat.add_sub_cancel, Int.pow_succ]
          rw [e5] at hst
          exact Sk.st_down (pow_ok Ld.ok (l := l - 1) (by omega)).1 hst
      cases enx : Sk.nx (L.w ^ l) S0 at_ with
      | none =>
        refine g_iteF rfl ?_
        walk_at "go"
        refine g_setL eb (by unfold bfR; simp; omega) ?_
        walk_at "go"
        refine g_setL (by rw [upd_ne (Ne.symm nbq)]; exact eq) (by unfold plR; simp; omega) ?_
        walk_at "go"
        exact down (fun y hy => by rw [enx] at hy; cases hy) _
      | some y =>
        refine g_iteT rfl ?_
        walk_at "go"
        refine g_lt ?_
        walk_at "go"
        refine g_ite (fun e => ?_) (fun e => ?_)
        · have yn : y < n := of_decide_eq_true e
          walk_at "go"
          refine lad_dg X3 hl (gA_of hst) ?_
          walk_at "go"
          have hy := Sk.st_nx hp hs enx
          refine ⟨l + 1 + Sk.up S0 y, by have := Sk.up_lt hy.1 (Sk.nx_lt hp hs enx); omega, l + 1, y, _, some (.int y), by rw [show ((l + 1 : Nat) : Int) - 1 = (l : Int) by omega]; rfl, hr1, s3, eb, eq, fun _ => ⟨hy, yn, ?_⟩, rfl⟩
          rw [Sk.rk_nx hp hs hst enx]
          omega
        · have yn : ¬ y < n := of_decide_eq_false e
          walk_at "go"
          refine g_setL eb (by unfold bfR; simp; omega) ?_
          walk_at "go"
          refine g_setL (by rw [upd_ne (Ne.symm nbq)]; exact eq) (by unfold plR; simp; omega) ?_
          walk_at "go"
          exact down (fun z hz => by rw [enx] at hz; cases hz; omega) _

end
end Lk

namespace Lk
open PySem PySem.Spec PyProof.Rows L2
/-- a place of a trail, as a tuple -/
def sV (s : Nat × Int) : List V := [.int (s.1 : Int), .int s.2]
section
variable {P : Program} {w : World} {K : PySem.W.Frag} {mg : Str → Option Value} {base : Heap} {A : Ads}
theorem same_but {H H' H'' : Hp} {q : Addr} (s : Same H H') (n : H q = none) (b : But' q H' H'') : Same H H'' := fun c o e => by
  rw [b c (ne_of_none e n)]
  exact s c o e



def sp_behind (C : Addr) : Sp := fun vs H Q _ => ∃ (p : Addr) (o : Option Int) (L : LS) (S : List Int), vs = [.ref p, ov o] ∧ Lad C H p L S ∧
  (o = none → Q (ov S.head?) H) ∧ (∀ b, o = some b → b ∈ S ∧ Q (ov (Sk.abv S b)) H)
theorem ok_behind (T : Txt K mg A) : FO P w K mg base 2 A.behind ["self", "before"] (sp_behind A.Ladder) := by
  have S := sc_behind
  refine FO.mk' T.f_behind S b_behind (fun vs H Q E h => by obtain ⟨_, _, _, _, rfl, _⟩ := h; rfl) (fun cdv Ar outer s H vs Q E hr h => ?_)
  have hu := hu_of hr
  obtain ⟨p, o, L, S0, rfl, Ld, k1, k2⟩ := h
  have X := Ld.toLadX
  have lt := T.lt
  refine ⟨_, (pss_cons (ps_if (pt_cmpR o_isN (pv 1) pe_non (nomark _))
    (pss_one (ps_ret (k_fld (K := K) rfl (pv 0) rfl)))
    pss_nil)
  (pss_one (ps_ret (pe_dget hu (pe_ix (k_ixL (K := K) rfl) (k_fld (K := K) rfl (pv 0) rfl) pe_int (fun _ _ => rfl)) (pv 1) (fun _ _ => rfl))))), ?_⟩
  walk_at "go"
  cases o with
  | none =>
    refine g_iteT rfl ?_
    walk_at "go"
    exact k1 rfl
  | some b =>
    obtain ⟨hb, k2⟩ := k2 b rfl
    refine g_iteF rfl ?_
    walk_at "go"
    refine lad_dn X (Nat.zero_le _) (o := Sk.abv S0 b) ?_ k2
    rw [Int.pow_zero, nA_of (st_one.mpr hb), Sk.nx_one]


def sp_place (C O : Addr) : Sp := fun vs H Q E => ∃ (p : Addr) (n : Int) (L : LS) (S : List Int), vs = [.ref p, .int n] ∧ Lad C H p L S ∧
  (0 ≤ n → n ≤ L.w ^ L.h → ∀ H', Same H H' → Q (.int (Sk.rk S n : Nat)) H') ∧ (¬ (0 ≤ n ∧ n ≤ L.w ^ L.h) → E (.ref O) none H)
theorem ok_place (T : Txt K mg A) : FO P w K mg base 3 A.place ["self", "number"] (sp_place A.Ladder A.OutOfRange) := by
  obtain ⟨fd_need, G_need, B_need⟩ := ok_need (P := P) (w := w) (base := base) T
  obtain ⟨fd_nearest, G_nearest, B_nearest⟩ := ok_nearest (P := P) (w := w) (base := base) T
  have S := sc_place
  refine FO.mk' T.f_place S b_place (fun vs H Q E h => by obtain ⟨_, _, _, _, rfl, _⟩ := h; rfl) (fun cdv Ar outer s H vs Q E hr h => ?_)
  have hu := hu_of hr
  obtain ⟨p, n, L, S0, rfl, Ld, k1, k2⟩ := h
  have X := Ld.toLadX
  have lt := T.lt
  have hs := Ld.srt
  refine ⟨_, (pss_cons (ps_expr (pe_meth (pv 0) T.lt.cl T.m_need G_need (hr.mono (by decide)) B_need .nil (passes_call (takes_of rfl rfl rfl rfl) (fun _ _ _ _ z => z)) (pa_cons (pv 1) (pa_cons (k_fld (K := K) rfl (pv 0) rfl) pa_nil))))
  (pss_cons (ps_asg (pe_call G_nearest (hr.mono (by decide)) rfl T.g_nearest T.k_nearest B_nearest .nil passL (pa_cons (pv 0) (pa_cons (pv 1) pa_nil))) (pg_tup (by rfl) (pgs_cons (pg_name (i := 2) S.nd rfl (Or.inl rfl)) (pgs_cons (pg_name (i := 3) S.nd rfl (Or.inl rfl)) pgs_nil))))
  (pss_cons (ps_if (pt_cmpR o_isN (pe_ix (k_ixL (K := K) rfl) (pv 2) pe_int (fun _ _ => rfl)) pe_non (nomark _))
    (pss_one (ps_ret pe_int))
    pss_nil)
  (pss_one (ps_ret (pe_op o_add (pe_ix (k_ixL (K := K) rfl) (pv 3) pe_int (fun _ _ => rfl)) pe_int)))))), ?_⟩
  walk_at "go"
  refine ⟨p, n, _, rfl, fun h1 h2 => ?_, fun q => k2 (by omega)⟩
  walk_at "go"
  refine ⟨p, n, L, S0, rfl, Ld, fun t b q H1 s1 nt nb nq et eb eq => ?_⟩
  have k3 := k1 h1 h2 H1 s1
  have e0 : Sk.bf (L.w ^ 0) S0 n = Sk.bel S0 n := by rw [Int.pow_zero]; exact Sk.bf_one hs
  walk_at "go"
  refine g_gtup (.of et) rfl ?_
  walk_at "go"
  refine g_ixL (.of eb) (v := ov (Sk.bel S0 n)) (atI_c0 ?_) ?_
  · unfold bfL
    rw [List.getElem?_map, List.getElem?_range (by omega), ← e0]
    rfl
  walk_at "go"
  cases ebb : Sk.bel S0 n with
  | none =>
    refine g_iteT rfl ?_
    walk_at "go"
    rw [Sk.bel_none_rk ebb] at k3
    exact k3
  | some c =>
    refine g_iteF rfl ?_
    walk_at "go"
    refine g_ixL (.of eq) (v := .int (Sk.rk S0 c : Nat)) (atI_c0 ?_) ?_
    · unfold plL
      rw [List.getElem?_map, List.getElem?_range (by omega)]
      show some (V.int (Sk.pl (L.w ^ 0) S0 n : Nat)) = _
      unfold Sk.pl
      rw [e0, ebb]
    walk_at "go"
    rw [Sk.bel_rk hs ebb] at k3
    exact k3

def sp_steps_by_gaps (C : Addr) : Sp := fun vs H Q _ => ∃ (p : Addr) (i : Nat) (x : Int) (L : LS) (S : List Int), vs = [.ref p, .int (i : Int)] ∧ Lad C H p L S ∧ S[i]? = some x ∧
  ∀ q H', Same H H' → H q = none → TupL H' q ((Sk.trail L.w L.h S x).map sV) → Q (.ref q) H'
theorem ok_steps_by_gaps (T : Txt K mg A) : FO P w K mg base 2 A.steps_by_gaps ["ladder", "place"] (sp_steps_by_gaps A.Ladder) := by
  have S := sc_steps_by_gaps
  refine FO.mk' T.f_steps_by_gaps S b_steps_by_gaps (fun vs H Q E h => by obtain ⟨_, _, _, _, _, rfl, _⟩ := h; rfl) (fun cdv Ar outer s H vs Q E hr h => ?_)
  have hu := hu_of hr
  obtain ⟨p, i, n, L, S0, rfl, Ld, hi, k⟩ := h
  have X := Ld.toLadX
  have lt := T.lt
  have hs := Ld.srt
  have hw : 0 < L.w := by have := Ld.ok.w1; omega
  have hh := Ld.ok.h2
  have hlen := Ld.len
  have hn : n ∈ S0 := List.mem_of_getElem? hi
  have hrk := Sk.rk_get hs hi
  refine ⟨_, (pss_cons (ps_set (i := 2) S.nd rfl (Or.inl rfl) (k_fld (K := K) rfl (pv 0) rfl))
  (pss_cons (ps_set (i := 3) S.nd rfl (Or.inl rfl) (k_fld (K := K) rfl (pv 0) rfl))
  (pss_cons (ps_set (i := 4) S.nd rfl (Or.inl rfl) (pv 1))
  (pss_cons (ps_set (i := 5) S.nd rfl (Or.inl rfl) (pe_lst (pa_cons (pe_tup (pa_cons (pv 3) (pa_cons (pv 2) pa_nil))) pa_nil)))
  (pss_one (ps_while (passes_of rfl) (pt_val pe_bl)
    (pss_cons (ps_set (i := 6) S.nd rfl (Or.inl rfl) (pe_dget hu (pe_ix (k_ixL (K := K) rfl) (k_fld (K := K) rfl (pv 0) rfl) (pv 3) (fun _ _ => rfl)) (pv 2) (fun _ _ => rfl)))
    (pss_cons (ps_set (i := 7) S.nd rfl (Or.inl rfl) (pe_dget hu (pe_ix (k_ixL (K := K) rfl) (k_fld (K := K) rfl (pv 0) rfl) (pv 3) (fun _ _ => rfl)) (pv 2) (fun _ _ => rfl)))
    (pss_consC (ps_if (PW.pt (pw_and (pt_cmpR o_notN (pv 6) pe_non (nomark _)) (pw_and1 (pt_cmpR o_le (pv 7) (pv 4) (nomark _)))))
      (pss_cons (ps_set (i := 2) S.nd rfl (Or.inl rfl) (pv 6))
      (pss_one (ps_set (i := 4) S.nd rfl (Or.inl rfl) (pe_op o_sub (pv 4) (pv 7)))))
      (pss_one (ps_if (pt_cmpR o_gt (pv 3) pe_int (nomark _))
        (pss_one (ps_set (i := 3) S.nd rfl (Or.inl rfl) (pe_op o_sub (pv 3) pe_int)))
        (pss_one (ps_ret (pv 5))))))
    (pss_one (ps_expr (pe_bm PySem.F.plainAttrs_list PySem.F.slot_list_append PySem.F.type_list_append mt_append (pv 5) (pa_cons (pe_tup (pa_cons (pv 3) (pa_cons (pv 2) pa_nil))) pa_nil))))))))))))), ?_⟩
  walk_at "go"
  cases eh : S0.head? with
  | none => rw [Sk.head_nil eh] at hi; cases hi
  | some a =>
    rw [eh] at X
    have an : a ≤ n := Sk.head_le hs eh n hn
    have etr : Sk.trail L.w L.h S0 n = Sk.tr L.w S0 n (L.h, a) := by
      unfold Sk.trail
      simp only [eh]
      rw [if_pos an]
    refine g_newT (by show 2 ≤ 1000; decide) fun t H1 nt s1 e1 => ?_
    walk_at "go"
    refine g_newL (by show 1 ≤ 1000; decide) fun q H2 nq1 s2 e2 => ?_
    have nq := s1.free nq1
    walk_at "go"
    refine g_while (fun m σ H' => ∃ (l : Nat) (c : Int) (done : List (Nat × Int)) (lt_ gt_ : Option V), σ = [some (.ref p), some (.int (i : Int)), some (.int c), some (.int (l : Int)), some (.int ((i : Int) - Sk.rk S0 c)), some (.ref q), lt_, gt_] ∧ Same H H' ∧ TupL H' q ((done ++ [(l, c)]).map sV) ∧
        Sk.St (L.w ^ l) S0 c ∧ c ≤ n ∧ l ≤ L.h ∧ done ++ Sk.tr L.w S0 n (l, c) = Sk.trail L.w L.h S0 n ∧ m = Sk.mu S0 (l, c) ∧ done.length + m ≤ 200) (Sk.mu S0 (L.h, a))
      ⟨L.h, a, [], none, none, ?_, s1.trans s2, ⟨[t], e2, .cons (s2 _ _ e1) .nil⟩, Sk.st_least hs eh, an, Nat.le_refl _, etr.symm, rfl, ?_⟩ ?_
    · rw [Sk.rk_least hs eh, show (i : Int) - ((0 : Nat) : Int) = (i : Int) by omega]
      rfl
    · have h1 : Sk.mu S0 (L.h, a) = L.h + Sk.up S0 a := rfl
      have h2 := Sk.up_le (S := S0) (x := a)
      simp only [List.length_nil]
      omega
    rintro m σ H' ⟨l, c, done, lt_, gt_, rfl, s3, tq, hst, hcn, hl, hd, rfl, hb⟩
    have X3 := (Ld.same s3).toLadX
    have hp := (pow_ok Ld.ok hl).1
    walk_at "go"
    refine g_body ?_
    walk_at "go"
    refine lad_dn X3 hl (nA_of hst) ?_
    walk_at "go"
    refine lad_dg X3 hl (gA_of hst) ?_
    walk_at "go"
    refine g_cut (fun σ' H4 => H4 = H' ∧ ∃ (l' : Nat) (c' : Int) (lv gv : Option V), Sk.stp L.w S0 n (l, c) = some (l', c') ∧ σ' = [some (.ref p), some (.int (i : Int)), some (.int c'), some (.int (l' : Int)), some (.int ((i : Int) - Sk.rk S0 c')), some (.ref q), lv, gv]) (fun N hN => ?_) ?_
    · have zero : (∀ y, Sk.nx (L.w ^ l) S0 c = some y → ¬ y ≤ n) → l = 0 → Q (.ref q) H' := fun hn e => by
        subst e
        refine k q H' s3 nq ?_
        rw [← hd, Sk.tr_stop hw hs (Sk.stp_end hn)]
        exact tq
      have succ : (∀ y, Sk.nx (L.w ^ l) S0 c = some y → ¬ y ≤ n) → 0 < l → ∀ lv gv : V, N [some (.ref p), some (.int (i : Int)), some (.int c), some (.int ((l : Int) - 1)), some (.int ((i : Int) - Sk.rk S0 c)), some (.ref q), some lv, some gv] H' := fun hn e lv gv => by
        obtain ⟨d, rfl⟩ : ∃ d, l = d + 1 := ⟨l - 1, by omega⟩
        refine hN _ _ ⟨rfl, d, c, some lv, some gv, Sk.stp_down hn, ?_⟩
        rw [show ((d + 1 : Nat) : Int) - 1 = (d : Int) by omega]
      walk_at "go"
      cases enx : Sk.nx (L.w ^ l) S0 c with
      | none =>
        have hn : ∀ y, Sk.nx (L.w ^ l) S0 c = some y → ¬ y ≤ n := fun y hy => by rw [enx] at hy; cases hy
        refine g_iteF rfl ?_
        walk_at "go"
        refine g_ite (fun e => ?_) (fun e => ?_)
        · walk_at "go"
          exact succ hn (by have := of_decide_eq_true e; omega) _ _
        · walk_at "go"
          exact zero hn (by have := of_decide_eq_false e; omega)
      | some y =>
        have hrn := Sk.rk_nx hp hs hst enx
        have hyS := ((Sk.nx_some hs).mp enx).1
        have hiff := Sk.rk_le_iff (S := S0) (x := y) hn
        refine g_iteT rfl ?_
        walk_at "go"
        refine g_ite (fun e => ?_) (fun e => ?_)
        · have hyn : y ≤ n := hiff.mp (by have := of_decide_eq_true e; omega)
          walk_at "go"
          refine hN _ _ ⟨rfl, l, y, some (.int y), some (.int (Sk.gp (L.w ^ l) S0 c : Nat)), Sk.stp_right enx hyn, ?_⟩
          rw [show (i : Int) - Sk.rk S0 y = (i : Int) - Sk.rk S0 c - (Sk.gp (L.w ^ l) S0 c : Nat) by omega]
          rfl
        · have hn : ∀ z, Sk.nx (L.w ^ l) S0 c = some z → ¬ z ≤ n := fun z hz => by
            rw [enx] at hz
            cases hz
            intro q
            have := hiff.mpr q
            have := of_decide_eq_false e
            omega
          walk_at "go"
          refine g_ite (fun e => ?_) (fun e => ?_)
          · walk_at "go"
            exact succ hn (by have := of_decide_eq_true e; omega) _ _
          · walk_at "go"
            exact zero hn (by have := of_decide_eq_false e; omega)
    · rintro σ' H4 ⟨rfl, l', c', lv, gv, est, rfl⟩
      obtain ⟨g1, g2, g3⟩ := Sk.stp_st hw hs hst hcn est
      have gm := Sk.stp_lt hw hs est
      have q1 : tyV K "list" (.ref q) H4 := by obtain ⟨as, h1, _⟩ := tq; exact ty_lst h1
      walk_at "go"
      refine ⟨q1, ?_⟩
      walk_at "go"
      refine g_newT (by show 2 ≤ 1000; decide) fun t2 H5 nt2 s5 e5 => ?_
      walk_at "go"
      refine g_appT (tq.same s5) e5 (by rw [List.length_map, List.length_append]; simp only [List.length_cons, List.length_nil]; omega) fun H6 b6 tq6 => ?_
      refine ⟨Sk.mu S0 (l', c'), gm, l', c', done ++ [(l, c)], lv, gv, rfl, same_but (s3.trans s5) nq b6, ?_, g1, g2, by omega, ?_, rfl, ?_⟩
      · rw [List.map_append]
        exact tq6
      · rw [← hd, Sk.tr_go hw hs est, List.append_assoc]
        rfl
      · rw [List.length_append]
        simp only [List.length_cons, List.length_nil]
        omega

def sp_way (C O : Addr) : Sp := fun vs H Q E => ∃ (p : Addr) (n : Int) (L : LS) (S : List Int), vs = [.ref p, .int n] ∧ Lad C H p L S ∧
  (∀ (i : Nat) (x : Int), n = (i : Int) → S[i]? = some x → ∀ q H', Same H H' → H q = none → TupL H' q ((Sk.trail L.w L.h S x).map sV) → Q (.ref q) H') ∧ (¬ (0 ≤ n ∧ n < (S.length : Int)) → E (.ref O) none H)
theorem ok_way (T : Txt K mg A) : FO P w K mg base 3 A.way ["self", "place"] (sp_way A.Ladder A.NoPlace) := by
  obtain ⟨fd_steps_by_gaps, G_steps_by_gaps, B_steps_by_gaps⟩ := ok_steps_by_gaps (P := P) (w := w) (base := base) T
  have S := sc_way
  refine FO.mk' T.f_way S b_way (fun vs H Q E h => by obtain ⟨_, _, _, _, rfl, _⟩ := h; rfl) (fun cdv Ar outer s H vs Q E hr h => ?_)
  have hu := hu_of hr
  obtain ⟨p, n, L, S0, rfl, Ld, k1, k2⟩ := h
  have X := Ld.toLadX
  have lt := T.lt
  refine ⟨_, (pss_cons (ps_if (PW.pt (pw_or (pt_cmpR o_lt (pv 1) pe_int (nomark _)) (pw_or1 (pt_cmpR o_ge (pv 1) (k_fld (K := K) rfl (pv 0) rfl) (nomark _)))))
    (pss_one (ps_raise rfl (takes_of rfl rfl rfl rfl) (pmk_own PySem.F.excBase_ValueError T.x_NoPlace.x T.x_NoPlace.g T.x_NoPlace.k (raises_own T.x_NoPlace.b T.x_NoPlace.t) rfl)))
    pss_nil)
  (pss_one (ps_ret (pe_call G_steps_by_gaps (hr.mono (by decide)) rfl T.g_steps_by_gaps T.k_steps_by_gaps B_steps_by_gaps .nil passL (pa_cons (pv 0) (pa_cons (pv 1) pa_nil)))))), ?_⟩
  walk_at "go"
  refine g_ite (fun e => ?_) (fun e => ?_)
  · walk_at "go"
    exact k2 (by have := of_decide_eq_true e; omega)
  · walk_at "go"
    refine g_ite (fun e2 => ?_) (fun e2 => ?_)
    · exact k2 (by have := of_decide_eq_true e2; omega)
    · walk_at "go"
      have h1 := of_decide_eq_false e
      have h2 := of_decide_eq_false e2
      have hn : n.toNat < S0.length := by omega
      have en : n = (n.toNat : Int) := by omega
      have hx := List.getElem?_eq_getElem hn
      exact ⟨p, n.toNat, _, L, S0, by rw [← en], Ld, hx, k1 n.toNat _ en hx⟩

def sp_at (C O : Addr) : Sp := fun vs H Q E => ∃ (p : Addr) (n : Int) (L : LS) (S : List Int), vs = [.ref p, .int n] ∧ Lad C H p L S ∧
  (∀ (i : Nat) (x : Int), n = (i : Int) → S[i]? = some x → ∀ H', Same H H' → Q (.int x) H') ∧ (¬ (0 ≤ n ∧ n < (S.length : Int)) → E (.ref O) none H)
theorem ok_at (T : Txt K mg A) : FO P w K mg base 4 A.a_at ["self", "place"] (sp_at A.Ladder A.NoPlace) := by
  obtain ⟨fd_way, G_way, B_way⟩ := ok_way (P := P) (w := w) (base := base) T
  have S := sc_at
  refine FO.mk' T.f_at S b_at (fun vs H Q E h => by obtain ⟨_, _, _, _, rfl, _⟩ := h; rfl) (fun cdv Ar outer s H vs Q E hr h => ?_)
  have hu := hu_of hr
  obtain ⟨p, n, L, S0, rfl, Ld, k1, k2⟩ := h
  have X := Ld.toLadX
  have lt := T.lt
  have hs := Ld.srt
  have hw : 0 < L.w := by have := Ld.ok.w1; omega
  refine ⟨_, (pss_one (ps_ret (pe_ix (k_ixT (K := K) rfl) (pe_ix (k_ixL (K := K) rfl) (pe_meth (pv 0) T.lt.cl T.m_way G_way (hr.mono (by decide)) B_way .nil (passes_call (takes_of rfl rfl rfl rfl) (fun _ _ _ _ z => z)) (pa_cons (pv 1) pa_nil)) (pe_un un_neg pe_int) (fun _ _ => rfl)) pe_int (fun _ _ => rfl)))), ?_⟩
  walk_at "go"
  refine ⟨p, n, L, S0, rfl, Ld, fun i x en hx q H1 s1 nq tq => ?_, k2⟩
  have tl : ((Sk.trail L.w L.h S0 x).map sV).getLast? = some (sV (0, x)) := by
    have hb : Sk.bel S0 (x + 1) = some x := (Sk.bel_some hs).mpr ⟨List.mem_of_getElem? hx, by omega, fun z _ _ => by omega⟩
    rw [List.getLast?_map, Sk.trail_last hw hs, hb]
    rfl
  obtain ⟨vs, t, q1, q2, q3⟩ := tq.last tl
  walk_at "go"
  refine g_ixL (.of q1) q2 ?_
  walk_at "go"
  refine g_ixT (.of q3) (atI_c1 rfl) ?_
  exact k1 i x en hx H1 s1

def sp_counted (C O : Addr) : Sp := fun vs H Q E => ∃ (p : Addr) (lo hi : Int) (L : LS) (S : List Int), vs = [.ref p, .int lo, .int hi] ∧ Lad C H p L S ∧
  (0 ≤ lo → lo ≤ L.w ^ L.h → 0 ≤ hi → hi ≤ L.w ^ L.h → ∀ H', Same H H' → Q (.int ((Sk.mid S lo hi).length : Nat)) H') ∧ (¬ (0 ≤ lo ∧ lo ≤ L.w ^ L.h ∧ 0 ≤ hi ∧ hi ≤ L.w ^ L.h) → ∀ H', Same H H' → E (.ref O) none H')
theorem ok_counted (T : Txt K mg A) : FO P w K mg base 4 A.counted ["self", "low", "high"] (sp_counted A.Ladder A.OutOfRange) := by
  obtain ⟨fd_place, G_place, B_place⟩ := ok_place (P := P) (w := w) (base := base) T
  have S := sc_counted
  refine FO.mk' T.f_counted S b_counted (fun vs H Q E h => by obtain ⟨_, _, _, _, _, rfl, _⟩ := h; rfl) (fun cdv Ar outer s H vs Q E hr h => ?_)
  have hu := hu_of hr
  obtain ⟨p, lo, hi, L, S0, rfl, Ld, k1, k2⟩ := h
  have X := Ld.toLadX
  have lt := T.lt
  refine ⟨_, (pss_one (ps_ret (pe_callB (c_max2 rfl) (by rfl) T.z_max (by decide +kernel) (pa_cons pe_int (pa_cons (pe_op o_sub (pe_meth (pv 0) T.lt.cl T.m_place G_place (hr.mono (by decide)) B_place .nil (passes_call (takes_of rfl rfl rfl rfl) (fun _ _ _ _ z => z)) (pa_cons (pv 2) pa_nil)) (pe_meth (pv 0) T.lt.cl T.m_place G_place (hr.mono (by decide)) B_place .nil (passes_call (takes_of rfl rfl rfl rfl) (fun _ _ _ _ z => z)) (pa_cons (pv 1) pa_nil))) pa_nil))))), ?_⟩
  walk_at "go"
  refine ⟨p, hi, L, S0, rfl, Ld, fun h1 h2 H1 s1 => ?_, fun q => k2 (by omega) H (Same.refl H)⟩
  have Ld1 := Ld.same s1
  have X1 := Ld1.toLadX
  walk_at "go"
  refine ⟨p, lo, L, S0, rfl, Ld1, fun h3 h4 H2 s2 => ?_, fun q => k2 (by omega) H1 s1⟩
  have k3 := k1 h3 h4 h1 h2 H2 (s1.trans s2)
  walk_at "go"
  rw [Sk.mid_len Ld.srt] at k3
  rw [show max 0 ((Sk.rk S0 hi : Int) - Sk.rk S0 lo) = ((Sk.rk S0 hi - Sk.rk S0 lo : Nat) : Int) by omega]
  exact k3

def sp_stretch (C O : Addr) : Sp := fun vs H Q E => ∃ (p : Addr) (lo hi : Int) (L : LS) (S : List Int), vs = [.ref p, .int lo, .int hi] ∧ Lad C H p L S ∧
  (0 ≤ lo → lo ≤ L.w ^ L.h → 0 ≤ hi → hi ≤ L.w ^ L.h → ∀ q H', Same H H' → H q = none → H' q = some (.lst ((Sk.mid S lo hi).map V.int)) → Q (.ref q) H') ∧ (¬ (0 ≤ lo ∧ lo ≤ L.w ^ L.h ∧ 0 ≤ hi ∧ hi ≤ L.w ^ L.h) → ∀ H', Same H H' → E (.ref O) none H')
theorem ok_stretch (T : Txt K mg A) : FO P w K mg base 5 A.stretch ["self", "low", "high"] (sp_stretch A.Ladder A.OutOfRange) := by
  obtain ⟨fd_place, G_place, B_place⟩ := ok_place (P := P) (w := w) (base := base) T
  obtain ⟨fd_at, G_at, B_at⟩ := ok_at (P := P) (w := w) (base := base) T
  obtain ⟨fd_counted, G_counted, B_counted⟩ := ok_counted (P := P) (w := w) (base := base) T
  have S := sc_stretch
  refine FO.mk' T.f_stretch S b_stretch (fun vs H Q E h => by obtain ⟨_, _, _, _, _, rfl, _⟩ := h; rfl) (fun cdv Ar outer s H vs Q E hr h => ?_)
  have hu := hu_of hr
  obtain ⟨p, lo, hi, L, S0, rfl, Ld, k1, k2⟩ := h
  have X := Ld.toLadX
  have lt := T.lt
  have hs := Ld.srt
  have hlen := Ld.len
  refine ⟨_, (pss_cons (ps_set (i := 3) S.nd rfl (Or.inr rfl) (pe_meth (pv 0) T.lt.cl T.m_place G_place (hr.mono (by decide)) B_place .nil (passes_call (takes_of rfl rfl rfl rfl) (fun _ _ _ _ z => z)) (pa_cons (pv 1) pa_nil)))
  (pss_one (ps_ret (pe_lc (own := [("turn", 4)]) (g := gName 4) (tt := tYes) (by rfl) S.nd (pi_range1 rfl T.z_range (pa_cons (pe_meth (pv 0) T.lt.cl T.m_counted G_counted (hr.mono (by decide)) B_counted .nil (passes_call (takes_of rfl rfl rfl rfl) (fun _ _ _ _ z => z)) (pa_cons (pv 1) (pa_cons (pv 2) pa_nil))) pa_nil)) (blkOk_by (N := N_stretch) (sc := defScope s_stretch) (by decide +kernel)) (fun _ _ _ _ _ => pg_name (i := 4) S.nd rfl (Or.inl rfl)) (fun _ _ _ _ _ => pts_nil) (fun _ _ _ _ _ => (pe_meth (pv 0) T.lt.cl T.m_at G_at (hr.mono (by decide)) B_at .nil passL (pa_cons (pe_op o_add (pv 3) (pv 4)) pa_nil))))))), ?_⟩
  walk_at "go"
  refine ⟨p, lo, L, S0, rfl, Ld, fun h1 h2 H1 s1 => ?_, fun q => k2 (by omega) H (Same.refl H)⟩
  have Ld1 := Ld.same s1
  have X1 := Ld1.toLadX
  walk_at "go"
  refine ⟨p, lo, hi, L, S0, rfl, Ld1, fun _ _ h3 h4 H2 s2 => ?_, fun q H2 s2 => k2 (by omega) H2 (s1.trans s2)⟩
  have Ld2 := Ld1.same s2
  have hm := Sk.mid_len hs lo hi
  have hr2 := Sk.rk_le (S := S0) (n := hi)
  walk_at "go"
  refine g_rng (by omega) (by omega) ?_
  rw [show (((Sk.mid S0 lo hi).length : Nat) : Int).toNat = (Sk.mid S0 lo hi).length by omega]
  refine g_lcR (fun i => ((Sk.mid S0 lo hi).take i).map V.int) rfl ?_ ?_
  · intro D i H' hD hi2 s e
    have Ld3 := Ld2.same s
    have X3 := Ld3.toLadX
    have hlt : Sk.rk S0 lo + i < S0.length := by omega
    have hx : S0[Sk.rk S0 lo + i]? = some S0[Sk.rk S0 lo + i] := List.getElem?_eq_getElem hlt
    have hx2 : (Sk.mid S0 lo hi)[i]? = some S0[Sk.rk S0 lo + i] := by
      rw [Sk.mid_eq hs, List.getElem?_take_of_lt (by omega), List.getElem?_drop]
      exact hx
    walk_at "go"
    refine ⟨rfl, ?_⟩
    walk_at "go"
    refine ⟨p, _, L, S0, rfl, Ld3, fun j x ej hj H4 s4 => ?_, fun q => absurd (by omega) q⟩
    have ej2 : j = Sk.rk S0 lo + i := by omega
    subst ej2
    rw [hx] at hj
    cases hj
    refine g_add1 hD (s.trans s4) (s4 _ _ e) (by rw [List.length_map, List.length_take]; omega) ?_
    show ((Sk.mid S0 lo hi).take (i + 1)).map V.int = _
    rw [Sk.take_snoc hx2, List.map_append]
    rfl
  · intro D H' hD s e
    rw [List.take_length] at e
    exact k1 h1 h2 h3 h4 D H' ((s1.trans s2).trans s) ((s1.trans s2).free hD) e

end
end Lk

namespace Lk
open PySem PySem.Spec PyProof.Rows L2
section
variable {P : Program} {w : World} {K : PySem.W.Frag} {mg : Str → Option Value} {base : Heap} {A : Ads}
def sp_alike (C : Addr) : Sp := fun vs H Q _ => ∃ (p : Addr) (l : Nat) (n : Int) (o : Option Int) (L : LS) (le : Option Int) (many : Int) (T : Nat → List Int), vs = [.ref p, .int (l : Int), .int n, ov o] ∧ LadX C H p L le many T ∧ l ≤ L.h ∧ Q (ov (alk (L.w ^ l) n o)) H
theorem ok_alike (T : Txt K mg A) : FO P w K mg base 4 A.alike ["self", "level", "number", "behind"] (sp_alike A.Ladder) := by
  obtain ⟨fd_block, G_block, B_block⟩ := ok_block (P := P) (w := w) (base := base) T
  have S := sc_alike
  refine FO.mk' T.f_alike S b_alike (fun vs H Q E h => by obtain ⟨_, _, _, _, _, _, _, _, rfl, _⟩ := h; rfl) (fun cdv Ar outer s H vs Q E hr h => ?_)
  have hu := hu_of hr
  obtain ⟨p, l, n, o, L, le, many, T0, rfl, X, hl, k⟩ := h
  have lt := T.lt
  have w1 := X.ok.w1
  have w2 := X.ok.w2
  have hh := X.ok.h2
  refine ⟨_, (pss_cons (ps_if (PW.pt (pw_or (pt_cmpR o_isN (pv 3) pe_non (nomark _)) (pw_or1 (pt_cmpR op_ne (pe_call G_block (hr.mono (by decide)) rfl T.g_block T.k_block B_block .nil passL (pa_cons (k_fld (K := K) rfl (pv 0) rfl) (pa_cons (pv 1) (pa_cons (pv 2) pa_nil)))) (pe_call G_block (hr.mono (by decide)) rfl T.g_block T.k_block B_block .nil passL (pa_cons (k_fld (K := K) rfl (pv 0) rfl) (pa_cons (pv 1) (pa_cons (pv 3) pa_nil)))) (nomark _)))))
    (pss_one (ps_ret pe_non))
    pss_nil)
  (pss_one (ps_ret (pv 3)))), ?_⟩
  walk_at "go"
  cases o with
  | none =>
    refine g_iteT rfl ?_
    walk_at "go"
    exact k
  | some a =>
    refine g_iteF rfl ?_
    walk_at "go"
    refine ⟨L.w, l, n, rfl, w1, w2, by omega, ?_⟩
    walk_at "go"
    refine ⟨L.w, l, a, rfl, w1, w2, by omega, ?_⟩
    walk_at "go"
    unfold alk at k
    refine g_ite (fun e => ?_) (fun e => ?_)
    · have e' : ¬ n / L.w ^ l = a / L.w ^ l := by simpa using e
      walk_at "go"
      simp only [e', if_false] at k
      exact k
    · have e' : n / L.w ^ l = a / L.w ^ l := by simpa using e
      walk_at "go"
      simp only [e', if_true] at k
      exact k

def sp_stand_in (C : Addr) : Sp := fun vs H Q _ => ∃ (p : Addr) (l : Nat) (n : Int) (b : Option Int) (pl : Int) (old : Option Int) (L : LS) (S : List Int) (many : Int) (T : Nat → List Int),
  vs = [.ref p, .int (l : Int), .int n, ov b, .int pl, ov old] ∧ LadX C H p L S.head? many T ∧ l ≤ L.h ∧ T l = S ∧ Sk.Srt S ∧ n ∉ S ∧ S.length ≤ 100 ∧ Sk.St (L.w ^ l) (Sk.ins S n) n ∧ b = Sk.bf (L.w ^ l) S n ∧
  (∀ c, b = some c → pl = (Sk.rk S n : Int) - Sk.rk S c) ∧ old = alk (L.w ^ l) n (Sk.abv S n) ∧
  ∀ H', (∀ c, c ≠ L.ds l → c ≠ L.gs l → H' c = H c) → DI 200 H' (L.ds l) (nV (L.w ^ l) (Sk.ins S n)) → DI 200 H' (L.gs l) (gV (L.w ^ l) (Sk.ins S n)) → Q .non H'
theorem ok_stand_in (T : Txt K mg A) : FO P w K mg base 2 A.stand_in ["self", "level", "number", "before", "place", "old"] (sp_stand_in A.Ladder) := by
  have S := sc_stand_in
  refine FO.mk' T.f_stand_in S b_stand_in (fun vs H Q E h => by obtain ⟨_, _, _, _, _, _, _, _, _, _, rfl, _⟩ := h; rfl) (fun cdv Ar outer s H vs Q E hr h => ?_)
  have hu := hu_of hr
  obtain ⟨p, l, n, b, pl, old, L, S0, many, T0, rfl, X, hl, hT, hs, hn, hlen, hst, hb, hpl, hold, k⟩ := h
  have lt := T.lt
  have hp := (pow_ok X.ok hl).1
  have ndg : L.ds l ≠ L.gs l := X.ok.dg l l hl hl
  have dn := X.dn l hl
  have dg := X.dg l hl
  rw [hT] at dn dg
  generalize hc : L.w ^ l = c at *
  have hli := Sk.len_ins hs hn
  refine ⟨_, (pss_cons (ps_set (i := 6) S.nd rfl (Or.inl rfl) (pe_ix (k_ixL (K := K) rfl) (k_fld (K := K) rfl (pv 0) rfl) (pv 1) (fun _ _ => rfl)))
  (pss_cons (ps_set (i := 7) S.nd rfl (Or.inl rfl) (pe_ix (k_ixL (K := K) rfl) (k_fld (K := K) rfl (pv 0) rfl) (pv 1) (fun _ _ => rfl)))
  (pss_consC (ps_if (pt_cmpR o_notN (pv 5) pe_non (nomark _))
    (pss_cons (ps_dput hu (pv 6) (pv 2) (pe_dpop1 (pv 6) (pv 5) ⟨rfl, rfl, rfl, rfl⟩) rfl)
    (pss_one (ps_dput hu (pv 7) (pv 2) (pe_op o_add (pe_dpop1 (pv 7) (pv 5) ⟨rfl, rfl, rfl, rfl⟩) pe_int) rfl)))
    (pss_one (ps_if (pt_cmpR o_isN (pv 3) pe_non (nomark _))
      (pss_cons (ps_dput hu (pv 6) (pv 2) (k_fld (K := K) rfl (pv 0) rfl) rfl)
      (pss_one (ps_dput hu (pv 7) (pv 2) pe_int rfl)))
      (pss_cons (ps_dput hu (pv 6) (pv 2) (pe_dget hu (pv 6) (pv 3) (fun _ _ => rfl)) rfl)
      (pss_cons (ps_dput hu (pv 7) (pv 2) (pe_op o_add (pe_op o_sub (pe_dget hu (pv 7) (pv 3) (fun _ _ => rfl)) (pv 4)) pe_int) rfl)
      (pss_one (ps_dput hu (pv 7) (pv 3) (pv 4) rfl)))))))
  (pss_one (ps_if (pt_cmpR o_notN (pv 3) pe_non (nomark _))
    (pss_one (ps_dput hu (pv 6) (pv 3) (pv 2) rfl))
    pss_nil))))), ?_⟩
  walk_at "go"
  refine g_cut (fun σ' H1 => σ' = [some (.ref p), some (.int (l : Int)), some (.int n), some (ov b), some (.int pl), some (ov old), some (.ref (L.ds l)), some (.ref (L.gs l))] ∧ (∀ c, c ≠ L.ds l → c ≠ L.gs l → H1 c = H c) ∧
      (∃ f, DI 203 H1 (L.ds l) f ∧ ∀ j, b ≠ some j → f j = nV c (Sk.ins S0 n) j) ∧ DI 203 H1 (L.gs l) (gV c (Sk.ins S0 n))) (fun N hN => ?_) ?_
  · walk_at "go"
    cases ho : old with
    | some a =>
      have hab : Sk.abv S0 n = some a ∧ n / c = a / c := by
        rw [hold] at ho
        unfold alk at ho
        cases e : Sk.abv S0 n with
        | none => rw [e] at ho; cases ho
        | some x =>
          rw [e] at ho
          simp only at ho
          split at ho
          · cases ho; exact ⟨rfl, by assumption⟩
          · cases ho
      obtain ⟨hab, ea⟩ := hab
      subst ho
      obtain ⟨sa, f1, f2, f3⟩ := Sk.put_old hp hs hn hst hab ea.symm
      have na : n ≠ a := by have := ((Sk.abv_some hs).mp hab).2.1; omega
      refine g_iteT rfl ?_
      walk_at "go"
      refine g_diPop dn (k := a) rfl (v := ov (Sk.nx c S0 a)) (by unfold nV; rw [nA_of sa]; rfl) fun H1 b1 d1 => ?_
      walk_at "go"
      refine g_diPut (d1.mono (show 200 ≤ 201 by decide)) (by decide) fun H2 b2 d2 => ?_
      walk_at "go"
      have dg2 : DI 200 H2 (L.gs l) (gV c S0) := dg.at ((b2 _ (Ne.symm ndg)).trans (b1 _ (Ne.symm ndg)))
      refine g_diPop dg2 (k := a) rfl (v := .int (Sk.gp c S0 a : Nat)) (by unfold gV; rw [gA_of sa]; rfl) fun H3 b3 d3 => ?_
      walk_at "go"
      refine g_diPut (d3.mono (show 200 ≤ 202 by decide)) (by decide) fun H4 b4 d4 => ?_
      refine hN _ _ ⟨rfl, fun x h1 h2 => ?_, ⟨_, (d2.at ((b4 _ ndg).trans (b3 _ ndg))).mono (by decide), fun j hj => ?_⟩, d4.to fun j => ?_⟩
      · exact (b4 x h2).trans ((b3 x h2).trans ((b2 x h1).trans (b1 x h1)))
      · have hbj : ¬ Sk.bf c S0 n = some j := by rw [← hb]; exact hj
        show (if j = n then some (ov (Sk.nx c S0 a)) else if j = a then none else nV c S0 j) = _
        unfold nV
        rw [f1 j]
        simp only [hbj, if_false]
        by_cases e1 : j = n
        · rw [if_pos e1, if_pos e1]; rfl
        · rw [if_neg e1, if_neg e1]
          by_cases e2 : j = a
          · rw [if_pos e2, if_pos e2]; rfl
          · rw [if_neg e2, if_neg e2]
      · show (if j = n then some (V.int ((Sk.gp c S0 a : Nat) + 1)) else if j = a then none else gV c S0 j) = _
        unfold gV
        rw [f2 j]
        by_cases e1 : j = n
        · rw [if_pos e1, if_pos e1]; rfl
        · rw [if_neg e1, if_neg e1]
          by_cases e2 : j = a
          · rw [if_pos e2, if_pos e2]; rfl
          · rw [if_neg e2, if_neg e2]
    | none =>
      have hna : ∀ a, Sk.abv S0 n = some a → a / c ≠ n / c := fun a ha q => by
        rw [hold] at ho
        unfold alk at ho
        rw [ha] at ho
        simp only [q.symm, if_true] at ho
        cases ho
      obtain ⟨f1, f2, f3⟩ := Sk.put_new hp hs hn hst hna
      refine g_iteF rfl ?_
      walk_at "go"
      cases b with
      | none =>
        refine g_iteT rfl ?_
        walk_at "go"
        refine g_diPut (dn.mono (show 200 ≤ 201 by decide)) (by decide) fun H1 b1 d1 => ?_
        walk_at "go"
        refine g_diPut ((dg.at (b1 _ (Ne.symm ndg))).mono (show 200 ≤ 201 by decide)) (by decide) fun H2 b2 d2 => ?_
        refine hN _ _ ⟨by rw [ho]; rfl, fun x h1 h2 => (b2 x h2).trans (b1 x h1), ⟨_, (d1.at (b2 _ ndg)).mono (by decide), fun j hj => ?_⟩, (d2.mono (by decide)).to fun j => ?_⟩
        · show (if j = n then some (ov S0.head?) else nV c S0 j) = _
          unfold nV
          rw [f1 j, ← hb]
          by_cases e1 : j = n
          · rw [if_pos e1, if_pos e1]; rfl
          · rw [if_neg e1, if_neg e1]; rfl
        · show (if j = n then some (V.int 1) else gV c S0 j) = _
          unfold gV
          rw [f2 j]
          by_cases e1 : j = n
          · rw [if_pos e1, if_pos e1]; rfl
          · rw [if_neg e1, if_neg e1]
      | some b0 =>
        obtain ⟨sb, hgap⟩ := f3 b0 hb.symm
        have hpl2 := hpl b0 rfl
        have nb : b0 ≠ n := fun q => hn (q ▸ sb.1)
        refine g_iteF rfl ?_
        walk_at "go"
        refine g_diGet dn (v := ov (Sk.nx c S0 b0)) (by unfold nV; rw [nA_of sb]; rfl) ?_
        walk_at "go"
        refine g_diPut (dn.mono (show 200 ≤ 201 by decide)) (by decide) fun H1 b1 d1 => ?_
        have dg1 := dg.at (b1 _ (Ne.symm ndg))
        walk_at "go"
        refine g_diGet dg1 (v := .int (Sk.gp c S0 b0 : Nat)) (by unfold gV; rw [gA_of sb]; rfl) ?_
        walk_at "go"
        refine g_diPut (dg1.mono (show 200 ≤ 201 by decide)) (by decide) fun H2 b2 d2 => ?_
        walk_at "go"
        refine g_diPut d2 (by decide) fun H3 b3 d3 => ?_
        refine hN _ _ ⟨by rw [ho]; rfl, fun x h1 h2 => (b3 x h2).trans ((b2 x h2).trans (b1 x h1)), ⟨_, (d1.at ((b3 _ ndg).trans (b2 _ ndg))).mono (by decide), fun j hj => ?_⟩, (d3.mono (by decide)).to fun j => ?_⟩
        · have hbj : ¬ Sk.bf c S0 n = some j := by rw [← hb]; exact hj
          show (if j = n then some (ov (Sk.nx c S0 b0)) else nV c S0 j) = _
          unfold nV
          rw [f1 j]
          simp only [hbj, if_false]
          by_cases e1 : j = n
          · rw [if_pos e1, if_pos e1, ← hb]; rfl
          · rw [if_neg e1, if_neg e1]
        · show (if j = b0 then some (V.int pl) else if j = n then some (V.int ((Sk.gp c S0 b0 : Nat) - pl + 1)) else gV c S0 j) = _
          unfold gV
          rw [f2 j]
          by_cases e0 : j = b0
          · rw [if_pos e0, if_neg (by rw [e0]; exact nb), e0, gA_of sb, hpl2, hgap]
            rfl
          · rw [if_neg e0]
            by_cases e1 : j = n
            · rw [if_pos e1, if_pos e1, hpl2, hgap]
              show some (V.int _) = some (V.int 1)
              congr 2
              omega
            · rw [if_neg e1, if_neg e1]
  · rintro σ' H1 ⟨rfl, hk, ⟨f, df, hf⟩, dg1⟩
    walk_at "go"
    have fin : ∀ H2, (∀ c, c ≠ L.ds l → c ≠ L.gs l → H2 c = H c) → DI 204 H2 (L.ds l) (nV c (Sk.ins S0 n)) → DI 204 H2 (L.gs l) (gV c (Sk.ins S0 n)) → Q .non H2 := fun H2 h1 h2 h3 =>
      k H2 h1 ((h2.tight fun j v e => nV_mem e).mono (by omega)) ((h3.tight fun j v e => gV_mem e).mono (by omega))
    cases b with
    | none =>
      refine g_iteF rfl ?_
      walk_at "go"
      exact fin H1 hk ((df.mono (by decide)).to fun j => hf j (by simp)) (dg1.mono (by decide))
    | some b0 =>
      refine g_iteT rfl ?_
      walk_at "go"
      refine g_diPut df (by decide) fun H2 b2 d2 => ?_
      walk_at "go"
      refine fin H2 (fun x h1 h2 => (b2 x h1).trans (hk x h1 h2)) (d2.to fun j => ?_) ((dg1.at (b2 _ (Ne.symm ndg))).mono (by decide))
      by_cases e1 : j = b0
      · subst e1
        rw [if_pos rfl]
        have hz : Sk.nA c (Sk.ins S0 n) j = some (some n) := Sk.nA_bf hp hs hn hst hb.symm
        unfold nV
        rw [hz]
        rfl
      · rw [if_neg e1]
        exact hf j fun q => e1 (Option.some.inj q).symm

end
end Lk

namespace Lk
open PySem PySem.Spec PyProof.Rows L2
/-- what a put tells of the levels below i -/
def putT (L : LS) (S : List Int) (n : Int) (i : Nat) : List (List V) := ((List.range i).filter fun l : Nat => decide (Sk.St (L.w ^ l) (Sk.ins S n) n)).map fun l : Nat => [V.int (l : Int), .int n, ov (alk (L.w ^ l) n (Sk.abv S n))]
/-- .. a take -/
def takeT (L : LS) (S : List Int) (n : Int) (i : Nat) : List (List V) := ((List.range i).filter fun l : Nat => decide (Sk.St (L.w ^ l) S n)).map fun l : Nat => [V.int (l : Int), ov (alk (L.w ^ l) n (Sk.abv S n)), .int n]
theorem putT_yes {L : LS} {S : List Int} {n : Int} {i : Nat} (h : Sk.St (L.w ^ i) (Sk.ins S n) n) : putT L S n (i + 1) = putT L S n i ++ [[V.int (i : Int), .int n, ov (alk (L.w ^ i) n (Sk.abv S n))]] := by
  unfold putT
  rw [List.range_succ, List.filter_append, List.map_append, List.filter_cons, if_pos (decide_eq_true h)]
  rfl
theorem putT_no {L : LS} {S : List Int} {n : Int} {i : Nat} (h : ¬ Sk.St (L.w ^ i) (Sk.ins S n) n) : putT L S n (i + 1) = putT L S n i := by
  unfold putT
  rw [List.range_succ, List.filter_append, List.map_append, List.filter_cons, if_neg (by simpa using h)]
  simp
theorem takeT_yes {L : LS} {S : List Int} {n : Int} {i : Nat} (h : Sk.St (L.w ^ i) S n) : takeT L S n (i + 1) = takeT L S n i ++ [[V.int (i : Int), ov (alk (L.w ^ i) n (Sk.abv S n)), .int n]] := by
  unfold takeT
  rw [List.range_succ, List.filter_append, List.map_append, List.filter_cons, if_pos (decide_eq_true h)]
  rfl
theorem takeT_no {L : LS} {S : List Int} {n : Int} {i : Nat} (h : ¬ Sk.St (L.w ^ i) S n) : takeT L S n (i + 1) = takeT L S n i := by
  unfold takeT
  rw [List.range_succ, List.filter_append, List.map_append, List.filter_cons, if_neg (by simpa using h)]
  simp
theorem putT_len {L : LS} {S : List Int} {n : Int} {i : Nat} : (putT L S n i).length ≤ i := by
  unfold putT
  rw [List.length_map]
  refine Nat.le_trans (List.length_filter_le _ _) ?_
  rw [List.length_range]
  exact Nat.le_refl _
theorem takeT_len {L : LS} {S : List Int} {n : Int} {i : Nat} : (takeT L S n i).length ≤ i := by
  unfold takeT
  rw [List.length_map]
  refine Nat.le_trans (List.length_filter_le _ _) ?_
  rw [List.length_range]
  exact Nat.le_refl _
theorem bfL_at {L : LS} {S : List Int} {n : Int} {i : Nat} (h : i ≤ L.h) : atI (bfL L S n) (i : Int) = some (ov (Sk.bf (L.w ^ i) S n)) := by
  refine atI_nat ?_
  unfold bfL
  rw [List.getElem?_map, List.getElem?_range (by omega)]
  rfl
theorem plL_at {L : LS} {S : List Int} {n : Int} {i : Nat} (h : i ≤ L.h) : atI (plL L S n) (i : Int) = some (.int (Sk.pl (L.w ^ i) S n : Nat)) := by
  refine atI_nat ?_
  unfold plL
  rw [List.getElem?_map, List.getElem?_range (by omega)]
  rfl
theorem tall_st {L : LS} (o : LOk L) {S : List Int} (hs : Sk.Srt S) {n : Int} (hn : n ∉ S) {t : Nat} (ht : IsTall L.w L.h (Sk.bel S n) n t) {l : Nat} (hl : l ≤ L.h) : l < t ↔ Sk.St (L.w ^ l) (Sk.ins S n) n := by
  have hp := (pow_ok o hl).1
  rw [Sk.st_ins_n hp hs hn]
  cases e : Sk.bel S n with
  | none =>
    rw [e] at ht
    have : t = L.h + 1 := ht
    constructor
    · intro _ z hz; cases hz
    · intro _; omega
  | some b =>
    rw [e] at ht
    obtain ⟨t1, t2, t3⟩ := ht
    constructor
    · intro q z hz
      cases hz
      exact t2 l q
    · intro q
      rcases Nat.lt_or_ge l t with q2 | q2
      · exact q2
      · have h3 := t3 (by omega)
        obtain ⟨d, rfl⟩ : ∃ d, l = t + d := ⟨l - t, by omega⟩
        exact absurd (by rw [Int.pow_add, Sk.div_mul (pow_ok o (l := t) (by omega)).1, Sk.div_mul (pow_ok o (l := t) (by omega)).1, h3]) (q b rfl)
section
variable {P : Program} {w : World} {K : PySem.W.Frag} {mg : Str → Option Value} {base : Heap} {A : Ads}
def sp_put (C O1 O2 : Addr) : Sp := fun vs H Q E => ∃ (p : Addr) (n : Int) (L : LS) (S : List Int), vs = [.ref p, .int n] ∧ Lad C H p L S ∧
  (0 ≤ n → n < L.w ^ L.h → n ∉ S → S.length ≤ 99 ∧ ∀ t H', Keeps L p H H' → H t = none → TupL H' t (putT L S n (L.h + 1)) → Lad C H' p L (Sk.ins S n) → Q (.ref t) H') ∧
  (¬ (0 ≤ n ∧ n < L.w ^ L.h) → E (.ref O1) none H) ∧ (0 ≤ n → n < L.w ^ L.h → n ∈ S → E (.ref O2) none H)
theorem ins_head {S : List Int} (hs : Sk.Srt S) {n : Int} : (Sk.ins S n).head? = match Sk.bel S n with | none => some n | some _ => S.head? := by
  cases e : Sk.bel S n with
  | none =>
    have e' := Sk.bel_none.mp e
    show ((S.filter fun z => decide (z < n)) ++ n :: _).head? = some n
    rw [List.filter_eq_nil_iff.mpr fun z hz => by have := e' z hz; simp; omega]
    rfl
  | some b =>
    obtain ⟨b1, b2, _⟩ := (Sk.bel_some hs).mp e
    cases eh : S.head? with
    | none => rw [Sk.head_nil eh] at b1; cases b1
    | some a =>
      have ab := Sk.head_le hs eh b b1
      cases S with
      | nil => cases eh
      | cons x r =>
        have : x = a := Option.some.inj eh
        subst this
        unfold Sk.ins
        rw [List.filter_cons, if_pos (decide_eq_true (by omega))]
        rfl
theorem behind_use {C p : Addr} {H : Hp} {L : LS} {S0 : List Int} {n : Int} {Q : VK} {E : XK} (Ld : Lad C H p L S0) (hn : n ∉ S0) (h : Q (ov (Sk.abv S0 n)) H) : sp_behind C [.ref p, ov (Sk.bel S0 n)] H Q E :=
  ⟨p, Sk.bel S0 n, L, S0, rfl, Ld, fun hb => by rw [Sk.abv_head2 Ld.srt hn hb]; exact h, fun b hb => ⟨((Sk.bel_some Ld.srt).mp hb).1, by rw [Sk.abv_bel2 Ld.srt hn hb]; exact h⟩⟩
theorem ok_put (T : Txt K mg A) : FO P w K mg base 5 A.put ["self", "number"] (sp_put A.Ladder A.OutOfRange A.Present) := by
  obtain ⟨fd_has, G_has, B_has⟩ := ok_has (P := P) (w := w) (base := base) T
  obtain ⟨fd_nearest, G_nearest, B_nearest⟩ := ok_nearest (P := P) (w := w) (base := base) T
  obtain ⟨fd_behind, G_behind, B_behind⟩ := ok_behind (P := P) (w := w) (base := base) T
  obtain ⟨fd_tall, G_tall, B_tall⟩ := ok_tall (P := P) (w := w) (base := base) T
  obtain ⟨fd_alike, G_alike, B_alike⟩ := ok_alike (P := P) (w := w) (base := base) T
  obtain ⟨fd_stand_in, G_stand_in, B_stand_in⟩ := ok_stand_in (P := P) (w := w) (base := base) T
  have S := sc_put
  refine FO.mk' T.f_put S b_put (fun vs H Q E h => by obtain ⟨_, _, _, _, rfl, _⟩ := h; rfl) (fun cdv Ar outer s H vs Q E hr h => ?_)
  have hu := hu_of hr
  obtain ⟨p, n, L, S0, rfl, Ld, k1, k2, k3⟩ := h
  have X := Ld.toLadX
  have lt := T.lt
  have hs := Ld.srt
  have ok := Ld.ok
  have hh := ok.h2
  refine ⟨_, (pss_cons (ps_if (pt_val (pe_meth (pv 0) T.lt.cl T.m_has G_has (hr.mono (by decide)) B_has .nil (passes_call (takes_of rfl rfl rfl rfl) (fun _ _ _ _ z => z)) (pa_cons (pv 1) pa_nil)))
    (pss_one (ps_raise rfl (takes_of rfl rfl rfl rfl) (pmk_own PySem.F.excBase_ValueError T.x_Present.x T.x_Present.g T.x_Present.k (raises_own T.x_Present.b T.x_Present.t) rfl)))
    pss_nil)
  (pss_cons (ps_asg (pe_call G_nearest (hr.mono (by decide)) rfl T.g_nearest T.k_nearest B_nearest .nil passL (pa_cons (pv 0) (pa_cons (pv 1) pa_nil))) (pg_tup (by rfl) (pgs_cons (pg_name (i := 2) S.nd rfl (Or.inl rfl)) (pgs_cons (pg_name (i := 3) S.nd rfl (Or.inl rfl)) pgs_nil))))
  (pss_cons (ps_set (i := 4) S.nd rfl (Or.inl rfl) (pe_ix (k_ixL (K := K) rfl) (pv 2) pe_int (fun _ _ => rfl)))
  (pss_cons (ps_set (i := 5) S.nd rfl (Or.inl rfl) (pe_meth (pv 0) T.lt.cl T.m_behind G_behind (hr.mono (by decide)) B_behind .nil passL (pa_cons (pv 4) pa_nil)))
  (pss_consC (ps_set (i := 6) S.nd rfl (Or.inl rfl) (pe_ifExp (pt_cmpR o_isN (pv 4) pe_non (nomark _)) pe_int (pe_op o_add (pe_ix (k_ixL (K := K) rfl) (pv 3) pe_int (fun _ _ => rfl)) pe_int)))
  (pss_cons (ps_set (i := 7) S.nd rfl (Or.inl rfl) (pe_call G_tall (hr.mono (by decide)) rfl T.g_tall T.k_tall B_tall .nil passL (pa_cons (k_fld (K := K) rfl (pv 0) rfl) (pa_cons (k_fld (K := K) rfl (pv 0) rfl) (pa_cons (pv 4) (pa_cons (pv 1) pa_nil))))))
  (pss_cons (ps_set (i := 8) S.nd rfl (Or.inl rfl) (pe_lst pa_nil))
  (pss_cons (ps_for (passes_of rfl) rfl (pi_range1 rfl T.z_range (pa_cons (pe_op o_add (k_fld (K := K) rfl (pv 0) rfl) pe_int) pa_nil)) (pg_name (i := 9) S.nd rfl (Or.inl rfl))
    (pss_one (ps_if (pt_cmpR o_lt (pv 9) (pv 7) (nomark _))
      (pss_cons (ps_set (i := 10) S.nd rfl (Or.inl rfl) (pe_meth (pv 0) T.lt.cl T.m_alike G_alike (hr.mono (by decide)) B_alike .nil passL (pa_cons (pv 9) (pa_cons (pv 1) (pa_cons (pv 5) pa_nil)))))
      (pss_cons (ps_expr (pe_meth (pv 0) T.lt.cl T.m_stand_in G_stand_in (hr.mono (by decide)) B_stand_in .nil passL (pa_cons (pv 9) (pa_cons (pv 1) (pa_cons (pe_ix (k_ixL (K := K) rfl) (pv 2) (pv 9) (fun _ _ => rfl)) (pa_cons (pe_op o_sub (pv 6) (pe_ix (k_ixL (K := K) rfl) (pv 3) (pv 9) (fun _ _ => rfl))) (pa_cons (pv 10) pa_nil)))))))
      (pss_one (ps_expr (pe_bm PySem.F.plainAttrs_list PySem.F.slot_list_append PySem.F.type_list_append mt_append (pv 8) (pa_cons (pe_tup (pa_cons (pv 9) (pa_cons (pv 1) (pa_cons (pv 10) pa_nil)))) pa_nil))))))
      (pss_one (ps_daug hu (pe_ix (k_ixL (K := K) rfl) (k_fld (K := K) rfl (pv 0) rfl) (pv 9) (fun _ _ => rfl)) (pe_ix (k_ixL (K := K) rfl) (pv 2) (pv 9) (fun _ _ => rfl)) pe_int in_add (fun _ _ _ => rfl))))))
  (pss_consC (ps_if (pt_cmpR o_isN (pv 4) pe_non (nomark _))
    (pss_one (ps_fld (pv 0) (pv 1) rfl))
    pss_nil)
  (pss_cons (ps_fld (pv 0) (pe_op o_add (k_fld (K := K) rfl (pv 0) rfl) pe_int) rfl)
  (pss_one (ps_ret (pv 8))))))))))))), ?_⟩
  walk_at "go"
  refine ⟨p, n, L, S0, rfl, Ld, fun r1 r2 => ?_, k2⟩
  walk_at "go"
  refine g_ite (fun e => ?_) (fun e => ?_)
  · exact k3 r1 r2 (of_decide_eq_true e)
  have hn := of_decide_eq_false e
  obtain ⟨hlen, k1⟩ := k1 r1 r2 hn
  walk_at "go"
  refine ⟨p, n, L, S0, rfl, Ld, fun tt bq qq H1 s1 nt nb nq et eb eq => ?_⟩
  have Ld1 := Ld.same s1
  have X1 := Ld1.toLadX
  walk_at "go"
  refine g_gtup (.of et) rfl ?_
  walk_at "go"
  have b0 := bfL_at (L := L) (S := S0) (n := n) (Nat.zero_le _)
  rw [Int.pow_zero, Sk.bf_one hs] at b0
  have p0 := plL_at (L := L) (S := S0) (n := n) (Nat.zero_le _)
  refine g_ixL (.of eb) b0 ?_
  walk_at "go"
  refine behind_use Ld1 hn ?_
  walk_at "go"
  refine g_cut (fun σ' H2 => H2 = H1 ∧ σ' = [some (.ref p), some (.int n), some (.ref bq), some (.ref qq), some (ov (Sk.bel S0 n)), some (ov (Sk.abv S0 n)), some (.int (Sk.rk S0 n : Nat)), none, none, none, none]) (fun N hN => ?_) ?_
  · walk_at "go"
    cases ebb : Sk.bel S0 n with
    | none =>
      rw [ebb] at hN
      refine g_iteT rfl ?_
      walk_at "go"
      exact hN _ _ ⟨rfl, by rw [Sk.bel_none_rk ebb]; rfl⟩
    | some c =>
      rw [ebb] at hN
      refine g_iteF rfl ?_
      walk_at "go"
      refine g_ixL (.of eq) p0 ?_
      walk_at "go"
      refine hN _ _ ⟨rfl, ?_⟩
      have : Sk.pl (L.w ^ 0) S0 n = Sk.rk S0 c := by
        unfold Sk.pl
        rw [Int.pow_zero, Sk.bf_one hs, ebb]
      rw [this, Sk.bel_rk hs ebb]
      rfl
  rintro σ' H2 ⟨rfl, rfl⟩
  walk_at "go"
  refine ⟨L.w, L.h, Sk.bel S0 n, n, rfl, ok.w1, ok.w2, hh, fun t ht => ?_⟩
  have hst := fun {l : Nat} (hl : l ≤ L.h) => tall_st ok hs hn ht hl
  walk_at "go"
  refine g_newL (by decide) fun told H3 ntold1 s3 e3 => ?_
  have ntold := s1.free ntold1
  have s13 := s1.trans s3
  have X3 := (Ld.same s13).toLadX
  walk_at "go"
  refine g_rng (by omega) (by omega) ?_
  rw [show ((L.h : Int) + 1).toNat = L.h + 1 by omega]
  have nob := own_no X nb
  have noq := own_no X nq
  have not_ := own_no X ntold
  have neb : bq ≠ told := ne_of_none eb ntold1
  have neq : qq ≠ told := ne_of_none eq ntold1
  refine for_range (lo := 0) (fun i σ H' => ∃ v9 v10 : Option V, σ = [some (.ref p), some (.int n), some (.ref bq), some (.ref qq), some (ov (Sk.bel S0 n)), some (ov (Sk.abv S0 n)), some (.int (Sk.rk S0 n : Nat)), some (.int (t : Int)), some (.ref told), v9, v10] ∧
      LadX A.Ladder H' p L S0.head? (S0.length : Int) (fun l => if l < i then Sk.ins S0 n else S0) ∧ TupL H' told (putT L S0 n i) ∧ Keeps L p H H' ∧ H' bq = some (.lst (bfL L S0 n)) ∧ H' qq = some (.lst (plL L S0 n)))
    ⟨none, none, rfl, X3.congr fun l _ => by rw [if_neg (Nat.not_lt_zero l)], tupl_nil e3, Same.keeps (L := L) (p := p) s13, s3 _ _ eb, s3 _ _ eq⟩ ?_ ?_
  · rintro i σ H' hi ⟨v9, v10, rfl, X', tq, kp, eb', eq'⟩
    have hi' : i ≤ L.h := by omega
    have nxt : ∀ {H5 : Hp}, LadX A.Ladder H5 p L S0.head? (S0.length : Int) (fun j => if j = i then Sk.ins S0 n else if j < i then Sk.ins S0 n else S0) → LadX A.Ladder H5 p L S0.head? (S0.length : Int) (fun l => if l < i + 1 then Sk.ins S0 n else S0) := fun x => x.congr fun l _ => by
      by_cases q : l = i
      · rw [if_pos q, if_pos (by omega)]
      · rw [if_neg q]
        by_cases q2 : l < i
        · rw [if_pos q2, if_pos (by omega)]
        · rw [if_neg q2, if_neg (by omega)]
    have eTi : (fun l => if l < i then Sk.ins S0 n else S0) i = S0 := if_neg (Nat.lt_irrefl i)
    have dni := X'.dn i hi'
    have dgi := X'.dg i hi'
    have off : ∀ {c : Addr}, ¬ L.own p c → c ≠ L.ds i ∧ c ≠ L.gs i := fun h => ⟨fun q => h (q ▸ own_ds hi'), fun q => h (q ▸ own_gs hi')⟩
    have zi : (0 : Int) + (i : Int) = (i : Int) := Int.zero_add _
    rw [zi]
    walk_at "go"
    refine g_ite (fun e => ?_) (fun e => ?_)
    · have hstI := (hst hi').mp (by have := of_decide_eq_true e; omega)
      walk_at "go"
      refine ⟨p, i, n, Sk.abv S0 n, L, _, _, _, rfl, X', hi', ?_⟩
      walk_at "go"
      refine g_ixL (.of eb') (bfL_at hi') ?_
      walk_at "go"
      refine g_ixL (.of eq') (plL_at hi') ?_
      walk_at "go"
      refine ⟨p, i, n, _, _, _, L, S0, _, _, rfl, X', hi', eTi, hs, hn, by omega, hstI, rfl, fun c hc => ?_, rfl, fun H4 b4 dn4 dg4 => ?_⟩
      · show (Sk.rk S0 n : Int) - (Sk.pl (L.w ^ i) S0 n : Nat) = _
        unfold Sk.pl
        rw [hc]
      have X4 := X'.lev hi' b4 dn4 dg4
      have tq4 := tq.dicts dni dgi b4
      have kp4 : Keeps L p H H4 := kp.step fun c hc => b4 c (off hc).1 (off hc).2
      walk_at "go"
      refine ⟨by obtain ⟨as, h1, _⟩ := tq4; exact ty_lst h1, ?_⟩
      walk_at "go"
      refine g_newT (by show 3 ≤ 1000; decide) fun tu H5 ntu s5 e5 => ?_
      walk_at "go"
      refine g_appT (tq4.same s5) e5 (by have := putT_len (L := L) (S := S0) (n := n) (i := i); omega) fun H6 b6 tq6 => ?_
      have X6 := (X4.same s5).at fun c hc => b6 c fun q => not_ (q ▸ hc)
      have kp6 : Keeps L p H H6 := (kp4.same s5).but (s1.free ntold1) b6
      refine ⟨_, _, rfl, nxt X6, by rw [putT_yes hstI]; exact tq6, kp6, ?_, ?_⟩
      · exact (b6 _ neb).trans (s5 _ _ ((b4 _ (off nob).1 (off nob).2).trans eb'))
      · exact (b6 _ neq).trans (s5 _ _ ((b4 _ (off noq).1 (off noq).2).trans eq'))
    · have hns : ¬ Sk.St (L.w ^ i) (Sk.ins S0 n) n := fun q => by
        have h1 := (hst hi').mpr q
        have h2 := of_decide_eq_false e
        omega
      have hc := (pow_ok ok hi').1
      obtain ⟨b, hb⟩ : ∃ b, Sk.bf (L.w ^ i) S0 n = some b := by
        cases q : Sk.bf (L.w ^ i) S0 n with
        | some b => exact ⟨b, rfl⟩
        | none =>
          refine absurd ((Sk.st_ins_n hc hs hn).mpr fun z hz => ?_) hns
          rw [Sk.bf_none.mp q] at hz; cases hz
      obtain ⟨u1, u2, u3⟩ := Sk.put_stay hc hs hn hb hns
      simp only [if_neg (Nat.lt_irrefl i)] at dni dgi
      walk_at "go"
      refine g_ixL (.of eb') (bfL_at hi') ?_
      rw [hb]
      walk_at "go"
      refine g_diAugA (z := (Sk.gp (L.w ^ i) S0 b : Int)) dgi (by decide) (by unfold gV; rw [gA_of u3]; rfl) fun H4 b4 dg4 => ?_
      have dn4 : DI 200 H4 (L.ds i) (nV (L.w ^ i) (Sk.ins S0 n)) := (dni.at (b4 _ (ok.dg i i hi' hi'))).to fun k => by unfold nV; rw [u1]
      have dg4' : DI 200 H4 (L.gs i) (gV (L.w ^ i) (Sk.ins S0 n)) := (((dg4.to (g := gV (L.w ^ i) (Sk.ins S0 n)) fun k => by
        unfold gV
        rw [u2]
        by_cases q : k = b
        · rw [if_pos q, if_pos q]; rfl
        · rw [if_neg q, if_neg q]).tight fun k v => gV_mem).mono (by rw [Sk.len_ins hs hn]; omega))
      have b4' : ∀ c, c ≠ L.ds i → c ≠ L.gs i → H4 c = H' c := fun c _ h => b4 c h
      refine ⟨_, _, rfl, nxt (X'.lev hi' b4' dn4 dg4'), by rw [putT_no hns]; exact tq.dicts dni dgi b4', kp.step fun c hc => b4' c (off hc).1 (off hc).2, ?_, ?_⟩
      · exact (b4 _ (off nob).2).trans eb'
      · exact (b4 _ (off noq).2).trans eq'
  · rintro σ H' ⟨v9, v10, rfl, X', tq, kp, eb', eq'⟩
    have X5 : LadX A.Ladder H' p L S0.head? (S0.length : Int) (fun _ => Sk.ins S0 n) := X'.congr fun l hl => if_pos (by omega)
    have fin : ∀ {H5 H6 : Hp} {le : Option Int} {m : Int}, LadX A.Ladder H5 p L le m (fun _ => Sk.ins S0 n) → le = (Sk.ins S0 n).head? → m = ((Sk.ins S0 n).length : Int) → Lad A.Ladder H5 p L (Sk.ins S0 n) := fun x e1 e2 => by
      subst e1; subst e2
      exact { x with
        srt := Sk.srt_ins hs n
        lo := fun z hz => (Sk.mem_ins.mp hz).elim (fun e => e ▸ r1) (Ld.lo z)
        hi := fun z hz => (Sk.mem_ins.mp hz).elim (fun e => e ▸ r2) (Ld.hi z)
        len := by rw [Sk.len_ins hs hn]; omega }
    walk_at "go"
    refine g_cut (fun σ' H2 => ∃ v9 v10 : Option V, σ' = [some (.ref p), some (.int n), some (.ref bq), some (.ref qq), some (ov (Sk.bel S0 n)), some (ov (Sk.abv S0 n)), some (.int (Sk.rk S0 n : Nat)), some (.int (t : Int)), some (.ref told), v9, v10] ∧ 
        LadX A.Ladder H2 p L (Sk.ins S0 n).head? (S0.length : Int) (fun _ => Sk.ins S0 n) ∧ TupL H2 told (putT L S0 n (L.h + 1)) ∧ Keeps L p H H2) (fun N hN => ?_) ?_
    · walk_at "go"
      cases ebb : Sk.bel S0 n with
      | none =>
        rw [ebb] at hN
        refine g_iteT rfl ?_
        walk_at "go"
        refine lad_setLeast lt X5 (some n) fun H4 b4 X6 => ?_
        refine hN _ _ ⟨_, _, rfl, by rw [ins_head hs, ebb]; exact X6, tq.inst X5.ob b4, kp.step fun c hc => b4 c fun q => hc (.inl q)⟩
      | some c =>
        rw [ebb] at hN
        refine g_iteF rfl ?_
        walk_at "go"
        refine hN _ _ ⟨_, _, rfl, by rw [ins_head hs, ebb]; exact X5, tq, kp⟩
    rintro σ' H2 ⟨v9, v10, rfl, X6, tq6, kp6⟩
    walk_at "go"
    refine lad_setMany lt X6 ((S0.length : Int) + 1) fun H4 b4 X7 => ?_
    walk_at "go"
    exact k1 told H4 (kp6.step fun c hc => b4 c fun q => hc (.inl q)) ntold (tq6.inst X6.ob b4) (fin (H6 := H4) X7 rfl (by rw [Sk.len_ins hs hn]; rfl))

end
end Lk

namespace Lk
open PySem PySem.Spec PyProof.Rows L2
section
variable {H H' : Hp} {Q : VK} {K : PySem.W.Frag}
theorem di_new {d : Addr} {n : Nat} (e : H d = some (.dK [])) : DI n H d fun _ => none := ⟨[], e, .nil, Nat.zero_le _, fun _ => rfl, fun _ => rfl⟩
theorem g_lcD {i : Nat} {vs : List Nat} {σ : L2.St} {H1 : Hp} {n : Nat} (hn : n ≤ 1000) (hw : ∀ x : V, wipe ((wipe σ vs).set i (some x)) vs = wipe σ vs)
    (h : ∀ (D : Addr) (f : Nat → Addr) (H' : Hp), H1 D = none → Same H1 H' → H' D = some (.lst ((List.range n).map fun l => V.ref (f l))) → (∀ l, l < n → H1 (f l) = none ∧ H' (f l) = some (.dK [])) → (∀ l m, l < n → m < n → f l = f m → l = m) → Q (.ref D) H') :
    dLc (gName i) tYes tDNewK vs σ (Itr 0 n) H1 Q := fun D hD =>
  lc_range (lo := 0) (n := n) (fun j H' => ∃ f : Nat → Addr, Same H1 H' ∧ H' D = some (.lst ((List.range j).map fun l => V.ref (f l))) ∧ (∀ l, l < j → H1 (f l) = none ∧ H' (f l) = some (.dK [])) ∧ (∀ l m, l < j → m < j → f l = f m → l = m))
    ⟨fun _ => 0, same_new hD, upd_same, fun l hl => absurd hl (Nat.not_lt_zero l), fun l m hl => absurd hl (Nat.not_lt_zero l)⟩
    (fun j H' hj ⟨f, s, e, h1, h2⟩ => ⟨hw _, g_yes (by
      rw [if_pos rfl]
      intro q nq
      have nqD : D ≠ q := ne_of_none e nq
      obtain ⟨g, g1, g2⟩ : ∃ g : Nat → Addr, (∀ l, l = j → g l = q) ∧ ∀ l, ¬ l = j → g l = f l := ⟨fun l => if l = j then q else f l, fun l c => if_pos c, fun l c => if_neg c⟩
      refine ⟨_, (upd_ne nqD).trans e, small1000 (by rw [List.length_map, List.length_range]; omega), g, same_mut (same_mut s (s.free nq)) hD, ?_, fun l hl => ?_, fun l m hl hm => ?_⟩
      · rw [upd_same, List.range_succ, List.map_append]
        refine congrArg (fun z => some (HO.lst z)) (congr (congrArg HAppend.hAppend (List.map_congr_left fun l hl => ?_)) ?_)
        · rw [g2 l (by have := List.mem_range.mp hl; omega)]
        · rw [List.map_singleton, g1 j rfl]
      · by_cases c : l = j
        · rw [g1 l c, upd_ne (Ne.symm nqD), upd_same]
          exact ⟨s.free nq, rfl⟩
        · rw [g2 l c]
          obtain ⟨a1, a2⟩ := h1 l (by omega)
          rw [upd_ne (ne_of a2 e (by intro z; cases z)), upd_ne (ne_of_none a2 nq)]
          exact ⟨a1, a2⟩
      · intro q2
        have nf : ∀ l, l < j → f l ≠ q := fun l hl => ne_of_none (h1 l hl).2 nq
        by_cases c : l = j
        · by_cases c2 : m = j
          · omega
          · rw [g1 l c, g2 m c2] at q2
            exact absurd q2.symm (nf m (by omega))
        · by_cases c2 : m = j
          · rw [g2 l c, g1 m c2] at q2
            exact absurd q2 (nf l (by omega))
          · rw [g2 l c, g2 m c2] at q2
            exact h2 l m (by omega) (by omega) q2)⟩)
    fun H' ⟨f, s, e, h1, h2⟩ => h D f H' hD s e h1 h2
theorem g_fsetN {D : Ends} {σ : L2.St} {f : Str} {y : V} {p C dx : Addr} {fs : List (Str × V)} (e : H p = some (.ins C dx fs)) (t : Cls K C) (n : NoAttr K C f) (hl : fs.length < 1000)
    (h : ∀ H', But p H H' → H' p = some (.ins C dx (putF f y fs)) → D.nx σ H') : dFset K f D σ y (.ref p) H := ⟨p, C, dx, fs, rfl, e, t, n, hl, h _ (fun b hb => upd_ne hb) upd_same⟩
theorem lf_build {w h lim many : Int} {le : Option Int} {nx gx : Addr} : putF "gaps" (.ref gx) (putF "nexts" (.ref nx) (putF "least" (ov le) (putF "many" (.int many) (putF "limit" (.int lim) (putF "high" (.int h) (putF "width" (.int w) [])))))) = lf w h lim many le nx gx := by
  rfl
end
section
variable {P : Program} {w : World} {K : PySem.W.Frag} {mg : Str → Option Value} {base : Heap} {A : Ads}
def sp_init (C O1 : Addr) : Sp := fun vs H Q E => ∃ (p dx : Addr) (w h : Int), vs = [.ref p, .int w, .int h] ∧ H p = some (.ins C dx []) ∧
  ((2 ≤ w ∧ w ≤ 9 ∧ 1 ≤ h ∧ h ≤ 12) → ∀ (L : LS) H', L.w = w → (L.h : Int) = h → Lad C H' p L [] → (∀ b o, H b = some o → b ≠ p → H' b = some o) → (∀ b, L.own p b → b ≠ p → H b = none) → Q .non H') ∧
  (¬ (2 ≤ w ∧ w ≤ 9 ∧ 1 ≤ h ∧ h ≤ 12) → E (.ref O1) none H)
theorem ok___init__ (T : Txt K mg A) : FO P w K mg base 3 A.init ["self", "width", "high"] (sp_init A.Ladder A.BadSize) := by
  obtain ⟨fd_power, G_power, B_power⟩ := ok_power (P := P) (w := w) (base := base) T
  have S := sc___init__
  refine FO.mk' T.f___init__ S b___init__ (fun vs H Q E h => by obtain ⟨_, _, _, _, rfl, _⟩ := h; rfl) (fun cdv Ar outer s H vs Q E hr h => ?_)
  have hu := hu_of hr
  obtain ⟨p, dx, wd, hh, rfl, ep, k1, k2⟩ := h
  have lt := T.lt
  refine ⟨_, (pss_cons (ps_if (PW.pt (pw_or (pt_cmpR o_lt (pv 1) pe_int (nomark _)) (pw_or (pt_cmpR o_gt (pv 1) pe_int (nomark _)) (pw_or (pt_cmpR o_lt (pv 2) pe_int (nomark _)) (pw_or1 (pt_cmpR o_gt (pv 2) pe_int (nomark _)))))))
    (pss_one (ps_raise rfl (takes_of rfl rfl rfl rfl) (pmk_own PySem.F.excBase_ValueError T.x_BadSize.x T.x_BadSize.g T.x_BadSize.k (raises_own T.x_BadSize.b T.x_BadSize.t) rfl)))
    pss_nil)
  (pss_cons (ps_fld (pv 0) (pv 1) rfl)
  (pss_cons (ps_fld (pv 0) (pv 2) rfl)
  (pss_cons (ps_fld (pv 0) (pe_call G_power (hr.mono (by decide)) rfl T.g_power T.k_power B_power .nil passL (pa_cons (pv 1) (pa_cons (pv 2) pa_nil))) rfl)
  (pss_cons (ps_fld (pv 0) pe_int rfl)
  (pss_cons (ps_fld (pv 0) pe_non rfl)
  (pss_cons (ps_fld (pv 0) (pe_lc (own := [("level", 3)]) (g := gName 3) (tt := tYes) (by rfl) S.nd (pi_range1 rfl T.z_range (pa_cons (pe_op o_add (pv 2) pe_int) pa_nil)) (blkOk_by (N := N___init__) (sc := defScope s___init__) (by decide +kernel)) (fun _ _ _ _ _ => pg_name (i := 3) S.nd rfl (Or.inl rfl)) (fun _ _ _ _ _ => pts_nil) (fun _ _ _ _ _ => pe_dnewK)) rfl)
  (pss_one (ps_fld (pv 0) (pe_lc (own := [("level", 3)]) (g := gName 3) (tt := tYes) (by rfl) S.nd (pi_range1 rfl T.z_range (pa_cons (pe_op o_add (pv 2) pe_int) pa_nil)) (blkOk_by (N := N___init__) (sc := defScope s___init__) (by decide +kernel)) (fun _ _ _ _ _ => pg_name (i := 3) S.nd rfl (Or.inl rfl)) (fun _ _ _ _ _ => pts_nil) (fun _ _ _ _ _ => pe_dnewK)) rfl))))))))), ?_⟩
  have bad : ¬ (2 ≤ wd ∧ wd ≤ 9 ∧ 1 ≤ hh ∧ hh ≤ 12) → E (.ref A.BadSize) none H := k2
  walk_at "go"
  refine g_ite (fun e => k2 fun q => by have := of_decide_eq_true e; omega) (fun e1 => ?_)
  walk_at "go"
  refine g_ite (fun e => k2 fun q => by have := of_decide_eq_true e; omega) (fun e2 => ?_)
  walk_at "go"
  refine g_ite (fun e => k2 fun q => by have := of_decide_eq_true e; omega) (fun e3 => ?_)
  walk_at "go"
  refine g_ite (fun e => k2 fun q => by have := of_decide_eq_true e; omega) (fun e4 => ?_)
  have c1 := of_decide_eq_false e1
  have c2 := of_decide_eq_false e2
  have c3 := of_decide_eq_false e3
  have c4 := of_decide_eq_false e4
  obtain ⟨h, rfl⟩ : ∃ h : Nat, hh = (h : Int) := ⟨hh.toNat, by omega⟩
  walk_at "go"
  refine g_fsetN ep lt.cl lt.width (by show 0 < 1000; decide) fun H1 b1 p1 => ?_
  walk_at "go"
  refine g_fsetN p1 lt.cl lt.high (by show 1 < 1000; decide) fun H2 b2 p2 => ?_
  walk_at "go"
  refine ⟨wd, h, rfl, by omega, by omega, by omega, ?_⟩
  walk_at "go"
  refine g_fsetN p2 lt.cl lt.limit (by show 2 < 1000; decide) fun H3 b3 p3 => ?_
  walk_at "go"
  refine g_fsetN p3 lt.cl lt.many (by show 3 < 1000; decide) fun H4 b4 p4 => ?_
  walk_at "go"
  refine g_fsetN p4 lt.cl lt.least (by show 4 < 1000; decide) fun H5 b5 p5 => ?_
  have np : ∀ b, b ≠ p → H5 b = H b := fun b hb => (b5 b hb).trans ((b4 b hb).trans ((b3 b hb).trans ((b2 b hb).trans (b1 b hb))))
  walk_at "go"
  refine g_rng (by omega) (by omega) ?_
  rw [show ((h : Int) + 1).toNat = h + 1 by omega]
  refine g_lcD (by omega) (fun _ => rfl) fun nx f H6 n6 s6 e6 h6 i6 => ?_
  walk_at "go"
  have pnx : nx ≠ p := Ne.symm (ne_of_none p5 n6)
  refine g_fsetN (s6 _ _ p5) lt.cl lt.nexts (by show 5 < 1000; decide) fun H7 b7 p7 => ?_
  walk_at "go"
  refine g_rng (by omega) (by omega) ?_
  rw [show ((h : Int) + 1).toNat = h + 1 by omega]
  refine g_lcD (by omega) (fun _ => rfl) fun gx g H8 n8 s8 e8 h8 i8 => ?_
  walk_at "go"
  refine g_fsetN (s8 _ _ p7) lt.cl lt.gaps (by show 6 < 1000; decide) fun H9 b9 p9 => ?_
  have pgx : gx ≠ p := Ne.symm (ne_of_none p7 n8)
  have e7 : H7 nx = some (.lst ((List.range (h + 1)).map fun l => V.ref (f l))) := (b7 _ pnx).trans e6
  have pf : ∀ l, l < h + 1 → f l ≠ p := fun l hl => Ne.symm (ne_of_none p5 (h6 l hl).1)
  have pg : ∀ l, l < h + 1 → g l ≠ p := fun l hl => Ne.symm (ne_of_none p7 (h8 l hl).1)
  have f7 : ∀ l, l < h + 1 → H7 (f l) = some (.dK []) := fun l hl => (b7 _ (pf l hl)).trans (h6 l hl).2
  have f9 : ∀ l, l < h + 1 → H9 (f l) = some (.dK []) := fun l hl => (b9 _ (pf l hl)).trans (s8 _ _ (f7 l hl))
  have g9 : ∀ l, l < h + 1 → H9 (g l) = some (.dK []) := fun l hl => (b9 _ (pg l hl)).trans (h8 l hl).2
  have nd : ∀ c : Int, ∀ k, nV c [] k = none := fun c k => by
    unfold nV Sk.nA
    rw [if_neg fun q => nomatch q.1]; rfl
  have gd : ∀ c : Int, ∀ k, gV c [] k = none := fun c k => by
    unfold gV Sk.gA
    rw [if_neg fun q => nomatch q.1]; rfl
  have free : ∀ {b : Addr}, H7 b = none → b ≠ p → H b = none := fun {b} q1 q2 => by
    cases e : H b with
    | none => rfl
    | some o => rw [(b7 b q2).trans (s6 b o ((np b q2).trans e))] at q1; cases q1
  have free5 : ∀ {b : Addr}, H5 b = none → b ≠ p → H b = none := fun {b} q1 q2 => (np b q2).symm.trans q1
  refine k1 ⟨by omega, by omega, by omega, by omega⟩ ⟨wd, h, dx, nx, gx, f, g⟩ H9 rfl rfl ?_ (fun b o e q => (b9 b q).trans (s8 _ _ ((b7 b q).trans (s6 _ _ ((np b q).trans e))))) ?_
  · exact {
      ok := ⟨by show 2 ≤ wd; omega, by show wd ≤ 9; omega, by show 1 ≤ h; omega, by show h ≤ 12; omega, ne_of_none e7 n8, fun i j hi hj => i6 i j (Nat.lt_succ_of_le hi) (Nat.lt_succ_of_le hj), fun i j hi hj => i8 i j (Nat.lt_succ_of_le hi) (Nat.lt_succ_of_le hj),
        fun i j hi hj => ne_of_none (f7 i (Nat.lt_succ_of_le hi)) (h8 j (Nat.lt_succ_of_le hj)).1⟩
      ob := p9.trans (by rw [show (V.non : V) = ov none from rfl, lf_build]; rfl)
      nl := (b9 _ pnx).trans (s8 _ _ e7)
      gl := (b9 _ pgx).trans e8
      dn := fun l hl => (di_new (f9 l (Nat.lt_succ_of_le hl))).to fun k => (nd _ k).symm
      dg := fun l hl => (di_new (g9 l (Nat.lt_succ_of_le hl))).to fun k => (gd _ k).symm
      srt := .nil
      lo := fun z hz => nomatch hz
      hi := fun z hz => nomatch hz
      len := Nat.zero_le _ }
  · rintro b (rfl | rfl | rfl | ⟨l, hl, rfl | rfl⟩) q
    · exact absurd rfl q
    · exact free5 n6 q
    · exact free n8 q
    · exact free5 (h6 l (Nat.lt_succ_of_le hl)).1 q
    · exact free (h8 l (Nat.lt_succ_of_le hl)).1 q

end
section
variable {H : Hp} {Q : VK}
/-- a new ladder -/
theorem g_ladder {C O : Addr} {E : XK} {w h : Int} (k : 2 ≤ w ∧ w ≤ 9 ∧ 1 ≤ h ∧ h ≤ 12)
    (q : ∀ (p : Addr) (L : LS) H', H p = none → L.w = w → (L.h : Int) = h → Lad C H' p L [] → Same H H' → (∀ b, L.own p b → H b = none) → Q (.ref p) H') : dMake C (sp_init C O) E [.int w, .int h] H Q := fun x dx hx hdx ne => by
  have e1 : ∀ b o, H b = some o → b ≠ x ∧ b ≠ dx := fun b o e => ⟨ne_of_none e hx, ne_of_none e hdx⟩
  refine ⟨x, dx, w, h, rfl, upd_same, fun _ L H' ew eh Ld kp fr => ⟨rfl, q x L H' hx ew eh Ld (fun b o e => ?_) fun b hb => ?_⟩, fun bad => absurd k bad⟩
  · obtain ⟨n1, n2⟩ := e1 b o e
    exact kp b o (by rw [upd_ne n1, upd_ne n2]; exact e) n1
  · by_cases hbx : b = x
    · rw [hbx]; exact hx
    · have := fr b hb hbx
      rw [upd_ne hbx] at this
      by_cases hbd : b = dx
      · rw [hbd, upd_same] at this; cases this
      · rw [upd_ne hbd] at this; exact this
theorem g_badLadder {C O : Addr} {E : XK} {w h : Int} (k : ¬ (2 ≤ w ∧ w ≤ 9 ∧ 1 ≤ h ∧ h ≤ 12)) (q : ∀ H', Same H H' → E (.ref O) none H') : dMake C (sp_init C O) E [.int w, .int h] H Q := fun x dx hx hdx ne =>
  ⟨x, dx, w, h, rfl, upd_same, fun k2 => absurd k2 k, fun _ => q _ (same_mut (same_new hdx) hx)⟩

end
end Lk

namespace Lk
open PySem PySem.Spec PyProof.Rows L2
section
variable {P : Program} {w : World} {K : PySem.W.Frag} {mg : Str → Option Value} {base : Heap} {A : Ads}
def sp_go_out (C : Addr) : Sp := fun vs H Q _ => ∃ (p : Addr) (l : Nat) (n : Int) (b : Option Int) (came : Option Int) (L : LS) (U : List Int) (le : Option Int) (many : Int) (T : Nat → List Int),
  vs = [.ref p, .int (l : Int), .int n, ov b, ov came] ∧ LadX C H p L le many T ∧ l ≤ L.h ∧ T l = Sk.ins U n ∧ Sk.Srt U ∧ n ∉ U ∧ U.length ≤ 100 ∧ Sk.St (L.w ^ l) (Sk.ins U n) n ∧ b = Sk.bf (L.w ^ l) U n ∧
  came = alk (L.w ^ l) n (Sk.abv U n) ∧
  ∀ H', (∀ c, c ≠ L.ds l → c ≠ L.gs l → H' c = H c) → DI 200 H' (L.ds l) (nV (L.w ^ l) U) → DI 200 H' (L.gs l) (gV (L.w ^ l) U) → Q .non H'
theorem nV_out {c : Int} {U : List Int} {n : Int} (h : n ∉ U) : nV c U n = none := by
  cases e : nV c U n with
  | none => rfl
  | some v => exact absurd (nV_mem e) h
theorem gV_out {c : Int} {U : List Int} {n : Int} (h : n ∉ U) : gV c U n = none := by
  cases e : gV c U n with
  | none => rfl
  | some v => exact absurd (gV_mem e) h
theorem ok_go_out (T : Txt K mg A) : FO P w K mg base 2 A.go_out ["self", "level", "number", "before", "came"] (sp_go_out A.Ladder) := by
  have S := sc_go_out
  refine FO.mk' T.f_go_out S b_go_out (fun vs H Q E h => by obtain ⟨_, _, _, _, _, _, _, _, _, _, rfl, _⟩ := h; rfl) (fun cdv Ar outer s H vs Q E hr h => ?_)
  have hu := hu_of hr
  obtain ⟨p, l, n, b, came, L, U, le, many, T0, rfl, X, hl, hT, hs, hn, hlen, hst, hb, hold, k⟩ := h
  have lt := T.lt
  have hp := (pow_ok X.ok hl).1
  have ndg : L.ds l ≠ L.gs l := X.ok.dg l l hl hl
  have dn := X.dn l hl
  have dg := X.dg l hl
  rw [hT] at dn dg
  generalize hc : L.w ^ l = c at *
  have bn : ∀ b0, b = some b0 → b0 ≠ n := fun b0 q q2 => by
    rw [q, q2] at hb
    have := ((Sk.bf_some hp hs).mp hb.symm).2.1
    omega
  refine ⟨_, (pss_cons (ps_set (i := 5) S.nd rfl (Or.inl rfl) (pe_ix (k_ixL (K := K) rfl) (k_fld (K := K) rfl (pv 0) rfl) (pv 1) (fun _ _ => rfl)))
  (pss_cons (ps_set (i := 6) S.nd rfl (Or.inl rfl) (pe_ix (k_ixL (K := K) rfl) (k_fld (K := K) rfl (pv 0) rfl) (pv 1) (fun _ _ => rfl)))
  (pss_cons (ps_set (i := 7) S.nd rfl (Or.inl rfl) (pe_dpop1 (pv 5) (pv 2) ⟨rfl, rfl, rfl, rfl⟩))
  (pss_cons (ps_set (i := 8) S.nd rfl (Or.inl rfl) (pe_dpop1 (pv 6) (pv 2) ⟨rfl, rfl, rfl, rfl⟩))
  (pss_consC (ps_if (pt_cmpR o_notN (pv 4) pe_non (nomark _))
    (pss_cons (ps_dput hu (pv 5) (pv 4) (pv 7) rfl)
    (pss_cons (ps_dput hu (pv 6) (pv 4) (pe_op o_sub (pv 8) pe_int) rfl)
    (pss_one (ps_set (i := 7) S.nd rfl (Or.inl rfl) (pv 4)))))
    (pss_one (ps_if (pt_cmpR o_notN (pv 3) pe_non (nomark _))
      (pss_one (ps_dput hu (pv 6) (pv 3) (pe_op o_sub (pe_op o_add (pe_dget hu (pv 6) (pv 3) (fun _ _ => rfl)) (pv 8)) pe_int) rfl))
      pss_nil)))
  (pss_one (ps_if (pt_cmpR o_notN (pv 3) pe_non (nomark _))
    (pss_one (ps_dput hu (pv 5) (pv 3) (pv 7) rfl))
    pss_nil))))))), ?_⟩
  walk_at "go"
  have enx := nA_of hst
  have egp := gA_of hst
  generalize e1 : Sk.nx c (Sk.ins U n) n = lat at enx
  generalize e2 : Sk.gp c (Sk.ins U n) n = gap at egp
  refine g_diPop dn (k := n) rfl (v := ov lat) (by unfold nV; rw [enx]; rfl) fun H1 b1 d1 => ?_
  walk_at "go"
  have dg1 := dg.at (b1 _ (Ne.symm ndg))
  refine g_diPop dg1 (k := n) rfl (v := .int (gap : Nat)) (by unfold gV; rw [egp]; rfl) fun H2 b2 d2 => ?_
  have d12 := d1.at (b2 _ ndg)
  have bb : ∀ c, c ≠ L.ds l → c ≠ L.gs l → H2 c = H c := fun x h1 h2 => (b2 x h2).trans (b1 x h1)
  walk_at "go"
  refine g_cut (fun σ' H3 => ∃ lt2 : Option Int, σ' = [some (.ref p), some (.int (l : Int)), some (.int n), some (ov b), some (ov came), some (.ref (L.ds l)), some (.ref (L.gs l)), some (ov lt2), some (.int (gap : Nat))] ∧ (∀ c, c ≠ L.ds l → c ≠ L.gs l → H3 c = H c) ∧
      (∃ f, DI 203 H3 (L.ds l) f ∧ ∀ j, b ≠ some j → f j = nV c U j) ∧ DI 203 H3 (L.gs l) (gV c U) ∧ ∀ b0, b = some b0 → Sk.nA c U b0 = some lt2) (fun N hN => ?_) ?_
  · walk_at "go"
    cases ho : came with
    | some a =>
      have hab : Sk.abv U n = some a ∧ n / c = a / c := by
        rw [hold] at ho
        unfold alk at ho
        cases e : Sk.abv U n with
        | none => rw [e] at ho; cases ho
        | some x =>
          rw [e] at ho
          simp only at ho
          split at ho
          · cases ho; exact ⟨rfl, by assumption⟩
          · cases ho
      obtain ⟨hab, ea⟩ := hab
      subst ho
      obtain ⟨sa, f1, f2, f3⟩ := Sk.put_old hp hs hn hst hab ea.symm
      have na : n ≠ a := by have := ((Sk.abv_some hs).mp hab).2.1; omega
      have bfn : ¬ Sk.bf c U n = some n := fun q => bn n (by rw [hb, q]) rfl
      have elat : lat = Sk.nx c U a := by
        have := f1 n
        rw [enx, if_neg bfn, if_pos rfl] at this
        exact Option.some.inj this
      have egap : (gap : Int) = Sk.gp c U a + 1 := by
        have := f2 n
        rw [egp, if_pos rfl] at this
        exact Option.some.inj this
      refine g_iteT rfl ?_
      walk_at "go"
      refine g_diPut (d12.mono (show 200 ≤ 201 by decide)) (by decide) fun H3 b3 d3 => ?_
      walk_at "go"
      have d23 := d2.at (b3 _ (Ne.symm ndg))
      refine g_diPut (d23.mono (show 200 ≤ 202 by decide)) (by decide) fun H4 b4 d4 => ?_
      walk_at "go"
      refine hN _ _ ⟨some a, rfl, fun x h1 h2 => (b4 x h2).trans ((b3 x h1).trans (bb x h1 h2)), ⟨_, (d3.at (b4 _ ndg)).mono (by decide), fun j hj => ?_⟩, d4.to fun j => ?_, fun b0 q => f3 b0 (by rw [← hb, q])⟩
      · have hbj : ¬ Sk.bf c U n = some j := by rw [← hb]; exact hj
        show (if j = a then some (ov lat) else if j = n then none else nV c (Sk.ins U n) j) = _
        by_cases e3 : j = a
        · rw [if_pos e3, e3, elat]
          unfold nV
          rw [nA_of sa]; rfl
        · rw [if_neg e3]
          by_cases e4 : j = n
          · rw [if_pos e4, e4, nV_out hn]
          · rw [if_neg e4]
            unfold nV
            rw [f1 j, if_neg hbj, if_neg e4, if_neg e3]
      · show (if j = a then some (V.int ((gap : Int) - 1)) else if j = n then none else gV c (Sk.ins U n) j) = _
        by_cases e3 : j = a
        · rw [if_pos e3, e3, egap]
          unfold gV
          rw [gA_of sa]
          show some (V.int _) = some (V.int _)
          congr 2
          omega
        · rw [if_neg e3]
          by_cases e4 : j = n
          · rw [if_pos e4, e4, gV_out hn]
          · rw [if_neg e4]
            unfold gV
            rw [f2 j, if_neg e4, if_neg e3]
    | none =>
      have hna : ∀ a, Sk.abv U n = some a → a / c ≠ n / c := fun a ha q => by
        rw [hold] at ho
        unfold alk at ho
        rw [ha] at ho
        simp only [q.symm, if_true] at ho
        cases ho
      obtain ⟨f1, f2, f3⟩ := Sk.put_new hp hs hn hst hna
      have bfn : ¬ Sk.bf c U n = some n := fun q => bn n (by rw [hb, q]) rfl
      have egap : (gap : Int) = 1 := by
        have := f2 n
        rw [egp, if_pos rfl] at this
        exact Option.some.inj this
      have fN : ∀ j, b ≠ some j → (if j = n then none else nV c (Sk.ins U n) j) = nV c U j := fun j hj => by
        have hbj : ¬ Sk.bf c U n = some j := by rw [← hb]; exact hj
        by_cases e4 : j = n
        · rw [if_pos e4, e4, nV_out hn]
        · rw [if_neg e4]
          unfold nV
          rw [f1 j, if_neg hbj, if_neg e4]
      have fG : ∀ j, (if j = n then none else gV c (Sk.ins U n) j) = gV c U j := fun j => by
        by_cases e4 : j = n
        · rw [if_pos e4, e4, gV_out hn]
        · rw [if_neg e4]
          unfold gV
          rw [f2 j, if_neg e4]
      refine g_iteF rfl ?_
      walk_at "go"
      cases b with
      | none =>
        refine g_iteF rfl ?_
        walk_at "go"
        exact hN _ _ ⟨lat, by rw [ho]; rfl, bb, ⟨_, d12.mono (by decide), fN⟩, (d2.to fG).mono (by decide), fun b0 q => nomatch q⟩
      | some b0 =>
        obtain ⟨sb, hgap⟩ := f3 b0 hb.symm
        have elat : lat = Sk.nx c U b0 := by
          have := f1 n
          rw [enx, if_neg bfn, if_pos rfl, ← hb] at this
          exact Option.some.inj this
        refine g_iteT rfl ?_
        walk_at "go"
        refine g_diGet d2 (v := .int (Sk.gp c U b0 : Nat)) (by
          show (if b0 = n then none else gV c (Sk.ins U n) b0) = _
          rw [fG b0]; unfold gV; rw [gA_of sb]; rfl) ?_
        walk_at "go"
        refine g_diPut (d2.mono (show 200 ≤ 201 by decide)) (by decide) fun H3 b3 d3 => ?_
        refine hN _ _ ⟨lat, by rw [ho]; rfl, fun x h1 h2 => (b3 x h2).trans (bb x h1 h2), ⟨_, (d12.at (b3 _ ndg)).mono (by decide), fN⟩, (d3.mono (by decide)).to fun j => ?_, fun b1 q => by cases q; rw [elat]; exact nA_of sb⟩
        show (if j = b0 then some (V.int ((Sk.gp c U b0 : Nat) + (gap : Int) - 1)) else if j = n then none else gV c (Sk.ins U n) j) = _
        by_cases e0 : j = b0
        · rw [if_pos e0, e0, egap]
          unfold gV
          rw [gA_of sb]
          show some (V.int _) = some (V.int _)
          congr 2
          omega
        · rw [if_neg e0]; exact fG j
  · rintro σ' H3 ⟨lt2, rfl, hk, ⟨f, df, hf⟩, dg3, hlt⟩
    walk_at "go"
    have fin : ∀ H2, (∀ c, c ≠ L.ds l → c ≠ L.gs l → H2 c = H c) → DI 204 H2 (L.ds l) (nV c U) → DI 204 H2 (L.gs l) (gV c U) → Q .non H2 := fun H2 h1 h2 h3 =>
      k H2 h1 ((h2.tight fun j v e => nV_mem e).mono (by omega)) ((h3.tight fun j v e => gV_mem e).mono (by omega))
    cases b with
    | none =>
      refine g_iteF rfl ?_
      walk_at "go"
      exact fin H3 hk ((df.mono (by decide)).to fun j => hf j (by simp)) (dg3.mono (by decide))
    | some b0 =>
      refine g_iteT rfl ?_
      walk_at "go"
      refine g_diPut df (by decide) fun H4 b4 d4 => ?_
      walk_at "go"
      refine fin H4 (fun x h1 h2 => (b4 x h1).trans (hk x h1 h2)) (d4.to fun j => ?_) ((dg3.at (b4 _ (Ne.symm ndg))).mono (by decide))
      by_cases e1 : j = b0
      · subst e1
        rw [if_pos rfl]
        unfold nV
        rw [hlt j rfl]
        rfl
      · rw [if_neg e1]
        exact hf j fun q => e1 (Option.some.inj q).symm

end
end Lk

namespace Lk
open PySem PySem.Spec PyProof.Rows L2
section
variable {P : Program} {w : World} {K : PySem.W.Frag} {mg : Str → Option Value} {base : Heap} {A : Ads}
def sp_take (C O1 O2 : Addr) : Sp := fun vs H Q E => ∃ (p : Addr) (n : Int) (L : LS) (S : List Int), vs = [.ref p, .int n] ∧ Lad C H p L S ∧
  (0 ≤ n → n < L.w ^ L.h → n ∈ S → ∀ t H', Keeps L p H H' → H t = none → TupL H' t (takeT L S n (L.h + 1)) → Lad C H' p L (Sk.del S n) → Q (.ref t) H') ∧
  (¬ (0 ≤ n ∧ n < L.w ^ L.h) → E (.ref O1) none H) ∧ (0 ≤ n → n < L.w ^ L.h → n ∉ S → E (.ref O2) none H)
theorem ok_take (T : Txt K mg A) : FO P w K mg base 5 A.take ["self", "number"] (sp_take A.Ladder A.OutOfRange A.Missing) := by
  obtain ⟨fd_nearest, G_nearest, B_nearest⟩ := ok_nearest (P := P) (w := w) (base := base) T
  obtain ⟨fd_has, G_has, B_has⟩ := ok_has (P := P) (w := w) (base := base) T
  obtain ⟨fd_alike, G_alike, B_alike⟩ := ok_alike (P := P) (w := w) (base := base) T
  obtain ⟨fd_go_out, G_go_out, B_go_out⟩ := ok_go_out (P := P) (w := w) (base := base) T
  have S := sc_take
  refine FO.mk' T.f_take S b_take (fun vs H Q E h => by obtain ⟨_, _, _, _, rfl, _⟩ := h; rfl) (fun cdv Ar outer s H vs Q E hr h => ?_)
  have hu := hu_of hr
  obtain ⟨p, n, L, S0, rfl, Ld, k1, k2, k3⟩ := h
  have X := Ld.toLadX
  have lt := T.lt
  have hs := Ld.srt
  have ok := Ld.ok
  have hh := ok.h2
  refine ⟨_, (pss_cons (ps_if (pt_not (pt_val (pe_meth (pv 0) T.lt.cl T.m_has G_has (hr.mono (by decide)) B_has .nil (passes_call (takes_of rfl rfl rfl rfl) (fun _ _ _ _ z => z)) (pa_cons (pv 1) pa_nil))))
    (pss_one (ps_raise rfl (takes_of rfl rfl rfl rfl) (pmk_own PySem.F.excBase_ValueError T.x_Missing.x T.x_Missing.g T.x_Missing.k (raises_own T.x_Missing.b T.x_Missing.t) rfl)))
    pss_nil)
  (pss_cons (ps_asg (pe_call G_nearest (hr.mono (by decide)) rfl T.g_nearest T.k_nearest B_nearest .nil passL (pa_cons (pv 0) (pa_cons (pv 1) pa_nil))) (pg_tup (by rfl) (pgs_cons (pg_name (i := 2) S.nd rfl (Or.inl rfl)) (pgs_cons (pg_name (i := 3) S.nd rfl (Or.inl rfl)) pgs_nil))))
  (pss_cons (ps_set (i := 4) S.nd rfl (Or.inl rfl) (pe_dget hu (pe_ix (k_ixL (K := K) rfl) (k_fld (K := K) rfl (pv 0) rfl) pe_int (fun _ _ => rfl)) (pv 1) (fun _ _ => rfl)))
  (pss_cons (ps_set (i := 5) S.nd rfl (Or.inl rfl) (pe_lst pa_nil))
  (pss_cons (ps_for (passes_of rfl) rfl (pi_range1 rfl T.z_range (pa_cons (pe_op o_add (k_fld (K := K) rfl (pv 0) rfl) pe_int) pa_nil)) (pg_name (i := 6) S.nd rfl (Or.inl rfl))
    (pss_one (ps_if (pt_cmp (pc_din hu (pv 1) (pe_ix (k_ixL (K := K) rfl) (k_fld (K := K) rfl (pv 0) rfl) (pv 6) (fun _ _ => rfl))))
      (pss_cons (ps_set (i := 7) S.nd rfl (Or.inl rfl) (pe_meth (pv 0) T.lt.cl T.m_alike G_alike (hr.mono (by decide)) B_alike .nil passL (pa_cons (pv 6) (pa_cons (pv 1) (pa_cons (pv 4) pa_nil)))))
      (pss_cons (ps_expr (pe_meth (pv 0) T.lt.cl T.m_go_out G_go_out (hr.mono (by decide)) B_go_out .nil passL (pa_cons (pv 6) (pa_cons (pv 1) (pa_cons (pe_ix (k_ixL (K := K) rfl) (pv 2) (pv 6) (fun _ _ => rfl)) (pa_cons (pv 7) pa_nil))))))
      (pss_one (ps_expr (pe_bm PySem.F.plainAttrs_list PySem.F.slot_list_append PySem.F.type_list_append mt_append (pv 5) (pa_cons (pe_tup (pa_cons (pv 6) (pa_cons (pv 7) (pa_cons (pv 1) pa_nil)))) pa_nil))))))
      (pss_one (ps_daug hu (pe_ix (k_ixL (K := K) rfl) (k_fld (K := K) rfl (pv 0) rfl) (pv 6) (fun _ _ => rfl)) (pe_ix (k_ixL (K := K) rfl) (pv 2) (pv 6) (fun _ _ => rfl)) pe_int in_sub (fun _ _ _ => rfl))))))
  (pss_consC (ps_if (pt_cmpR o_isN (pe_ix (k_ixL (K := K) rfl) (pv 2) pe_int (fun _ _ => rfl)) pe_non (nomark _))
    (pss_one (ps_fld (pv 0) (pv 4) rfl))
    pss_nil)
  (pss_cons (ps_fld (pv 0) (pe_op o_sub (k_fld (K := K) rfl (pv 0) rfl) pe_int) rfl)
  (pss_one (ps_ret (pv 5)))))))))), ?_⟩
  walk_at "go"
  refine ⟨p, n, L, S0, rfl, Ld, fun r1 r2 => ?_, k2⟩
  walk_at "go"
  refine g_ite (fun e => ?_) (fun e => ?_)
  · exact k3 r1 r2 (by simpa using e)
  have hn : n ∈ S0 := by simpa using e
  have k1 := k1 r1 r2 hn
  have hU := Sk.srt_del hs n
  have nU : n ∉ Sk.del S0 n := fun q => (Sk.mem_del.mp q).2 rfl
  have eS : Sk.ins (Sk.del S0 n) n = S0 := Sk.ins_del hs hn
  have lU := Sk.len_del hs hn
  generalize eU : Sk.del S0 n = U at *
  have hlen := Ld.len
  have eab : Sk.abv S0 n = Sk.abv U n := by rw [← eS]; exact Sk.abv_ins (c := 1) (by decide) hU nU
  have ebf : ∀ {c : Int}, 0 < c → Sk.bf c S0 n = Sk.bf c U n := fun hc => by rw [← eS]; exact Sk.bf_ins hc hU nU
  walk_at "go"
  refine ⟨p, n, L, S0, rfl, Ld, fun tt bq qq H1 s1 nt nb nq et eb eq => ?_⟩
  have Ld1 := Ld.same s1
  have X1 := Ld1.toLadX
  walk_at "go"
  refine g_gtup (.of et) rfl ?_
  walk_at "go"
  have b0 := bfL_at (L := L) (S := S0) (n := n) (Nat.zero_le _)
  rw [Int.pow_zero, Sk.bf_one hs] at b0
  refine lad_dn (l := 0) X1 (Nat.zero_le _) (o := Sk.abv S0 n) (by rw [Int.pow_zero, nA_of (st_one.mpr hn), Sk.nx_one]) ?_
  walk_at "go"
  refine g_newL (by decide) fun told H3 ntold1 s3 e3 => ?_
  have ntold := s1.free ntold1
  have s13 := s1.trans s3
  have X3 := (Ld.same s13).toLadX
  walk_at "go"
  refine g_rng (by omega) (by omega) ?_
  rw [show ((L.h : Int) + 1).toNat = L.h + 1 by omega]
  have nob := own_no X nb
  have noq := own_no X nq
  have not_ := own_no X ntold
  have neb : bq ≠ told := ne_of_none eb ntold1
  have neq : qq ≠ told := ne_of_none eq ntold1
  refine for_range (lo := 0) (fun i σ H' => ∃ v9 v10 : Option V, σ = [some (.ref p), some (.int n), some (.ref bq), some (.ref qq), some (ov (Sk.abv S0 n)), some (.ref told), v9, v10] ∧
      LadX A.Ladder H' p L S0.head? (S0.length : Int) (fun l => if l < i then U else S0) ∧ TupL H' told (takeT L S0 n i) ∧ Keeps L p H H' ∧ H' bq = some (.lst (bfL L S0 n)) ∧ H' qq = some (.lst (plL L S0 n)))
    ⟨none, none, rfl, X3.congr fun l _ => by rw [if_neg (Nat.not_lt_zero l)], tupl_nil e3, Same.keeps (L := L) (p := p) s13, s3 _ _ eb, s3 _ _ eq⟩ ?_ ?_
  · rintro i σ H' hi ⟨v9, v10, rfl, X', tq, kp, eb', eq'⟩
    have hi' : i ≤ L.h := by omega
    have nxt : ∀ {H5 : Hp}, LadX A.Ladder H5 p L S0.head? (S0.length : Int) (fun j => if j = i then U else if j < i then U else S0) → LadX A.Ladder H5 p L S0.head? (S0.length : Int) (fun l => if l < i + 1 then U else S0) := fun x => x.congr fun l _ => by
      by_cases q : l = i
      · rw [if_pos q, if_pos (by omega)]
      · rw [if_neg q]
        by_cases q2 : l < i
        · rw [if_pos q2, if_pos (by omega)]
        · rw [if_neg q2, if_neg (by omega)]
    have eTi : (fun l => if l < i then U else S0) i = S0 := if_neg (Nat.lt_irrefl i)
    have dni := X'.dn i hi'
    have dgi := X'.dg i hi'
    simp only [if_neg (Nat.lt_irrefl i)] at dni dgi
    have off : ∀ {c : Addr}, ¬ L.own p c → c ≠ L.ds i ∧ c ≠ L.gs i := fun h => ⟨fun q => h (q ▸ own_ds hi'), fun q => h (q ▸ own_gs hi')⟩
    have zi : (0 : Int) + (i : Int) = (i : Int) := Int.zero_add _
    have hc := (pow_ok ok hi').1
    rw [zi]
    walk_at "go"
    refine g_diIn dni ?_
    rw [nV_some]
    walk_at "go"
    refine g_ite (fun e => ?_) (fun e => ?_)
    · have hstI : Sk.St (L.w ^ i) S0 n := of_decide_eq_true e
      walk_at "go"
      refine ⟨p, i, n, Sk.abv S0 n, L, _, _, _, rfl, X', hi', ?_⟩
      walk_at "go"
      refine g_ixL (.of eb') (bfL_at hi') ?_
      walk_at "go"
      refine ⟨p, i, n, _, _, L, U, _, _, _, rfl, X', hi', (if_neg (Nat.lt_irrefl i)).trans eS.symm, hU, nU, by omega, by rw [eS]; exact hstI, ebf hc, by rw [eab], fun H4 b4 dn4 dg4 => ?_⟩
      have X4 := X'.lev hi' b4 dn4 dg4
      have tq4 := tq.dicts dni dgi b4
      have kp4 : Keeps L p H H4 := kp.step fun c hc => b4 c (off hc).1 (off hc).2
      walk_at "go"
      refine ⟨by obtain ⟨as, h1, _⟩ := tq4; exact ty_lst h1, ?_⟩
      walk_at "go"
      refine g_newT (by show 3 ≤ 1000; decide) fun tu H5 ntu s5 e5 => ?_
      walk_at "go"
      refine g_appT (tq4.same s5) e5 (by have := takeT_len (L := L) (S := S0) (n := n) (i := i); omega) fun H6 b6 tq6 => ?_
      have X6 := (X4.same s5).at fun c hc => b6 c fun q => not_ (q ▸ hc)
      have kp6 : Keeps L p H H6 := (kp4.same s5).but (s1.free ntold1) b6
      refine ⟨_, _, rfl, nxt X6, by rw [takeT_yes hstI]; exact tq6, kp6, ?_, ?_⟩
      · exact (b6 _ neb).trans (s5 _ _ ((b4 _ (off nob).1 (off nob).2).trans eb'))
      · exact (b6 _ neq).trans (s5 _ _ ((b4 _ (off noq).1 (off noq).2).trans eq'))
    · have hns : ¬ Sk.St (L.w ^ i) S0 n := of_decide_eq_false e
      have hns2 : ¬ Sk.St (L.w ^ i) (Sk.ins U n) n := by rw [eS]; exact hns
      obtain ⟨b, hb⟩ : ∃ b, Sk.bf (L.w ^ i) U n = some b := by
        cases q : Sk.bf (L.w ^ i) U n with
        | some b => exact ⟨b, rfl⟩
        | none =>
          refine absurd ((Sk.st_ins_n hc hU nU).mpr fun z hz => ?_) hns2
          rw [Sk.bf_none.mp q] at hz; cases hz
      obtain ⟨u1, u2, u3⟩ := Sk.put_stay hc hU nU hb hns2
      rw [eS] at u1 u2
      walk_at "go"
      refine g_ixL (.of eb') (bfL_at hi') ?_
      rw [ebf hc, hb]
      walk_at "go"
      refine g_diAugS (z := (Sk.gp (L.w ^ i) U b : Int) + 1) dgi (by decide) (by unfold gV; rw [u2, if_pos rfl]; rfl) fun H4 b4 dg4 => ?_
      have dn4 : DI 200 H4 (L.ds i) (nV (L.w ^ i) U) := (dni.at (b4 _ (ok.dg i i hi' hi'))).to fun k => by unfold nV; rw [u1]
      have dg4' : DI 200 H4 (L.gs i) (gV (L.w ^ i) U) := (((dg4.to (g := gV (L.w ^ i) U) fun k => by
        unfold gV
        rw [u2]
        by_cases q : k = b
        · rw [if_pos q, q, gA_of u3]
          show some (V.int _) = some (V.int _)
          congr 2
          omega
        · rw [if_neg q, if_neg q]).tight fun k v => gV_mem).mono (by omega))
      have b4' : ∀ c, c ≠ L.ds i → c ≠ L.gs i → H4 c = H' c := fun c _ h => b4 c h
      refine ⟨_, _, rfl, nxt (X'.lev hi' b4' dn4 dg4'), by rw [takeT_no hns]; exact tq.dicts dni dgi b4', kp.step fun c hc => b4' c (off hc).1 (off hc).2, ?_, ?_⟩
      · exact (b4 _ (off nob).2).trans eb'
      · exact (b4 _ (off noq).2).trans eq'
  · rintro σ H' ⟨v9, v10, rfl, X', tq, kp, eb', eq'⟩
    have X5 : LadX A.Ladder H' p L S0.head? (S0.length : Int) (fun _ => U) := X'.congr fun l hl => if_pos (by omega)
    have eb0 : Sk.bel S0 n = Sk.bel U n := by rw [← eS]; exact Sk.bel_ins (c := 1) (by decide) hU nU
    have hd : ∀ c, Sk.bel S0 n = some c → S0.head? = U.head? := fun c q => by
      have h1 := ins_head hU (n := n)
      rw [eS, ← eb0, q] at h1
      exact h1
    have fin : ∀ {H5 : Hp} {le : Option Int} {m : Int}, LadX A.Ladder H5 p L le m (fun _ => U) → le = U.head? → m = (U.length : Int) → Lad A.Ladder H5 p L U := fun x e1 e2 => by
      subst e1; subst e2
      have inS : ∀ z ∈ U, z ∈ S0 := fun z hz => by rw [← eU] at hz; exact (Sk.mem_del.mp hz).1
      exact { x with
        srt := hU
        lo := fun z hz => Ld.lo z (inS z hz)
        hi := fun z hz => Ld.hi z (inS z hz)
        len := by omega }
    walk_at "go"
    refine g_cut (fun σ' H2 => ∃ v9 v10 : Option V, σ' = [some (.ref p), some (.int n), some (.ref bq), some (.ref qq), some (ov (Sk.abv S0 n)), some (.ref told), v9, v10] ∧ 
        LadX A.Ladder H2 p L U.head? (S0.length : Int) (fun _ => U) ∧ TupL H2 told (takeT L S0 n (L.h + 1)) ∧ Keeps L p H H2) (fun N hN => ?_) ?_
    · walk_at "go"
      refine g_ixL (.of eb') b0 ?_
      walk_at "go"
      cases ebb : Sk.bel S0 n with
      | none =>
        refine g_iteT rfl ?_
        walk_at "go"
        refine lad_setLeast lt X5 (Sk.abv S0 n) fun H4 b4 X6 => ?_
        refine hN _ _ ⟨_, _, rfl, by rw [Sk.abv_head2 hU nU (eb0.symm.trans ebb), ← eab]; exact X6, tq.inst X5.ob b4, kp.step fun c hc => b4 c fun q => hc (.inl q)⟩
      | some c =>
        refine g_iteF rfl ?_
        walk_at "go"
        refine hN _ _ ⟨_, _, rfl, by rw [← hd c ebb]; exact X5, tq, kp⟩
    rintro σ' H2 ⟨v9, v10, rfl, X6, tq6, kp6⟩
    walk_at "go"
    refine lad_setMany lt X6 ((S0.length : Int) - 1) fun H4 b4 X7 => ?_
    walk_at "go"
    exact k1 told H4 (kp6.step fun c hc => b4 c fun q => hc (.inl q)) ntold (tq6.inst X6.ob b4) (fin X7 rfl (by omega))

end
end Lk

namespace Sk
/-- a row with another row's numbers put in -/
def uni (S T : List Int) : List Int := T.foldl ins S
theorem uni_snoc {S T : List Int} {x : Int} : uni S (T ++ [x]) = ins (uni S T) x := by unfold uni; rw [List.foldl_append]; rfl
theorem mem_uni {S T : List Int} {x : Int} : x ∈ uni S T ↔ x ∈ S ∨ x ∈ T := by
  unfold uni
  induction T generalizing S with
  | nil => simp
  | cons a r ih =>
    rw [List.foldl_cons, ih, mem_ins, List.mem_cons]
    constructor
    · rintro ((h | h) | h)
      · exact .inr (.inl h)
      · exact .inl h
      · exact .inr (.inr h)
    · rintro (h | h | h)
      · exact .inl (.inr h)
      · exact .inl (.inl h)
      · exact .inr h
theorem srt_uni {S T : List Int} (h : Srt S) : Srt (uni S T) := by
  unfold uni
  induction T generalizing S with
  | nil => exact h
  | cons a r ih => exact ih (srt_ins h a)
end Sk
namespace Lk
open PySem PySem.Spec PyProof.Rows L2
theorem Lad.keep {C p p2 : Addr} {L L2 : LS} {S : List Int} {H H' : Hp} (x : Lad C H p2 L2 S) (k : Keeps L p H H') (d : ∀ b, L2.own p2 b → ¬ L.own p b) : Lad C H' p2 L2 S := x.at fun b hb => by
  obtain ⟨o, e⟩ := x.toLadX.there hb
  rw [e]
  exact k b o e (d b hb)
section
variable {P : Program} {w : World} {K : PySem.W.Frag} {mg : Str → Option Value} {base : Heap} {A : Ads}


end
end Lk

/-! ### what the laws share -/
namespace Lk
open PySem PySem.Spec PyProof.Rows L2
theorem inV_int {n : Int} {S : List Int} : inV (.int n) (S.map V.int) = decide (n ∈ S) := by
  induction S with
  | nil => rfl
  | cons a r ih =>
    show (eqV (.int a) (.int n) || inV (.int n) (r.map V.int)) = _
    rw [ih]
    have : eqV (.int a) (.int n) = decide (a = n) := rfl
    rw [this, ← Bool.decide_or, decide_eq_decide, List.mem_cons]
    constructor
    · rintro (q | q)
      · exact .inl q.symm
      · exact .inr q
    · rintro (q | q)
      · exact .inl q.symm
      · exact .inr q
theorem flat_ints (S : List Int) : (S.map V.int).all flatV = true := List.all_eq_true.mpr fun v hv => by
  obtain ⟨i, _, rfl⟩ := List.mem_map.mp hv
  rfl
section
variable {K : PySem.W.Frag} {H : Hp} {Q : VK} {a : Addr} {S : List Int} {n : Int}
theorem g_inI (h : SqL K H a (S.map V.int)) (q : Q (.bl (decide (n ∈ S))) H) : rIn K false (.int n) (.ref a) H Q := ⟨a, _, rfl, .inl h, rfl, flat_ints S, by rw [inV_int]; exact q⟩
theorem g_ninI (h : SqL K H a (S.map V.int)) (q : Q (.bl (!decide (n ∈ S))) H) : rIn K true (.int n) (.ref a) H Q := ⟨a, _, rfl, .inl h, rfl, flat_ints S, by rw [inV_int]; exact q⟩
theorem g_sorted {rs : List Int} (h : SqL K H a (rs.map V.int)) (nd : rs.Nodup) (hs : Sk.Srt S) (e : ∀ x, x ∈ rs ↔ x ∈ S) (q : ∀ p H', H p = none → Same H H' → H' p = some (.lst (S.map V.int)) → Q (.ref p) H') : rSortedI K [.ref a] H Q :=
  ⟨a, rs, rfl, h, fun ns p hp ho np => by
    have nd' : ns.Nodup := hp.nodup_iff.mpr nd
    have srt : Sk.Srt ns := (ho.and (List.nodup_iff_pairwise_ne.mp nd')).imp fun ⟨h1, h2⟩ => by omega
    have : ns = S := Sk.srt_ext srt hs fun x => (hp.mem_iff).trans (e x)
    subst this
    exact q p _ np (same_new np) upd_same⟩
theorem g_cat {xs ys : List V} {b : Addr} (hx : H a = some (.lst xs)) (hy : H b = some (.lst ys)) (hl : xs.length + ys.length ≤ 1000) (q : ∀ p H', H p = none → Same H H' → H' p = some (.lst (xs ++ ys)) → Q (.ref p) H') : rCat (.ref a) (.ref b) H Q :=
  ⟨a, b, xs, ys, rfl, rfl, hx, hy, Nat.le_of_lt (small1000 hl), fun p hp => q p _ hp (same_new hp) upd_same⟩
theorem g_isList {xs : List V} (e : H a = some (.lst xs)) (q : Q (.bl true) H) : rIsi K [.ref a, .ty "list"] H Q := g_isi (.base (.lst e)) (.ty _) (kit_ty (r := true) (by decide +kernel)) q
theorem g_isTup {xs : List V} (e : H a = some (.tup xs)) (q : Q (.bl true) H) : rIsi K [.ref a, .ty "tuple"] H Q := g_isi (.base (.tup e)) (.ty _) (kit_ty (r := true) (by decide +kernel)) q
theorem g_isBool {b : Bool} (q : Q (.bl true) H) : rIsi K [.bl b, .ty "bool"] H Q := g_isi (.base (.bl b)) (.ty _) (kit_ty (r := true) (by decide +kernel)) q
def nInt1 : List V → Hp → VK → Prop := fun xs H Q => (∃ i, xs = [.int i] ∧ Q (.int i) H) ∨ ∃ k, xs = [.bl k] ∧ Q (.int (if k then 1 else 0)) H
theorem c_int1 {X : Cx} : CallR X (.type "int") nInt1 := call_int1
theorem g_int1 {b : Bool} (q : Q (.int (if b = true then 1 else 0)) H) : nInt1 [.bl b] H Q := .inr ⟨b, rfl, q⟩
theorem k_sorted {X : Cx} {K : PySem.W.Frag} (e : X.K = K) : CallR X (.builtin "sorted") (rSortedI K) := e ▸ cr_sortedI
theorem g_testP {c : TT} {σ : L2.St} {R : Bool → Hp → Prop} (b : Bool) (M : Hp → Prop) (hc : ∀ R : Bool → Hp → Prop, (∀ H', M H' → R b H') → c σ H R) (h : ∀ H', M H' → R b H') : c σ H R := hc R h
end
theorem Keeps.seq {K : PySem.W.Frag} {L : LS} {p a : Addr} {H H' : Hp} {xs : List V} (k : Keeps L p H H') (na : ¬ L.own p a) (h : SqL K H a xs) : SqL K H' a xs := by
  rcases h with (h | ⟨o, h⟩) | h
  · exact .inl (.inl (k a _ h na))
  · exact .inl (.inr ⟨o, k a _ h na⟩)
  · exact .inr h
theorem Keeps.of {L : LS} {p c : Addr} {H2 H3 H' : Hp} {o : HO} (k : Keeps L p H3 H') (s : Same H2 H3) (fr : ∀ b, L.own p b → H2 b = none) (e : H2 c = some o) : H' c = some o := k c o (s c o e) fun q => by rw [fr c q] at e; cases e
theorem Keeps.seqOf {K : PySem.W.Frag} {L : LS} {p a : Addr} {H2 H3 H' : Hp} {xs : List V} (k : Keeps L p H3 H') (s : Same H2 H3) (fr : ∀ b, L.own p b → H2 b = none) (h : SqL K H2 a xs) : SqL K H' a xs := by
  rcases h with (h | ⟨o, h⟩) | h
  · exact .inl (.inl (k.of s fr h))
  · exact .inl (.inr ⟨o, k.of s fr h⟩)
  · exact .inr h
theorem tupl_item {H : Hp} {q : Addr} {xs : List (List V)} (h : TupL H q xs) : ∃ as : List Addr, H q = some (.lst (as.map V.ref)) ∧ as.length = xs.length ∧ ∀ (i : Nat) (v : V), (as.map V.ref)[i]? = some v → ∃ t x, v = V.ref t ∧ xs[i]? = some x ∧ H t = some (.tup x) := by
  obtain ⟨as, h1, h2⟩ := h
  refine ⟨as, h1, paired_len h2, fun i v e => ?_⟩
  rw [List.getElem?_map] at e
  have hl := paired_len h2
  have hi : i < as.length := by
    rcases Nat.lt_or_ge i as.length with q | q
    · exact q
    · rw [List.getElem?_eq_none q] at e; cases e
  have ex : xs[i]? = some (xs[i]'(by omega)) := List.getElem?_eq_getElem (by omega)
  obtain ⟨t, e1, e2⟩ := paired_get h2 ex
  rw [e1] at e
  exact ⟨t, _, (Option.some.inj e).symm, ex, e2⟩
/-- [x for x in row if ..] -/
theorem g_lcF {K : PySem.W.Frag} {H1 : Hp} {Q : VK} {a : Addr} {S : List Int} {p : Int → Bool} {j : Nat} {vs : List Nat} {σ : L2.St} {tt : TT} (hq : SqL K H1 a (S.map V.int)) (hl : S.length ≤ 1000)
    (hw : ∀ x : V, wipe ((wipe σ vs).set j (some x)) vs = wipe σ vs) (hj : ∀ x : V, ((wipe σ vs).set j (some x))[j]? = some (some x))
    (ht : ∀ (x : Int) (H' : Hp) (R : Bool → Hp → Prop), x ∈ S → Same H1 H' → R (p x) H' → tt ((wipe σ vs).set j (some (.int x))) H' R)
    (hd : ∀ D H', H1 D = none → Same H1 H' → H' D = some (.lst ((S.filter p).map V.int)) → Q (.ref D) H') : dLc (gName j) tt (tVar j) vs σ (Itl K a) H1 Q := by
  refine g_lcL hq (fun i => ((S.take i).filter p).map V.int) rfl (fun D i x H' hD hi s3 e3 => ?_) (fun D H' hD s3 e3 => ?_)
  · rw [List.getElem?_map] at hi
    obtain ⟨z, hz, rfl⟩ := Option.map_eq_some_iff.mp hi
    have eo : (((S.take (i + 1)).filter p).map V.int) = ((S.take i).filter p).map V.int ++ (if p z = true then [V.int z] else []) := by
      rw [Sk.take_snoc hz, List.filter_append, List.map_append]
      by_cases q : p z = true
      · rw [if_pos q, List.filter_cons, if_pos q]; rfl
      · rw [if_neg q, List.filter_cons, if_neg q]; rfl
    refine g_name _ ⟨hw _, ht z H' _ (List.mem_of_getElem? hz) s3 ?_⟩
    refine g_ite (fun e => ?_) (fun e => ?_)
    · rw [e, if_pos rfl] at eo
      refine g_var (hj _) (g_add1 hD s3 e3 ?_ eo)
      rw [List.length_map]
      have := List.length_filter_le p (S.take i)
      have h2 : (S.take i).length ≤ S.length := by rw [List.length_take]; omega
      omega
    · rw [e, if_neg (by decide), List.append_nil] at eo
      exact g_skip1 s3 e3 eo
  · rw [List.length_map, List.take_length] at e3
    exact hd D H' hD s3 e3
theorem bel_def {S : List Int} {n : Int} : (S.filter fun z => decide (z < n)).getLast? = Sk.bel S n := rfl
theorem abv_def {S : List Int} {n : Int} : (S.filter fun z => decide (n < z)).head? = Sk.abv S n := by
  unfold Sk.abv
  rw [List.head?_filter]
theorem atI_lastI {S : List Int} {z : Int} (h : S.getLast? = some z) : atI (S.map V.int) (-1) = some (.int z) := by
  obtain ⟨bs, rfl⟩ := List.getLast?_eq_some_iff.mp h
  rw [List.map_append]
  exact atI_last _ _
theorem atI_headI {S : List Int} {z : Int} (h : S.head? = some z) : atI (S.map V.int) 0 = some (.int z) := by
  refine atI_c0 ?_
  rw [List.getElem?_map, ← List.head?_eq_getElem?, h]
  rfl
theorem plain_ov (o : Option Int) : plainV (ov o) = true := by cases o <;> rfl
def dRev (K : PySem.W.Frag) (vs : List V) (H1 : Hp) (R : It → Hp → Prop) : Prop := ∃ (a : Addr) (xs : List V), vs = [.ref a] ∧ SqL K H1 a xs ∧ R (Itv K a xs.length) H1
def nRev (K : PySem.W.Frag) (tA : TA) : TI := fun σ H R => tA σ H fun vs H1 => dRev K vs H1 R
theorem k_rev {X : Cx} {K : PySem.W.Frag} (eK : X.K = K) {tg : Expr} {e : Expr} {tA : TA} {p pos : Pos} (hg : Gl X "reversed") (hm : X.mg "reversed" = none) (ha : PA X [e] tA) (hs : starEach [e] X.env = [(false, eval e X.env)] := by rfl) : PI X tg (.Call (.Name "reversed" p) [e] [] pos) (nRev K tA) := eK ▸ pi_reversed hg hm ha hs
theorem g_rev0 {K : PySem.W.Frag} {tA : TA} {σ : L2.St} {H : Hp} {R : It → Hp → Prop} (h : tA σ H fun vs H1 => dRev K vs H1 R) : nRev K tA σ H R := h
theorem g_rev {K : PySem.W.Frag} {H : Hp} {R : It → Hp → Prop} {a : Addr} {xs : List V} (hs : SqL K H a xs) (h : R (Itv K a xs.length) H) : dRev K [.ref a] H R := ⟨a, xs, rfl, hs, h⟩
/-- [x for x in reversed(row) if ..] -/
theorem g_lcFR {K : PySem.W.Frag} {H1 : Hp} {Q : VK} {a : Addr} {S : List Int} {p : Int → Bool} {j : Nat} {vs : List Nat} {σ : L2.St} {tt : TT} (hq : SqL K H1 a (S.map V.int)) (hl : S.length ≤ 1000)
    (hw : ∀ x : V, wipe ((wipe σ vs).set j (some x)) vs = wipe σ vs) (hj : ∀ x : V, ((wipe σ vs).set j (some x))[j]? = some (some x))
    (ht : ∀ (x : Int) (H' : Hp) (R : Bool → Hp → Prop), x ∈ S → Same H1 H' → R (p x) H' → tt ((wipe σ vs).set j (some (.int x))) H' R)
    (hd : ∀ D H', H1 D = none → Same H1 H' → H' D = some (.lst ((S.reverse.filter p).map V.int)) → Q (.ref D) H') : dLc (gName j) tt (tVar j) vs σ (Itv K a (S.map V.int).length) H1 Q := fun D hD => by
  refine lc_it walk_rev (fun i H' => Same H1 H' ∧ H' D = some (.lst (((S.reverse.take i).filter p).map V.int))) ⟨same_new hD, upd_same⟩ (fun i H' _ q => q.1.seq hq) (fun i x H' H2 hi ⟨s3, e3⟩ ⟨eH, hx⟩ => ?_) fun H' ⟨s3, e3⟩ => ?_
  · subst eH
    have hz : ∃ z, S.reverse[i]? = some z ∧ x = .int z := by
      rw [List.length_map] at hi hx
      rw [List.getElem?_map] at hx
      obtain ⟨z, hz, rfl⟩ := Option.map_eq_some_iff.mp hx
      exact ⟨z, by rw [List.getElem?_reverse hi]; exact hz, rfl⟩
    obtain ⟨z, hz, rfl⟩ := hz
    have eo : (((S.reverse.take (i + 1)).filter p).map V.int) = ((S.reverse.take i).filter p).map V.int ++ (if p z = true then [V.int z] else []) := by
      rw [Sk.take_snoc hz, List.filter_append, List.map_append]
      by_cases q : p z = true
      · rw [if_pos q, List.filter_cons, if_pos q]; rfl
      · rw [if_neg q, List.filter_cons, if_neg q]; rfl
    refine g_name _ ⟨hw _, ht z H2 _ (List.mem_reverse.mp (List.mem_of_getElem? hz)) s3 ?_⟩
    refine g_ite (fun e => ?_) (fun e => ?_)
    · rw [e, if_pos rfl] at eo
      refine g_var (hj _) ⟨_, e3, small1000 ?_, same_mut s3 hD, by rw [upd_same, eo]⟩
      rw [List.length_map]
      have := List.length_filter_le p (S.reverse.take i)
      have h2 : (S.reverse.take i).length ≤ S.length := by rw [List.length_take, List.length_reverse]; omega
      omega
    · rw [e, if_neg (by decide), List.append_nil] at eo
      exact ⟨s3, by rw [eo]; exact e3⟩
  · rw [List.length_map, ← List.length_reverse, List.take_length] at e3
    exact hd D H' hD s3 e3
/-- the list tells an ordered row's numbers, in any order -/
structure RowOf (rs S : List Int) : Prop where
  nd : rs.Nodup
  srt : Sk.Srt S
  mem : ∀ x, x ∈ rs ↔ x ∈ S
theorem RowOf.nil : RowOf [] [] := ⟨.nil, .nil, fun _ => .rfl⟩
theorem RowOf.snoc {rs S : List Int} {n : Int} (h : RowOf rs S) (hn : n ∉ rs) : RowOf (rs ++ [n]) (Sk.ins S n) where
  nd := List.nodup_append.mpr ⟨h.nd, List.nodup_cons.mpr ⟨List.not_mem_nil, .nil⟩, fun a ha b hb => by rw [List.mem_singleton] at hb; subst hb; exact fun q => hn (q ▸ ha)⟩
  srt := Sk.srt_ins h.srt n
  mem := fun x => by
    rw [List.mem_append, List.mem_singleton, Sk.mem_ins, h.mem x]
    exact Or.comm
theorem RowOf.len {rs S : List Int} (h : RowOf rs S) : rs.length = S.length :=
  Nat.le_antisymm (nodup_len h.nd fun x hx => (h.mem x).mp hx) (nodup_len (Sk.srt_nodup h.srt) fun x hx => (h.mem x).mpr hx)
section
variable {P : Program} {w : World} {K : PySem.W.Frag} {mg : Str → Option Value} {base : Heap} {A : Ads}
def sp__law_number : Sp := fun vs H Q _ => ∃ (c lim : Int), vs = [.int c, .int lim] ∧ 0 < lim ∧ lim ≤ 282429536482 ∧ ∀ z : Int, 0 ≤ z → z < lim → Q (.int z) H
theorem ok__law_number (T : Txt K mg A) : FO P w K mg base 2 A._law_number ["_law_cell", "_law_limit"] sp__law_number := by
  have S := sc__law_number
  refine FO.mk' T.f__law_number S b__law_number (fun vs H Q E h => by obtain ⟨_, _, rfl, _⟩ := h; rfl) (fun cdv Ar outer s H vs Q E hr h => ?_)
  have hu := hu_of hr
  obtain ⟨c, lim, rfl, l1, l2, k⟩ := h
  have m1 : 0 < min lim 30 := by omega
  have m2 : min lim 30 ≤ lim := by omega
  refine ⟨_, (pss_cons (ps_if (pt_cmpR op_eq (pe_op o_mod (pv 0) pe_int) pe_int (nomark _))
    (pss_one (ps_ret (pe_op o_mod (pe_op o_div (pv 0) pe_int) (pv 1))))
    pss_nil)
  (pss_cons (ps_if (pt_cmpR op_eq (pe_op o_mod (pv 0) pe_int) pe_int (nomark _))
    (pss_one (ps_ret (pe_op o_mod (pe_op o_div (pv 0) pe_int) (pe_callB (c_min2 rfl) (by rfl) T.z_min (by decide +kernel) (pa_cons (pv 1) (pa_cons pe_int pa_nil))))))
    pss_nil)
  (pss_cons (ps_if (pt_cmpR op_eq (pe_op o_mod (pv 0) pe_int) pe_int (nomark _))
    (pss_one (ps_ret (pe_op o_sub (pe_op o_sub (pv 1) pe_int) (pe_op o_mod (pe_op o_div (pv 0) pe_int) (pe_callB (c_min2 rfl) (by rfl) T.z_min (by decide +kernel) (pa_cons (pv 1) (pa_cons pe_int pa_nil)))))))
    pss_nil)
  (pss_one (ps_ret (pe_op o_mod (pe_op o_mul (pe_op o_div (pv 0) pe_int) pe_int) (pv 1))))))), ?_⟩
  walk_at "go"
  refine g_ite (fun _ => ?_) (fun _ => ?_)
  · walk_at "go"
    exact k _ (Int.emod_nonneg _ (by omega)) (Int.emod_lt_of_pos _ l1)
  walk_at "go"
  refine g_ite (fun _ => ?_) (fun _ => ?_)
  · walk_at "go"
    have := Int.emod_lt_of_pos (c / 4) m1
    exact k _ (Int.emod_nonneg _ (by omega)) (by omega)
  walk_at "go"
  refine g_ite (fun _ => ?_) (fun _ => ?_)
  · walk_at "go"
    have := Int.emod_lt_of_pos (c / 4) m1
    have := Int.emod_nonneg (c / 4) (show min lim 30 ≠ 0 by omega)
    exact k _ (by omega) (by omega)
  walk_at "go"
  refine g_mul (.inr (by decide)) ?_
  walk_at "go"
  exact k _ (Int.emod_nonneg _ (by omega)) (Int.emod_lt_of_pos _ l1)



end
end Lk

/-! ### a dict that keeps a row's numbers, and the row of its keys in order -/
namespace Lk
open PySem PySem.Spec PyProof.Rows L2
def nSortD : List V → Hp → VK → Prop := fun xs H Q => ∃ (d : Addr) (kvs : List (Key × V)) (rs : List Int), xs = [V.ref d] ∧ H d = some (.dK kvs) ∧ kvs.map Prod.fst = rs.map Sum.inl ∧ rs.length ≤ 1000 ∧
  ∀ (out : List Int) (p : Addr), out.Perm rs → out.Pairwise (· ≤ ·) → H p = none → Q (V.ref p) (upd H p (.lst (out.map V.int)))
theorem c_sortD {Y : Cx} (hcm : Y.calm = true) : CallR Y (.builtin "sorted") nSortD := by
  intro pn st σ H ws us Q I rl hyp
  obtain ⟨d, kvs, rs, rfl, hd, hk, hle, nxt⟩ := hyp
  obtain ⟨u, rfl, ru⟩ := vals1 rl
  cases ru
  have hle2 : rs.length ≤ sizeLine := Nat.le_of_lt (small1000 hle)
  obtain ⟨z, lo, prs, rel, dd⟩ := dk_rd I.hok (.of hd)
  obtain ⟨ep, hat⟩ := dd.dictAt
  have hks : prs.map Prod.fst = rs.map Sum.inl := rel.keys.symm.trans hk
  have hln : prs.length = rs.length := by simpa using congrArg List.length hks
  refine Calls.call_function_entry kind_sorted plain_sorted entry_sorted (args_sorted1 _) ?_
  unfold Builtin.«sorted»
  refine wpAny_bind (m := checkCount "sorted" 1 1 _) (wpAny_pure (wpAny_bind (PySem.W.kdu_collect (A := Y.A.in1) (PySem.W.kdl_dict (knd := mixKind Y.prog Y.w) (kvs := prs) (ep := ep) lo) (I.ok.hd hcm) hat (by rw [hln]; exact hle2) ?_)))
  intro hp tk got hkeep hgot
  have hgl : got.toList.length = rs.length := by rw [Array.length_toList, hgot.1, hln]
  have hints : IntsAre got.toList rs := by
    refine ints_each hgl fun j v ev => ?_
    obtain ⟨key, val, h1, h2⟩ := hgot.2 j v (by rw [← Array.getElem?_toList]; exact ev)
    have h3 : (prs.map Prod.fst)[j]? = some key := by rw [List.getElem?_map, h1]; rfl
    rw [hks, List.getElem?_map] at h3
    obtain ⟨y, h4, h5⟩ := Option.map_eq_some_iff.mp h3
    subst h5
    rcases keyIs_shape (show keyIs (Sum.inl y) v = true from h2) with ⟨i, t, q1, q2⟩ | ⟨i, t, q1, q2⟩
    · cases q1
      exact ⟨y, t, h4, q2⟩
    · cases q1
  have J : Inv Y pn σ H { st with heap := hp, toks := tk } := I.kept hkeep
  refine wpAny_bind (wpAny_newList ?_ (by rw [hgl]; exact hle2))
  have there : (hp.push (seqObj "list" got.toList.toArray 0)).get? hp.objs.size = some (seqObj "list" got.toList.toArray 0) := Heap.get?_push_size _ rfl
  show wpAny _ _ _ _ _ ({ st with heap := hp.push (seqObj "list" got.toList.toArray 0), toks := tk } : Shared)
  refine wpAny_bind (wpAny_holding (wpAny_call_entry slot_list_sort ⟨_, there, rfl⟩ entry_list_sort (SrtO.list_sort_ord (s := { st with heap := hp.push (seqObj "list" got.toList.toArray 0), toks := tk }) SrtO.swo_int there (by rw [hgl]; exact hle2) (fun h2 => SrtO.ints_sortable hints h2) ?_) (args_list_sort _)))
  intro out h1 h2
  obtain ⟨k1, k2, k3⟩ := SrtO.ints_out hints h1 h2
  obtain ⟨e', he'⟩ := sortedHeap_at (vs := got.toList) (out := out.toArray) there
  refine ⟨_, rfl, wpAny_pure ⟨_, rfl, ?_⟩⟩
  refine ⟨.ref hp.objs.size, upd H hp.objs.size (.lst ((out.map SrtO.iv).map V.int)), J.laid (t' := tk) (fun b u eb => ?_) (Nat.le_refl _) ⟨by rw [List.length_map, k2.length_eq]; exact hle2, out, e', vals_of_ints k1, he'⟩, rfl, nxt _ _ k2 k3 (J.hok.fresh (Nat.le_refl _))⟩
  have lt := Heap.lt_size eb
  rw [sortedHeap_old (Nat.ne_of_lt lt) (by rw [size_push']; exact Nat.lt_succ_of_lt lt)]
  exact Heap.get?_push_of_some _ eb
/-- the dict's keys, in their order -/
def DR (H : Hp) (d : Addr) (rs : List Int) : Prop := ∃ kvs : List (Key × V), H d = some (.dK kvs) ∧ kvs.map Prod.fst = rs.map Sum.inl
theorem DR.new {H : Hp} {d : Addr} (e : H d = some (.dK [])) : DR H d [] := ⟨[], e, rfl⟩
theorem DR.at {H H' : Hp} {d : Addr} {rs : List Int} (x : DR H d rs) (e : H' d = H d) : DR H' d rs := by
  obtain ⟨kvs, h1, h2⟩ := x
  exact ⟨kvs, e.trans h1, h2⟩
theorem DR.same {H H' : Hp} {d : Addr} {rs : List Int} (x : DR H d rs) (s : Same H H') : DR H' d rs := by
  obtain ⟨kvs, h1, h2⟩ := x
  exact ⟨kvs, s _ _ h1, h2⟩
theorem DR.keep {L : LS} {p : Addr} {H H' : Hp} {d : Addr} {rs : List Int} (x : DR H d rs) (s : Keeps L p H H') (n : ¬ L.own p d) : DR H' d rs := by
  obtain ⟨kvs, h1, h2⟩ := x
  exact ⟨kvs, s _ _ h1 n, h2⟩
theorem keys_any {kvs : List (Key × V)} {rs : List Int} (h : kvs.map Prod.fst = rs.map Sum.inl) (k : Int) : (valV kvs (Sum.inl k : Key)).isSome = decide (k ∈ rs) := by
  rw [← valV_any]
  have : (kvs.any fun kv => decide (kv.1 = (Sum.inl k : Key))) = (kvs.map Prod.fst).any fun q => decide (q = (Sum.inl k : Key)) := by rw [List.any_map]; rfl
  rw [this, h, List.any_map]
  by_cases q : k ∈ rs
  · rw [decide_eq_true q, List.any_eq_true]
    exact ⟨k, q, decide_eq_true rfl⟩
  · rw [decide_eq_false q, List.any_eq_false]
    intro x hx e
    have := of_decide_eq_true e
    exact q (Sum.inl.inj this ▸ hx)
section
variable {H H' : Hp} {Q : VK} {d : Addr} {rs S : List Int} {k : Int} {v : V} {D : Ends} {σ : L2.St}
theorem g_rdIn (x : DR H d rs) (h : Q (.bl (decide (k ∈ rs))) H) : dIn (.int k) (.ref d) H Q := by
  obtain ⟨kvs, h1, h2⟩ := x
  exact g_in h1 (by rw [keys_any h2]; exact h)
theorem g_rdNin (x : DR H d rs) (h : Q (.bl (!decide (k ∈ rs))) H) : dNotIn (.int k) (.ref d) H Q := by
  obtain ⟨kvs, h1, h2⟩ := x
  exact g_nin h1 (by rw [keys_any h2]; exact h)
theorem DR.le (x : DR H d rs) : ∃ kvs : List (Key × V), H d = some (.dK kvs) ∧ kvs.length = rs.length := by
  obtain ⟨kvs, h1, h2⟩ := x
  exact ⟨kvs, h1, by simpa using congrArg List.length h2⟩
theorem g_rdLen (x : DR H d rs) (h : Q (.int rs.length) H) : nLenD [.ref d] H Q := by
  obtain ⟨kvs, h1, h2⟩ := x.le
  exact g_lenD h1 (by rw [h2]; exact h)
theorem g_rdPut (x : DR H d rs) (hk : k ∉ rs) (hl : rs.length ≤ 900) (h : ∀ H', But d H H' → DR H' d (rs ++ [k]) → D.nx σ H') : dPut D σ v (.ref d) (.int k) H := by
  obtain ⟨kvs, h1, h2⟩ := x
  have len : kvs.length = rs.length := by simpa using congrArg List.length h2
  refine ⟨d, _, rfl, DPut.k (k := Sum.inl k) h1 (small1000 (by omega)), h _ (fun b hb => upd_ne hb) ⟨_, upd_same, ?_⟩⟩
  have e : (kvs.any fun kv => decide (kv.1 = (Sum.inl k : Key))) = false := by
    rw [valV_any, keys_any h2, decide_eq_false hk]
  unfold putK
  rw [if_neg (by rw [e]; decide), List.map_append, List.map_append, h2]
  rfl
theorem drop_keys {kvs : List (Key × V)} {rs : List Int} (h : kvs.map Prod.fst = rs.map Sum.inl) (nd : rs.Nodup) (k : Int) : (dropK kvs (Sum.inl k : Key)).map Prod.fst = (rs.filter fun z => decide (z ≠ k)).map Sum.inl := by
  induction kvs generalizing rs with
  | nil =>
    cases rs with
    | nil => rfl
    | cons a r => cases h
  | cons q t ih =>
    cases rs with
    | nil => cases h
    | cons a r =>
      obtain ⟨h1, h2⟩ := List.cons.inj h
      obtain ⟨n1, n2⟩ := List.nodup_cons.mp nd
      have h1 : q.1 = Sum.inl a := h1
      by_cases e : a = k
      · subst e
        rw [dropK_pos h1, ih h2 n2, List.filter_cons, if_neg (by simp)]
      · rw [dropK_neg (by rw [h1]; exact fun q => e (Sum.inl.inj q)), List.filter_cons, if_pos (decide_eq_true e), List.map_cons, List.map_cons, ih h2 n2, h1]
theorem g_rdPop {i : Nat} (x : DR H d rs) (nd : rs.Nodup) (hk : k ∈ rs) (ek : σ[i]? = some (some (.int k))) (h : ∀ v H', But d H H' → DR H' d (rs.filter fun z => decide (z ≠ k)) → Q v H') : dPop0 (tVar i) σ (.ref d) H Q := by
  obtain ⟨kvs, h1, h2⟩ := x
  have e := keys_any h2 k
  rw [decide_eq_true hk] at e
  obtain ⟨v, hv⟩ := Option.isSome_iff_exists.mp e
  exact ⟨d, rfl, .inl ⟨kvs, .inl h1⟩, .int k, ek, kvs, Sum.inl k, v, h1, rfl, hv, h v _ (fun b hb => upd_ne hb) ⟨_, upd_same, drop_keys h2 nd k⟩⟩
theorem g_rdList (x : DR H d rs) (hl : rs.length ≤ 900) (q : ∀ p H', H p = none → Same H H' → H' p = some (.lst (rs.map V.int)) → Q (.ref p) H') : rListD [.ref d] H Q := by
  obtain ⟨kvs, h1, h2⟩ := x
  refine ⟨d, kvs, rfl, h1, fun p np => ?_⟩
  have e : (kvs.map fun kv => kV kv.1) = rs.map V.int := by
    have := congrArg (List.map kV) h2
    rw [List.map_map, List.map_map] at this
    exact this
  rw [e]
  exact q p _ np (same_new np) upd_same
theorem g_rdSorted (x : DR H d rs) (hl : rs.length ≤ 1000) (ro : RowOf rs S) (q : ∀ p H', H p = none → Same H H' → H' p = some (.lst (S.map V.int)) → Q (.ref p) H') : nSortD [.ref d] H Q := by
  obtain ⟨kvs, h1, h2⟩ := x
  refine ⟨d, kvs, rs, rfl, h1, h2, hl, fun out p hp ho np => ?_⟩
  have nd' : out.Nodup := hp.nodup_iff.mpr ro.nd
  have srt : Sk.Srt out := (ho.and (List.nodup_iff_pairwise_ne.mp nd')).imp fun ⟨h1, h2⟩ => by omega
  obtain rfl : out = S := Sk.srt_ext srt ro.srt fun x => (hp.mem_iff).trans (ro.mem x)
  exact q p _ np (same_new np) upd_same
end
def dEnum (K : PySem.W.Frag) (vs : List V) (H1 : Hp) (R : It → Hp → Prop) : Prop := ∃ (a : Addr) (xs : List V), vs = [.ref a] ∧ SqL K H1 a xs ∧ R (Ite K a) H1
def nEnum (K : PySem.W.Frag) (tA : TA) : TI := fun σ H R => tA σ H fun vs H1 => dEnum K vs H1 R
theorem k_enum {X : Cx} {K : PySem.W.Frag} (eK : X.K = K) {e : Expr} {tA : TA} {p pos tpos : Pos} {es : List Expr} {kk : Nat} (hg : Gl X "enumerate") (hm : X.mg "enumerate" = none) (ha : PA X [e] tA) (hs : starEach [e] X.env = [(false, eval e X.env)] := by rfl) : PI X (.Tuple es kk tpos) (.Call (.Name "enumerate" p) [e] [] pos) (nEnum K tA) := eK ▸ pi_enum hg hm ha hs
theorem g_enum0 {K : PySem.W.Frag} {tA : TA} {σ : L2.St} {H : Hp} {R : It → Hp → Prop} (h : tA σ H fun vs H1 => dEnum K vs H1 R) : nEnum K tA σ H R := h
theorem g_enum {K : PySem.W.Frag} {H : Hp} {R : It → Hp → Prop} {a : Addr} {xs : List V} (hs : SqL K H a xs) (h : R (Ite K a) H) : dEnum K [.ref a] H R := ⟨a, xs, rfl, hs, h⟩
theorem g_sl0 {r : V → Option Int → Option Int → Hp → VK → Prop} {te : TE} {tl th : TO} {σ : L2.St} {H : Hp} {Q : VK} (h : te σ H fun x H1 => tl σ H1 fun l H2 => th σ H2 fun u H3 => r x l u H3 Q) : tSl r te tl th σ H Q := h
theorem g_part {σ : L2.St} {H : Hp} {i : Int} {Q : Option Int → Hp → Prop} (h : Q (some i) H) : tPart (tC (.int i)) σ H Q := ⟨i, rfl, h⟩
theorem g_noPart {σ : L2.St} {H : Hp} {Q : Option Int → Hp → Prop} (h : Q none H) : tNoPart σ H Q := h
theorem g_slice {K : PySem.W.Frag} {H : Hp} {Q : VK} {a : Addr} {ns : List Int} {lo hi : Option Int} (hs : SqL K H a (ns.map V.int)) (q : ∀ (p : Addr) (H' : Hp) (ms : List Int), H p = none → Same H H' → ms.length ≤ ns.length → H' p = some (.lst (ms.map V.int)) → Q (.ref p) H') : rSlL K (.ref a) lo hi H Q :=
  ⟨a, _, rfl, hs, fun p hp => q p _ ((ns.drop (HT.sIx (ns.map V.int).length 0 lo)).take (HT.sIx (ns.map V.int).length (ns.map V.int).length hi - HT.sIx (ns.map V.int).length 0 lo)) hp (same_new hp) (by rw [List.length_take, List.length_drop]; omega) (by
    rw [upd_same]
    unfold cutV
    rw [List.map_take, List.map_drop])⟩
theorem g_clear0 {K : PySem.W.Frag} {T : String} {r : V → List V → Hp → VK → Prop} {to : TE} {σ : L2.St} {H : Hp} {Q : VK} (h : to σ H fun x H1 => tyV K T x H1 ∧ r x [] H1 Q) : tBM0 K T r to σ H Q := h
theorem g_clear {K : PySem.W.Frag} {H : Hp} {Q : VK} {a : Addr} {xs : List V} (e : H a = some (.lst xs)) (q : ∀ H', But a H H' → H' a = some (.lst []) → Q .non H') : tyV K "list" (.ref a) H ∧ rClear (.ref a) [] H Q :=
  ⟨ty_lst e, a, xs, rfl, rfl, e, q _ (fun b hb => upd_ne hb) upd_same⟩
/-- [f(x) for x in row], f telling True -/
theorem g_lcT {K : PySem.W.Frag} {H1 : Hp} {Q : VK} {a : Addr} {S : List Int} {j : Nat} {vs : List Nat} {σ : L2.St} {te : TE} (hq : SqL K H1 a (S.map V.int)) (hl : S.length ≤ 1000)
    (hw : ∀ x : V, wipe ((wipe σ vs).set j (some x)) vs = wipe σ vs)
    (ht : ∀ (x : Int) (H' : Hp) (R : VK), R (.bl true) H' → te ((wipe σ vs).set j (some (.int x))) H' R)
    (hd : ∀ D H', H1 D = none → Same H1 H' → H' D = some (.lst ((List.replicate S.length true).map V.bl)) → Q (.ref D) H') : dLc (gName j) tYes te vs σ (Itl K a) H1 Q := by
  refine g_lcL hq (fun i => (List.replicate i true).map V.bl) rfl (fun D i x H' hD hi s3 e3 => ?_) (fun D H' hD s3 e3 => ?_)
  · rw [List.getElem?_map] at hi
    obtain ⟨z, hz, rfl⟩ := Option.map_eq_some_iff.mp hi
    have := Sk.lt_of_get hz
    refine g_name _ ⟨hw _, g_yes ?_⟩
    rw [if_pos rfl]
    refine ht z H' _ (g_add1 hD s3 e3 (by rw [List.length_map, List.length_replicate]; omega) ?_)
    rw [List.replicate_succ', List.map_append]
    rfl
  · rw [List.length_map] at e3
    exact hd D H' hD s3 e3
def dRng3 (vs : List V) (H1 : Hp) (R : It → Hp → Prop) : Prop := ∃ (i j c : Int) (n : Nat), vs = [.int i, .int j, .int c] ∧ RgC i j c n ∧ R (Itc i c n) H1
theorem g_rng3 {tA : TA} {σ : L2.St} {H : Hp} {R : It → Hp → Prop} (h : tA σ H fun vs H1 => dRng3 vs H1 R) : iRng3 tA σ H R := h
theorem RowOf.del {rs S : List Int} (h : RowOf rs S) (k : Int) : RowOf (rs.filter fun z => decide (z ≠ k)) (Sk.del S k) where
  nd := h.nd.filter _
  srt := Sk.srt_del h.srt k
  mem := fun x => by
    rw [List.mem_filter, h.mem x, Sk.mem_del, decide_eq_true_eq]
end Lk

/-! ### what a deed changes, level by level -/
namespace Lk
open PySem PySem.Spec PyProof.Rows L2
theorem lv_1 {S : List Int} : Sk.lv 1 S = S := by
  show S.filter _ = S
  exact List.filter_eq_self.mpr fun z hz => decide_eq_true (st_one.mpr hz)
/-- on one level: who came, who went -/
structure Ch (U U' : List Int) (c g : Option Int) : Prop where
  nn : ¬ (c = none ∧ g = none)
  gone : ∀ x, g = some x → x ∈ U
  came : ∀ y, c = some y → y ∉ U
  mem : ∀ k, k ∈ U' ↔ c = some k ∨ (k ∈ U ∧ g ≠ some k)
/-- a number put in, or taken out, and what is told of it -/
def Dd (L : LS) (S S' : List Int) (xs : List (List V)) : Prop :=
  (∃ n, n ∉ S ∧ 0 ≤ n ∧ n < L.w ^ L.h ∧ S' = Sk.ins S n ∧ xs = putT L S n (L.h + 1)) ∨ (∃ n, n ∈ S ∧ S' = Sk.del S n ∧ xs = takeT L S n (L.h + 1))
theorem alk_iff {c n k : Int} {o : Option Int} : alk c n o = some k ↔ o = some k ∧ n / c = k / c := by
  cases o with
  | none => exact ⟨fun e => (nomatch e), fun e => (nomatch e.1)⟩
  | some a =>
    show (if n / c = a / c then some a else none) = some k ↔ _
    constructor
    · intro e
      split at e
      · rename_i q; cases e; exact ⟨rfl, q⟩
      · cases e
    · rintro ⟨e, q⟩
      cases e
      rw [if_pos q]
theorem dd_ch {L : LS} {S S' : List Int} {xs : List (List V)} (ok : LOk L) (hs : Sk.Srt S) (d : Dd L S S' xs) : ∃ (q : Nat → Bool) (c g : Nat → Option Int),
    xs = (((List.range (L.h + 1)).filter q).map fun l : Nat => [V.int (l : Int), ov (c l), ov (g l)]) ∧
    (∀ l, l ≤ L.h → q l = true → Ch (Sk.lv (L.w ^ l) S) (Sk.lv (L.w ^ l) S') (c l) (g l)) ∧ ∀ l, l ≤ L.h → q l = false → Sk.lv (L.w ^ l) S' = Sk.lv (L.w ^ l) S := by
  rcases d with ⟨n, hn, _, _, rfl, rfl⟩ | ⟨n, hn, rfl, rfl⟩
  · refine ⟨fun l => decide (Sk.St (L.w ^ l) (Sk.ins S n) n), fun _ => some n, fun l => alk (L.w ^ l) n (Sk.abv S n), rfl, fun l hl e => ?_, fun l hl e => ?_⟩
    · have hc := (pow_ok ok hl).1
      have st := of_decide_eq_true e
      refine ⟨fun z => (nomatch z.1), fun x hx => ?_, fun y hy q => ?_, fun k => ?_⟩
      · obtain ⟨h1, h2⟩ := alk_iff.mp hx
        exact Sk.lv_mem.mpr (Sk.alk_in hc hs hn st h1 h2)
      · cases hy; exact hn (Sk.lv_mem.mp q).1
      · rw [Sk.lv_put hc hs hn st]
        constructor
        · rintro (rfl | ⟨h1, h2⟩)
          · exact .inl rfl
          · exact .inr ⟨h1, fun z => h2 (alk_iff.mp z)⟩
        · rintro (h | ⟨h1, h2⟩)
          · cases h; exact .inl rfl
          · exact .inr ⟨h1, fun z => h2 (alk_iff.mpr z)⟩
    · exact Sk.lv_stay (pow_ok ok hl).1 hs hn (of_decide_eq_false e)
  · have hU := Sk.srt_del hs n
    have nU : n ∉ Sk.del S n := fun q => (Sk.mem_del.mp q).2 rfl
    have eS := Sk.ins_del hs hn
    have ea : Sk.abv S n = Sk.abv (Sk.del S n) n := by
      have h2 := congrArg (fun z => Sk.abv z n) eS
      rw [← h2]
      exact Sk.abv_ins (c := 1) (by decide) hU nU
    refine ⟨fun l => decide (Sk.St (L.w ^ l) S n), fun l => alk (L.w ^ l) n (Sk.abv S n), fun _ => some n, rfl, fun l hl e => ?_, fun l hl e => ?_⟩
    · have hc := (pow_ok ok hl).1
      have st := of_decide_eq_true e
      rw [ea]
      have st' : Sk.St (L.w ^ l) (Sk.ins (Sk.del S n) n) n := by rw [eS]; exact st
      have lp : ∀ {k : Int}, k ∈ Sk.lv (L.w ^ l) S ↔ k = n ∨ (k ∈ Sk.lv (L.w ^ l) (Sk.del S n) ∧ ¬ (Sk.abv (Sk.del S n) n = some k ∧ n / L.w ^ l = k / L.w ^ l)) := fun {k} => by
        have := Sk.lv_put (k := k) hc hU nU st'
        rw [eS] at this
        exact this
      refine ⟨fun z => (nomatch z.2), fun x hx => ?_, fun y hy q => ?_, fun k => ?_⟩
      · cases hx; exact Sk.lv_mem.mpr st
      · have hy := alk_iff.mp hy
        rcases lp.mp q with q | q
        · have := ((Sk.abv_some hU).mp hy.1).2.1
          omega
        · exact q.2 hy
      · constructor
        · intro hk
          by_cases q : alk (L.w ^ l) n (Sk.abv (Sk.del S n) n) = some k
          · exact .inl q
          · refine .inr ⟨lp.mpr (.inr ⟨hk, fun z => q (alk_iff.mpr z)⟩), fun z => ?_⟩
            cases z
            exact nU (Sk.lv_mem.mp hk).1
        · rintro (h | ⟨h1, h2⟩)
          · obtain ⟨z1, z2⟩ := alk_iff.mp h
            exact Sk.lv_mem.mpr (Sk.alk_in hc hU nU st' z1 z2)
          · rcases lp.mp h1 with q | q
            · exact absurd (by rw [q]) h2
            · exact q.1
    · have st := of_decide_eq_false e
      have := Sk.lv_stay (pow_ok ok hl).1 hU nU (by rw [eS]; exact st)
      rw [eS] at this
      exact this.symm
theorem dd_plain {L : LS} {S S' : List Int} {xs : List (List V)} (d : Dd L S S' xs) : ∀ x ∈ xs, ∀ v ∈ x, plainV v = true := by
  rcases d with ⟨n, _, _, _, _, rfl⟩ | ⟨n, _, _, rfl⟩ <;>
  · intro x hx v hv
    obtain ⟨l, _, rfl⟩ := List.mem_map.mp hx
    simp only [List.mem_cons, List.not_mem_nil, or_false] at hv
    rcases hv with rfl | rfl | rfl
    all_goals first | rfl | exact plain_ov _
/-- the dicts of the levels, by hand -/
def LvD (H : Hp) (h : Nat) (ds : Nat → Addr) (T : Nat → List Int) : Prop := ∀ l, l ≤ h → ∃ rs, DR H (ds l) rs ∧ RowOf rs (T l)
theorem LvD.at {H H' : Hp} {h : Nat} {ds : Nat → Addr} {T : Nat → List Int} (x : LvD H h ds T) (e : ∀ l, l ≤ h → H' (ds l) = H (ds l)) : LvD H' h ds T := fun l hl => by
  obtain ⟨rs, h1, h2⟩ := x l hl
  exact ⟨rs, h1.at (e l hl), h2⟩
theorem LvD.same {H H' : Hp} {h : Nat} {ds : Nat → Addr} {T : Nat → List Int} (x : LvD H h ds T) (s : Same H H') : LvD H' h ds T := fun l hl => by
  obtain ⟨rs, h1, h2⟩ := x l hl
  exact ⟨rs, h1.same s, h2⟩
theorem LvD.to {H : Hp} {h : Nat} {ds : Nat → Addr} {T T' : Nat → List Int} (x : LvD H h ds T) (e : ∀ l, l ≤ h → T l = T' l) : LvD H h ds T' := fun l hl => by
  rw [← e l hl]
  exact x l hl
theorem LvD.put {H H' : Hp} {h l : Nat} {ds : Nat → Addr} {T : Nat → List Int} {rs U : List Int} (x : LvD H h ds T) (hl : l ≤ h) (inj : ∀ i j, i ≤ h → j ≤ h → ds i = ds j → i = j) (b : But (ds l) H H') (d : DR H' (ds l) rs) (ro : RowOf rs U) : LvD H' h ds fun j => if j = l then U else T j := fun j hj => by
  show ∃ rs, DR H' (ds j) rs ∧ RowOf rs (if j = l then U else T j)
  by_cases e : j = l
  · subst e
    rw [if_pos rfl]
    exact ⟨rs, d, ro⟩
  · rw [if_neg e]
    obtain ⟨rs, h1, h2⟩ := x j hj
    exact ⟨rs, h1.at (b _ fun q => e (inj j l hj hl q)), h2⟩
theorem LvD.dict {H : Hp} {h : Nat} {ds : Nat → Addr} {T : Nat → List Int} (x : LvD H h ds T) {l : Nat} (hl : l ≤ h) : ∃ kvs, H (ds l) = some (.dK kvs) := by
  obtain ⟨rs, ⟨kvs, h1, _⟩, _⟩ := x l hl
  exact ⟨kvs, h1⟩
/-- d.pop(k), k any expression's value -/
def dPopV (d : Addr) (y : V) (H2 : Hp) (Q : VK) : Prop := ∃ kvs k v, H2 d = some (.dK kvs) ∧ y = kV k ∧ valV kvs k = some v ∧ Q v (upd H2 d (.dK (dropK kvs k)))
theorem g_rdPop0 {H : Hp} {d : Addr} {rs : List Int} {σ : L2.St} {ty : TE} {Q : VK} (x : DR H d rs) (h : ty σ H fun y H2 => dPopV d y H2 Q) : dPop0 ty σ (.ref d) H Q := by
  obtain ⟨kvs, h1, _⟩ := x
  exact ⟨d, rfl, .inl ⟨kvs, .inl h1⟩, h⟩
theorem g_rdPopV {H : Hp} {d : Addr} {rs : List Int} {k : Int} {Q : VK} (x : DR H d rs) (nd : rs.Nodup) (hk : k ∈ rs) (h : ∀ v H', But d H H' → DR H' d (rs.filter fun z => decide (z ≠ k)) → Q v H') : dPopV d (.int k) H Q := by
  obtain ⟨kvs, h1, h2⟩ := x
  have e := keys_any h2 k
  rw [decide_eq_true hk] at e
  obtain ⟨v, hv⟩ := Option.isSome_iff_exists.mp e
  exact ⟨kvs, Sum.inl k, v, h1, rfl, hv, h v _ (fun b hb => upd_ne hb) ⟨_, upd_same, drop_keys h2 nd k⟩⟩
theorem g_eqO {H : Hp} {Q : VK} {i : Int} {o : Option Int} (h : Q (.bl (decide (o = some i))) H) : rEq (.int i) (ov o) H Q := ⟨by cases o <;> rfl, by
  rw [show decide (V.int i = ov o) = decide (o = some i) by
    rw [decide_eq_decide]
    cases o with
    | none => exact ⟨fun z => (nomatch z), fun z => (nomatch z)⟩
    | some j => exact ⟨fun z => by cases z; rfl, fun z => by cases z; rfl⟩]
  exact h⟩
/-- lists of tuples stay where a ladder changes -/
theorem TupL.keep {C p q : Addr} {L : LS} {le : Option Int} {many : Int} {T : Nat → List Int} {H H' : Hp} {xs : List (List V)} (t : TupL H q xs) (x : LadX C H p L le many T) (nq : ¬ L.own p q) (k : Keeps L p H H') : TupL H' q xs := by
  obtain ⟨as, h1, h2⟩ := t
  refine ⟨as, k _ _ h1 nq, Paired.mapP h2 fun a y e => k _ _ e fun z => ?_⟩
  rcases z with rfl | rfl | rfl | ⟨l, hl, rfl | rfl⟩
  · have := x.ob; rw [e] at this; cases this
  · have := x.nl; rw [e] at this; cases this
  · have := x.gl; rw [e] at this; cases this
  · obtain ⟨kvs, h, _⟩ := x.dn l hl; rw [e] at h; cases h
  · obtain ⟨kvs, h, _⟩ := x.dg l hl; rw [e] at h; cases h
theorem TupL.dict {d q : Addr} {kvs : List (Key × V)} {H H' : Hp} {xs : List (List V)} (t : TupL H q xs) (e : H d = some (.dK kvs)) (b : But d H H') : TupL H' q xs := by
  obtain ⟨as, h1, h2⟩ := t
  exact ⟨as, (b _ (ne_of h1 e (by intro z; cases z))).trans h1, Paired.mapP h2 fun a y ea => (b _ (ne_of ea e (by intro z; cases z))).trans ea⟩
/-- a list of tuples, all but one list having stayed -/
theorem TupL.lst {d q : Addr} {H H' : Hp} {zs : List V} {xs : List (List V)} (t : TupL H q xs) (e : H d = some (.lst zs)) (ne : q ≠ d) (b : ∀ c, c ≠ d → H' c = H c) : TupL H' q xs := by
  obtain ⟨as, h1, h2⟩ := t
  exact ⟨as, (b _ ne).trans h1, Paired.mapP h2 fun a y ea => (b _ (ne_of ea e (by intro z; cases z))).trans ea⟩
theorem tupl_copy {p : Addr} {H H' : Hp} {as : List Addr} {xs : List (List V)} (s : Same H H') (h2 : Paired (fun a x => H a = some (.tup x)) as xs) (e : H' p = some (.lst (as.map V.ref))) : TupL H' p xs := ⟨as, e, paired_same s h2⟩
end Lk

/-! ### a comprehension over a dict's keys; keys put in, whether there or not -/
namespace Lk
open PySem PySem.Spec PyProof.Rows L2
def addK (rs : List Int) (k : Int) : List Int := if k ∈ rs then rs else rs ++ [k]
theorem addK_mem {rs : List Int} {k x : Int} : x ∈ addK rs k ↔ x ∈ rs ∨ x = k := by
  unfold addK
  split
  · rename_i h
    exact ⟨.inl, fun z => z.elim id fun z => z ▸ h⟩
  · rw [List.mem_append, List.mem_singleton]
theorem addK_len {rs : List Int} {k : Int} : (addK rs k).length ≤ rs.length + 1 := by
  unfold addK
  split
  · omega
  · rw [List.length_append]; exact Nat.le_refl _
section
variable {K : PySem.W.Frag} {H H' H1 : Hp} {Q : VK} {d : Addr} {rs S : List Int} {k : Int} {v : V} {D : Ends} {σ : L2.St}
theorem g_rdPutA (x : DR H d rs) (hl : rs.length ≤ 900) (h : ∀ H', But d H H' → DR H' d (addK rs k) → D.nx σ H') : dPut D σ v (.ref d) (.int k) H := by
  by_cases hk : k ∈ rs
  · obtain ⟨kvs, h1, h2⟩ := x
    have len : kvs.length = rs.length := by simpa using congrArg List.length h2
    refine ⟨d, _, rfl, DPut.k (k := Sum.inl k) h1 (small1000 (by omega)), h _ (fun b hb => upd_ne hb) ⟨_, upd_same, ?_⟩⟩
    have e : (kvs.any fun kv => decide (kv.1 = (Sum.inl k : Key))) = true := by
      rw [valV_any, keys_any h2, decide_eq_true hk]
    unfold putK addK
    rw [if_pos e, if_pos hk, List.map_map, ← h2]
    refine List.map_congr_left fun q _ => ?_
    show (if q.1 = Sum.inl k then (q.1, v) else q).1 = q.1
    split <;> rfl
  · refine g_rdPut x hk hl fun H' b y => h H' b ?_
    unfold addK
    rw [if_neg hk]
    exact y
def dKeys (x : V) (H1 : Hp) (R : It → Hp → Prop) : Prop := ∃ d o, x = .ref d ∧ ((∃ kvs, H1 d = some (.frz o (.dK kvs)) ∧ R (Itk d o kvs) H1) ∨ ∃ kvs, H1 d = some (.frz o (.dT kvs)) ∧ R (Itkt d o kvs) H1)
theorem g_keys0 {td : TE} {R : It → Hp → Prop} (h : td σ H fun x H1 => dKeys x H1 R) : iKeys td σ H R := h
theorem g_keys {o : Obj} {kvs : List (Key × V)} {R : It → Hp → Prop} (e : H d = some (.frz o (.dK kvs))) (h : R (Itk d o kvs) H) : dKeys (.ref d) H R := ⟨d, o, rfl, .inl ⟨kvs, e, h⟩⟩
/-- [x for x in d if ..], d locked -/
theorem g_lcFK {o : Obj} {kvs : List (Key × V)} {p : Int → Bool} {j : Nat} {vs : List Nat} {σ : L2.St} {tt : TT} (hd0 : H1 d = some (.frz o (.dK kvs))) (hk : kvs.map Prod.fst = S.map Sum.inl) (hl : S.length ≤ 1000)
    (hw : ∀ x : V, wipe ((wipe σ vs).set j (some x)) vs = wipe σ vs) (hj : ∀ x : V, ((wipe σ vs).set j (some x))[j]? = some (some x))
    (ht : ∀ (x : Int) (H' : Hp) (R : Bool → Hp → Prop), x ∈ S → Same H1 H' → R (p x) H' → tt ((wipe σ vs).set j (some (.int x))) H' R)
    (hd : ∀ D H', H1 D = none → Same H1 H' → H' D = some (.lst ((S.filter p).map V.int)) → Q (.ref D) H') : dLc (gName j) tt (tVar j) vs σ (Itk d o kvs) H1 Q := fun D hD => by
  have len : kvs.length = S.length := by simpa using congrArg List.length hk
  refine lc_it walk_keys (fun i H' => Same H1 H' ∧ H' D = some (.lst (((S.take i).filter p).map V.int))) ⟨same_new hD, upd_same⟩ (fun i H' _ q => q.1 _ _ hd0) (fun i x H' H2 hi ⟨s3, e3⟩ ⟨eH, kk, v, hx, ex⟩ => ?_) fun H' ⟨s3, e3⟩ => ?_
  · subst eH
    have hz : ∃ z, S[i]? = some z ∧ x = .int z := by
      have h3 : (kvs.map Prod.fst)[i]? = some kk := by rw [List.getElem?_map, hx]; rfl
      rw [hk, List.getElem?_map] at h3
      obtain ⟨z, h4, h5⟩ := Option.map_eq_some_iff.mp h3
      subst h5
      exact ⟨z, h4, ex⟩
    obtain ⟨z, hz, rfl⟩ := hz
    have eo : (((S.take (i + 1)).filter p).map V.int) = ((S.take i).filter p).map V.int ++ (if p z = true then [V.int z] else []) := by
      rw [Sk.take_snoc hz, List.filter_append, List.map_append]
      by_cases q : p z = true
      · rw [if_pos q, List.filter_cons, if_pos q]; rfl
      · rw [if_neg q, List.filter_cons, if_neg q]; rfl
    refine g_name _ ⟨hw _, ht z H2 _ (List.mem_of_getElem? hz) s3 ?_⟩
    refine g_ite (fun e => ?_) (fun e => ?_)
    · rw [e, if_pos rfl] at eo
      refine g_var (hj _) ⟨_, e3, small1000 ?_, same_mut s3 hD, by rw [upd_same, eo]⟩
      rw [List.length_map]
      have := List.length_filter_le p (S.take i)
      have h2 : (S.take i).length ≤ S.length := by rw [List.length_take]; omega
      omega
    · rw [e, if_neg (by decide), List.append_nil] at eo
      exact ⟨s3, by rw [eo]; exact e3⟩
  · rw [len, List.take_length] at e3
    exact hd D H' hD s3 e3
theorem g_lock {t : TS} {u : HO} (e : H d = some u) (m : Mut (some u)) (h : ∀ od, t ⟨fun σ' H' => H' d = some (.frz od u) ∧ D.nx σ' (upd H' d u), fun v H' => H' d = some (.frz od u) ∧ D.rt v (upd H' d u), fun σ' H' => H' d = some (.frz od u) ∧ D.bk σ' (upd H' d u), fun σ' H' => H' d = some (.frz od u) ∧ D.ct σ' (upd H' d u)⟩ σ (upd H d (.frz od u))) : tLock t D σ H := ⟨d, u, e, m, h⟩
theorem g_sliceM {lo hi : Option Int} {a : Addr} {ns : List Int} (hs : SqL K H a (ns.map V.int)) (q : ∀ (p : Addr) (H' : Hp) (ms : List Int), H p = none → Same H H' → (∀ x ∈ ms, x ∈ ns) → ms.length ≤ ns.length → H' p = some (.lst (ms.map V.int)) → Q (.ref p) H') : rSlL K (.ref a) lo hi H Q :=
  ⟨a, _, rfl, hs, fun p hp => q p _ ((ns.drop (HT.sIx (ns.map V.int).length 0 lo)).take (HT.sIx (ns.map V.int).length (ns.map V.int).length hi - HT.sIx (ns.map V.int).length 0 lo)) hp (same_new hp) (fun x hx => List.mem_of_mem_drop (List.mem_of_mem_take hx)) (by rw [List.length_take, List.length_drop]; omega) (by
    rw [upd_same]
    unfold cutV
    rw [List.map_take, List.map_drop])⟩
end
end Lk

/-! ### slices of a list with a step: xs[lo::c] -/
namespace Lk
open PySem PySem.Spec PyProof.Rows L2
/-- the places that xs[lo::c] takes -/
def stIx (n : Nat) (lo : Option Int) (c : Int) : List Nat := sliceRange (sliceBounds lo none (some c) n).1 (sliceBounds lo none (some c) n).2.1 (sliceBounds lo none (some c) n).2.2
def stV {α : Type} (xs : List α) (lo : Option Int) (c : Int) : List α := (stIx xs.length lo c).filterMap fun j => xs[j]?
theorem picked {α β : Type} {F : α → β → Prop} {xs : List α} {us : List β} (r : Paired F xs us) : ∀ js : List Nat, Paired F (js.filterMap fun j => xs[j]?) (js.filterMap fun j => us[j]?)
  | [] => .nil
  | j :: js => by
    have ih := picked r js
    have hl := paired_len r
    rcases Nat.lt_or_ge j us.length with q | q
    · have e2 : us[j]? = some us[j] := List.getElem?_eq_getElem q
      obtain ⟨x, e1, f⟩ := paired_get r e2
      rw [List.filterMap_cons_some e1, List.filterMap_cons_some e2]
      exact .cons f ih
    · rw [List.filterMap_cons_none (List.getElem?_eq_none (by omega)), List.filterMap_cons_none (List.getElem?_eq_none q)]
      exact ih
/-- by values: the slice is a new list -/
def tStep (K : PySem.W.Frag) (c : Int) (te : TE) (tl : TO) : TE := fun σ H Q => te σ H fun x H1 => tl σ H1 fun lo H2 => ∃ a xs, x = .ref a ∧ SqL K H2 a xs ∧ ∀ p, H2 p = none → Q (.ref p) (upd H2 p (.lst (stV xs lo c)))
theorem k_step {X : Cx} {K : PySem.W.Frag} (eK : X.K = K) {e : Expr} {te : TE} {lo : Option Expr} {tl : TO} {c : Int} {kd : Nat} {p1 p3 pos : Pos} (hc : c ≠ 0) (he : PE X e te) (hl : PO X lo tl) :
    PE X (.Subscript e (.Slice lo none (some (.Constant (.int c) kd p1)) p3) pos) (tStep K c te tl) := by
  subst eK
  refine ⟨fun pn st σ H Q J hyp => ?_⟩
  refine Subscript_ (thn (he.run pn st σ H _ J hyp) fun w t1 ⟨x, Ha, Ja, rx, more⟩ => ?_)
  have cst : PO X (some (.Constant (.int c) kd p1)) (tPart (tC (.int c))) := po_some pe_int
  refine wpAny_Slice (thn (hl.run pn t1 σ Ha _ Ja more) fun vlo t2 ⟨l, Hb, Jb, plo, rest⟩ => ?_)
  obtain ⟨a, xs, ex, hx, nxt⟩ := rest
  subst ex
  cases rx
  refine thn (po_none.run pn t2 σ Hb (fun o G => o = none ∧ G = Hb) Jb ⟨rfl, rfl⟩) fun vhi t3 ⟨o1, Hc, Jc, phi, eo1, eH1⟩ => ?_
  subst eo1 eH1
  refine thn (cst.run pn t3 σ Hc (fun o G => o = some c ∧ G = Hc) Jc ⟨c, rfl, rfl, rfl⟩) fun vst t4 ⟨o2, Hd, Jd, pst, eo2, eH2⟩ => ?_
  subst eo2 eH2
  have Je : Inv X pn σ Hd { t4 with heap := t4.heap.push { cls := .type "slice", data := .fields #[vlo, vhi, vst] } } := Jd.kept (t' := t4.toks) fun _ _ z => Heap.get?_push_of_some _ z
  obtain ⟨items, rel, there, fits⟩ := Je.list hx
  have len := rel.length
  show wpAny (model X.prog X.w) X.A (subscriptTail e (.Slice lo none (some (.Constant (.int c) kd p1)) p3) (.ref a) (.ref t4.heap.objs.size)) (EP X pn σ Q) X.xe { t4 with heap := t4.heap.push { cls := .type "slice", data := .fields #[vlo, vhi, vst] } }
  refine tail_any (ops := [.ref a, .ref t4.heap.objs.size]) there.isList.typeIs PySem.slot_list_getitem.lookup ?_ (by with_unfolding_all rfl)
  refine wpAny_getItem_list_slice there.isList (Heap.IsSliceOf.new _ vlo vhi vst) plo phi pst (fun z => hc (Option.some.inj z)) ?_ (by rw [List.size_toArray]; omega)
  have pk : slicePick items.toArray l none (some c) = ((stIx xs.length l c).filterMap fun j => items[j]?).toArray := by
    unfold slicePick stIx
    rw [List.size_toArray, ← len]
    simp only [List.getElem?_toArray]
  have sz := slicePick_size_le items.toArray l none (some c)
  rw [pk, List.size_toArray, List.size_toArray] at sz
  have pr : Vals (stV xs l c) ((stIx xs.length l c).filterMap fun j => items[j]?) := picked rel _
  have pl := pr.length
  rw [pk]
  refine ⟨.ref _, _, Je.laid (t' := t4.toks) (o := .lst (stV xs l c)) (fun _ _ z => Heap.get?_push_of_some _ z) (Nat.le_refl _) ?_, rfl, nxt _ (Je.hok.fresh (Nat.le_refl _))⟩
  exact ⟨by omega, _, 0, pr, Heap.get?_push_size _ rfl⟩
def dStep (K : PySem.W.Frag) (c : Int) (x : V) (lo : Option Int) (H2 : Hp) (Q : VK) : Prop := ∃ a xs, x = .ref a ∧ SqL K H2 a xs ∧ ∀ p, H2 p = none → Q (.ref p) (upd H2 p (.lst (stV xs lo c)))
theorem g_step0 {K : PySem.W.Frag} {c : Int} {te : TE} {tl : TO} {σ : L2.St} {H : Hp} {Q : VK} (h : te σ H fun x H1 => tl σ H1 fun lo H2 => dStep K c x lo H2 Q) : tStep K c te tl σ H Q := h
theorem stV_map {ns : List Int} {lo : Option Int} {c : Int} : stV (ns.map V.int) lo c = (stV ns lo c).map V.int := by
  unfold stV
  rw [List.length_map, List.map_filterMap]
  refine congrArg (fun f => List.filterMap f _) (funext fun j => ?_)
  rw [List.getElem?_map]
theorem g_stepI {K : PySem.W.Frag} {c : Int} {H : Hp} {Q : VK} {a : Addr} {ns : List Int} {lo : Option Int} (hs : SqL K H a (ns.map V.int)) (q : ∀ p H', H p = none → Same H H' → H' p = some (.lst ((stV ns lo c).map V.int)) → Q (.ref p) H') :
    dStep K c (.ref a) lo H Q :=
  ⟨a, _, rfl, hs, fun p hp => q p _ hp (same_new hp) (by rw [upd_same, stV_map])⟩
/-- where the places begin -/
def stLo (n : Nat) (lo : Option Int) : Nat := match lo with
  | none => 0
  | some i => min i.toNat n
theorem stIx_eq {n : Nat} {lo : Option Int} {c : Int} (hc : 0 < c) (h0 : ∀ i, lo = some i → 0 ≤ i) : stIx n lo c = (List.range (if stLo n lo < n then ((n - stLo n lo : Nat) + c.toNat - 1) / c.toNat else 0)).map fun k => stLo n lo + c.toNat * k := by
  obtain ⟨d, rfl⟩ : ∃ d : Nat, c = (d : Int) := ⟨c.toNat, by omega⟩
  have hd : 0 < d := by omega
  have e1 : (sliceBounds lo none (some (d : Int)) n).1 = (stLo n lo : Int) := by
    unfold sliceBounds stLo
    simp only [Option.getD_some]
    rw [if_pos hc]
    cases lo with
    | none => rfl
    | some i =>
      have := h0 i rfl
      simp only
      rw [if_pos hc, if_neg (show ¬ i < 0 by omega)]
      omega
  have e2 : (sliceBounds lo none (some (d : Int)) n).2.1 = (n : Int) := by
    unfold sliceBounds
    simp only [Option.getD_some]
    rw [if_pos hc]
  have e3 : (sliceBounds lo none (some (d : Int)) n).2.2 = (d : Int) := rfl
  unfold stIx sliceRange
  rw [e1, e2, e3]
  simp only [if_pos hc, Int.toNat_natCast]
  have ec : (if (stLo n lo : Int) < (n : Int) then ((n : Int) - (stLo n lo : Int) + (d : Int) - 1) / (d : Int) else 0).toNat = if stLo n lo < n then ((n - stLo n lo : Nat) + d - 1) / d else 0 := by
    by_cases z : stLo n lo < n
    · rw [if_pos z, if_pos (by omega), show (n : Int) - (stLo n lo : Int) + (d : Int) - 1 = ((n - stLo n lo + d - 1 : Nat) : Int) by omega, ← Int.natCast_ediv, Int.toNat_natCast]
    · rw [if_neg z, if_neg (by omega)]
      rfl
  rw [ec]
  refine List.map_congr_left fun k _ => ?_
  rw [← Int.natCast_mul, ← Int.natCast_add, Int.toNat_natCast]
theorem stIx_srt {n : Nat} {lo : Option Int} {c : Int} (hc : 0 < c) (h0 : ∀ i, lo = some i → 0 ≤ i) : (stIx n lo c).Pairwise (· < ·) := by
  rw [stIx_eq hc h0, List.pairwise_map]
  refine List.pairwise_lt_range.imp fun {i j} h => ?_
  have : c.toNat * i < c.toNat * j := Nat.mul_lt_mul_of_pos_left h (by omega)
  omega
theorem stV_mem {α : Type} {xs : List α} {lo : Option Int} {c : Int} {x : α} (h : x ∈ stV xs lo c) : x ∈ xs := by
  obtain ⟨j, _, e⟩ := List.mem_filterMap.mp h
  exact List.mem_of_getElem? e
theorem stV_nodup {xs : List Int} {lo : Option Int} {c : Int} (hc : 0 < c) (h0 : ∀ i, lo = some i → 0 ≤ i) (nd : xs.Nodup) : (stV xs lo c).Nodup := by
  unfold stV
  refine List.Pairwise.filterMap _ (fun i j hij b eb b' eb' => ?_) (stIx_srt (n := xs.length) (lo := lo) hc h0)
  obtain ⟨h1, rfl⟩ := List.getElem?_eq_some_iff.mp eb
  obtain ⟨h2, rfl⟩ := List.getElem?_eq_some_iff.mp eb'
  exact List.pairwise_iff_getElem.mp (List.nodup_iff_pairwise_ne.mp nd) i j h1 h2 hij
theorem stV_srt {xs : List Int} {lo : Option Int} {c : Int} (hc : 0 < c) (h0 : ∀ i, lo = some i → 0 ≤ i) (hs : Sk.Srt xs) : Sk.Srt (stV xs lo c) := by
  unfold stV
  refine List.Pairwise.filterMap _ (fun i j hij b eb b' eb' => ?_) (stIx_srt (n := xs.length) (lo := lo) hc h0)
  exact Sk.get_lt hs eb eb' hij
/-- of every other one of a row, and of the others -/
theorem st2_mem {n j : Nat} : (j ∈ stIx n none 2 ↔ j < n ∧ j % 2 = 0) ∧ (j ∈ stIx n (some 1) 2 ↔ j < n ∧ j % 2 = 1) := by
  constructor
  · rw [stIx_eq (lo := none) (by decide) (fun i z => nomatch z), List.mem_map]
    show (∃ k, k ∈ List.range (if 0 < n then (n - 0 + 2 - 1) / 2 else 0) ∧ 0 + 2 * k = j) ↔ _
    constructor
    · rintro ⟨k, hk, rfl⟩
      have hk := List.mem_range.mp hk
      split at hk
      · constructor <;> omega
      · omega
    · rintro ⟨h1, h2⟩
      refine ⟨j / 2, List.mem_range.mpr ?_, by omega⟩
      rw [if_pos (by omega)]
      omega
  · rw [stIx_eq (lo := some 1) (by decide) (fun i z => by cases z; decide), List.mem_map]
    show (∃ k, k ∈ List.range (if min 1 n < n then (n - min 1 n + 2 - 1) / 2 else 0) ∧ min 1 n + 2 * k = j) ↔ _
    constructor
    · rintro ⟨k, hk, rfl⟩
      have hk := List.mem_range.mp hk
      split at hk
      · constructor <;> omega
      · omega
    · rintro ⟨h1, h2⟩
      refine ⟨j / 2, List.mem_range.mpr ?_, by omega⟩
      rw [if_pos (by omega)]
      omega
end Lk

namespace Lk
open PySem PySem.Spec PyProof.Rows L2
def spLaw (K : PySem.W.Frag) : Sp := fun vs H Q _ => ∃ (a : Addr) (ns : List Int), vs = [.ref a] ∧ SqL K H a (ns.map V.int) ∧ ns.length ≤ 63 ∧ ∀ H', Q (.bl true) H'
section
variable {P : Program} {w : World} {K : PySem.W.Frag} {mg : Str → Option Value} {base : Heap} {A : Ads}
def sp__law_deed (C : Addr) : Sp := fun vs H Q _ => ∃ (p d g : Addr) (c : Int) (L : LS) (rs gs S : List Int), vs = [.ref p, .ref d, .ref g, .int c, .int (L.w ^ L.h)] ∧ Lad C H p L S ∧ DR H d rs ∧ RowOf rs S ∧ DR H g gs ∧ gs.length ≤ 800 ∧ g ≠ d ∧ S.length ≤ 99 ∧ ¬ L.own p d ∧ ¬ L.own p g ∧
  ∀ H' S' rs' gs', (∀ b o, H b = some o → ¬ L.own p b → b ≠ d → b ≠ g → H' b = some o) → Lad C H' p L S' → DR H' d rs' → RowOf rs' S' → DR H' g gs' → S'.length ≤ S.length + 1 → gs'.length ≤ gs.length + 1 → Q .non H'
theorem ok__law_deed (T : Txt K mg A) : FO P w K mg base 6 A._law_deed ["_law_ladder", "_law_row", "_law_gone", "_law_cell", "_law_limit"] (sp__law_deed A.Ladder) := by
  obtain ⟨fd__law_number, G__law_number, B__law_number⟩ := ok__law_number (P := P) (w := w) (base := base) T
  obtain ⟨fd_take, G_take, B_take⟩ := ok_take (P := P) (w := w) (base := base) T
  obtain ⟨fd_put, G_put, B_put⟩ := ok_put (P := P) (w := w) (base := base) T
  have S := sc__law_deed
  refine FO.mk' T.f__law_deed S b__law_deed (fun vs H Q E h => by obtain ⟨_, _, _, _, _, _, _, _, rfl, _⟩ := h; rfl) (fun cdv Ar outer s H vs Q E hr h => ?_)
  have hu := hu_of hr
  obtain ⟨p, d, g, c, L, rs, gs, S0, rfl, Ld, dr, ro, gr, gl, gd, hl, nod, nog, k⟩ := h
  have X := Ld.toLadX
  have lim := pow_ok Ld.ok (Nat.le_refl L.h)
  have rl := ro.len
  refine ⟨_, (pss_cons (ps_set (i := 5) S.nd rfl (Or.inl rfl) (pe_call G__law_number (hr.mono (by decide)) rfl T.g__law_number T.k__law_number B__law_number .nil passL (pa_cons (pe_op o_div (pv 3) pe_int) (pa_cons (pv 4) pa_nil))))
  (pss_consC (ps_if (PW.pt (pw_and (pt_cmpR op_eq (pe_op o_mod (pv 3) pe_int) pe_int (nomark _)) (pw_and1 (pt_cmpR o_gt (pe_callB c_lenD (by rfl) T.z_len PySem.boot_len (pa_cons (pv 1) pa_nil)) pe_int (nomark _)))))
    (pss_one (ps_set (i := 5) S.nd rfl (Or.inl rfl) (pe_ix (k_ixL (K := K) rfl) (pe_callTy (call_list_dK rfl) (by rfl) T.z_list PyProof.Rows.boot_list (pa_cons (pv 1) pa_nil)) (pe_op o_mod (pe_op o_div (pv 3) pe_int) (pe_callB c_lenD (by rfl) T.z_len PySem.boot_len (pa_cons (pv 1) pa_nil))) (fun _ _ => rfl))))
    pss_nil)
  (pss_one (ps_if (pt_cmp (pc_din hu (pv 5) (pv 1)))
    (pss_cons (ps_expr (pe_dpop1 (pv 1) (pv 5) ⟨rfl, rfl, rfl, rfl⟩))
    (pss_cons (ps_dput hu (pv 2) (pv 5) pe_bl rfl)
    (pss_one (ps_expr (pe_meth (pv 0) T.lt.cl T.m_take G_take (hr.mono (by decide)) B_take .nil (passes_call (takes_of rfl rfl rfl rfl) (fun _ _ _ _ z => z)) (pa_cons (pv 5) pa_nil))))))
    (pss_cons (ps_dput hu (pv 1) (pv 5) pe_bl rfl)
    (pss_one (ps_expr (pe_meth (pv 0) T.lt.cl T.m_put G_put (hr.mono (by decide)) B_put .nil (passes_call (takes_of rfl rfl rfl rfl) (fun _ _ _ _ z => z)) (pa_cons (pv 5) pa_nil))))))))), ?_⟩
  walk_at "gb"
  refine ⟨_, _, rfl, lim.1, Int.le_trans lim.2 (by decide), fun z z0 z1 => ?_⟩
  walk_at "gb"
  refine g_cut (fun σ' H1 => Same H H1 ∧ ∃ n : Int, 0 ≤ n ∧ n < L.w ^ L.h ∧ σ' = [some (.ref p), some (.ref d), some (.ref g), some (.int c), some (.int (L.w ^ L.h)), some (.int n)]) (fun N hN => ?_) ?_
  · walk_at "gb"
    refine g_ite (fun _ => ?_) (fun _ => ?_)
    · walk_at "gb"
      refine g_rdLen dr ?_
      walk_at "gb"
      refine g_ite (fun e => ?_) (fun _ => ?_)
      · have hpos := of_decide_eq_true e
        walk_at "gb"
        refine g_rdList dr (by omega) fun q H1 nq s1 e1 => ?_
        walk_at "gb"
        refine g_rdLen (dr.same s1) ?_
        walk_at "gb"
        generalize ei : c / 3 % (rs.length : Int) = ix
        have i1 : 0 ≤ ix := by rw [← ei]; exact Int.emod_nonneg _ (by omega)
        have i2 : ix < rs.length := by rw [← ei]; exact Int.emod_lt_of_pos _ (by omega)
        obtain ⟨j, rfl⟩ : ∃ j : Nat, ix = (j : Int) := ⟨ix.toNat, by omega⟩
        have hj : j < rs.length := by omega
        refine g_ixL (.of e1) (atI_nat (get_map (List.getElem?_eq_getElem hj))) ?_
        walk_at "gb"
        have hm := (ro.mem _).mp (List.getElem_mem hj)
        exact hN _ _ ⟨s1, _, Ld.lo _ hm, Ld.hi _ hm, rfl⟩
      · walk_at "gb"
        exact hN _ _ ⟨fun _ _ e => e, _, z0, z1, rfl⟩
    · walk_at "gb"
      exact hN _ _ ⟨fun _ _ e => e, _, z0, z1, rfl⟩
  rintro σ' H1 ⟨s1, n, n0, n1, rfl⟩
  have dr1 := dr.same s1
  have gr1 := gr.same s1
  have Ld1 := Ld.same s1
  have mem := ro.mem n
  walk_at "gb"
  refine g_rdIn dr1 ?_
  walk_at "gb"
  refine g_ite (fun e => ?_) (fun e => ?_)
  · have hr := of_decide_eq_true e
    have hn := mem.mp hr
    walk_at "gb"
    refine g_rdPop dr1 ro.nd hr rfl fun v H2 b2 dr2 => ?_
    walk_at "gb"
    refine g_rdPutA (gr1.at (b2 g gd)) (by omega) fun H3 b3 gr3 => ?_
    have b13 : ∀ b, b ≠ d → b ≠ g → H3 b = H1 b := fun b q1 q2 => (b3 b q2).trans (b2 b q1)
    have Ld3 : Lad A.Ladder H3 p L S0 := Ld1.at fun x hx => b13 x (fun q => nod (q ▸ hx)) fun q => nog (q ▸ hx)
    have X3 := Ld3.toLadX
    have dr3 := dr2.at (b3 d (Ne.symm gd))
    walk_at "gb"
    refine ⟨p, n, L, S0, rfl, Ld3, fun _ _ _ t H4 kp4 nt tq Ld4 => ?_, fun z => absurd ⟨n0, n1⟩ z, fun _ _ z => absurd hn z⟩
    walk_at "gb"
    exact k H4 _ _ _ (fun b o eb nb bd bg => kp4 b o ((b13 b bd bg).trans (s1 _ _ eb)) nb) Ld4 (dr3.keep kp4 nod) (ro.del n) (gr3.keep kp4 nog) (by have := Sk.len_del Ld.srt hn; omega) addK_len
  · have hr := of_decide_eq_false e
    have hn : n ∉ S0 := fun q => hr (mem.mpr q)
    walk_at "gb"
    refine g_rdPut dr1 hr (by omega) fun H2 b2 dr2 => ?_
    have Ld2 : Lad A.Ladder H2 p L S0 := Ld1.at fun x hx => b2 x fun q => nod (q ▸ hx)
    have X2 := Ld2.toLadX
    walk_at "gb"
    refine ⟨p, n, L, S0, rfl, Ld2, fun _ _ _ => ⟨hl, fun t H3 kp3 nt tq Ld3 => ?_⟩, fun z => absurd ⟨n0, n1⟩ z, fun _ _ z => absurd z hn⟩
    walk_at "gb"
    exact k H3 _ _ _ (fun b o eb nb bd _ => kp3 b o ((b2 b bd).trans (s1 _ _ eb)) nb) Ld3 (dr2.keep kp3 nod) (ro.snoc hr) ((gr1.at (b2 g gd)).keep kp3 nog) (by rw [Sk.len_ins Ld.srt hn]; omega) (Nat.le_succ _)
def sp__law_filled (K : PySem.W.Frag) (C : Addr) : Sp := fun vs H Q _ => ∃ (a p : Addr) (ns : List Int) (L : LS), vs = [.ref a, .ref p, .int (L.w ^ L.h)] ∧ (∀ H', Keeps L p H H' → SqL K H' a (ns.map V.int)) ∧ ns.length ≤ 63 ∧ Lad C H p L [] ∧
  ∀ t H' r g rs gs S, Keeps L p H H' → H' t = some (.tup [.ref r, .ref g]) → Lad C H' p L S → r ≠ g → ¬ L.own p r → ¬ L.own p g → DR H' r rs → RowOf rs S → DR H' g gs → gs.length ≤ 800 → Q (.ref t) H'
theorem ok__law_filled (T : Txt K mg A) : FO P w K mg base 7 A._law_filled ["_law_script", "_law_ladder", "_law_limit"] (sp__law_filled K A.Ladder) := by
  obtain ⟨fd__law_cell_at, G__law_cell_at, B__law_cell_at⟩ := ok__law_cell_at (P := P) (w := w) (base := base) T
  obtain ⟨fd__law_deed, G__law_deed, B__law_deed⟩ := ok__law_deed (P := P) (w := w) (base := base) T
  obtain ⟨fd_take, G_take, B_take⟩ := ok_take (P := P) (w := w) (base := base) T
  have S := sc__law_filled
  refine FO.mk' T.f__law_filled S b__law_filled (fun vs H Q E h => by obtain ⟨_, _, _, _, rfl, _⟩ := h; rfl) (fun cdv Ar outer s H vs Q E hr h => ?_)
  have hu := hu_of hr
  obtain ⟨a, p, ns, L, rfl, hS, hlen, Ld, k⟩ := h
  refine ⟨_, (pss_cons (ps_set (i := 3) S.nd rfl (Or.inl rfl) pe_dnewK)
  (pss_cons (ps_set (i := 4) S.nd rfl (Or.inl rfl) pe_dnewK)
  (pss_consC (ps_if (pt_cmpR op_eq (pe_op o_mod (pe_call G__law_cell_at (hr.mono (by decide)) rfl T.g__law_cell_at T.k__law_cell_at B__law_cell_at .nil passL (pa_cons (pv 0) (pa_cons pe_int pa_nil))) pe_int) pe_int (nomark _))
    (pss_cons (ps_for (passes_of rfl) rfl (pi_range1 rfl T.z_range (pa_cons pe_int pa_nil)) (pg_name (i := 5) S.nd rfl (Or.inl rfl))
      (pss_one (ps_expr (pe_call G__law_deed (hr.mono (by decide)) rfl T.g__law_deed T.k__law_deed B__law_deed .nil passL (pa_cons (pv 1) (pa_cons (pv 3) (pa_cons (pv 4) (pa_cons (pe_op o_mul pe_int (pe_op o_add (pe_op o_mul pe_int (pe_op o_add (pe_call G__law_cell_at (hr.mono (by decide)) rfl T.g__law_cell_at T.k__law_cell_at B__law_cell_at .nil passL (pa_cons (pv 0) (pa_cons pe_int pa_nil))) (pe_op o_mul (pe_op o_mul pe_int (pv 5)) (pv 5)))) pe_int)) (pa_cons (pv 2) pa_nil)))))))))
    (pss_one (ps_for (passes_of rfl) rfl (k_iL (K := K) rfl (k_step (K := K) rfl (by decide) (pe_callTy (call_list_dK rfl) (by rfl) T.z_list PyProof.Rows.boot_list (pa_cons (pv 3) pa_nil)) (po_some pe_int))) (pg_name (i := 6) S.nd rfl (Or.inl rfl))
      (pss_cons (ps_expr (pe_dpop1 (pv 3) (pv 6) ⟨rfl, rfl, rfl, rfl⟩))
      (pss_cons (ps_dput hu (pv 4) (pv 6) pe_bl rfl)
      (pss_one (ps_expr (pe_meth (pv 1) T.lt.cl T.m_take G_take (hr.mono (by decide)) B_take .nil (passes_call (takes_of rfl rfl rfl rfl) (fun _ _ _ _ z => z)) (pa_cons (pv 6) pa_nil)))))))))
    (pss_one (ps_for (passes_of rfl) rfl (k_iL (K := K) rfl (pe_slice (k_slL (K := K) rfl) (pv 0) (po_some pe_int) (po_some pe_int))) (pg_name (i := 7) S.nd rfl (Or.inl rfl))
      (pss_one (ps_expr (pe_call G__law_deed (hr.mono (by decide)) rfl T.g__law_deed T.k__law_deed B__law_deed .nil passL (pa_cons (pv 1) (pa_cons (pv 3) (pa_cons (pv 4) (pa_cons (pv 7) (pa_cons (pv 2) pa_nil)))))))))))
  (pss_one (ps_ret (pe_tup (pa_cons (pv 3) (pa_cons (pv 4) pa_nil)))))))), ?_⟩
  walk_at "gb"
  intro r nr
  have e1 : (upd H r (.dK [])) r = some (.dK []) := upd_same
  have s1 : Same H (upd H r (.dK [])) := same_new nr
  generalize upd H r (HO.dK []) = H1 at *
  have nor := own_no Ld.toLadX nr
  walk_at "gb"
  intro g ng1
  have e2 : (upd H1 g (.dK [])) g = some (.dK []) := upd_same
  have s2 : Same H1 (upd H1 g (.dK [])) := same_new ng1
  generalize upd H1 g (HO.dK []) = H2 at *
  have nog := own_no (Ld.same s1).toLadX ng1
  have rg : r ≠ g := ne_of_none e1 ng1
  have ng := s1.free ng1
  have s12 := s1.trans s2
  have Ld2 := Ld.same s12
  have lim := pow_ok Ld.ok (Nat.le_refl L.h)
  walk_at "gb"
  refine g_cut (fun σ' H3 => Keeps L p H H3 ∧ ∃ (rs gs S : List Int) (v5 v6 v7 : Option V), Lad A.Ladder H3 p L S ∧ DR H3 r rs ∧ RowOf rs S ∧ DR H3 g gs ∧ gs.length ≤ 800 ∧ σ' = [some (.ref a), some (.ref p), some (.int (L.w ^ L.h)), some (.ref r), some (.ref g), v5, v6, v7]) (fun N hN => ?_) ?_
  · have kp2 : Keeps L p H H2 := Same.keeps s12
    walk_at "gb"
    refine ⟨a, 3, ns, rfl, hS _ kp2, ?_⟩
    have frK : ∀ {H3 H4 : Hp}, Keeps L p H H3 → (∀ b o, H3 b = some o → ¬ L.own p b → b ≠ r → b ≠ g → H4 b = some o) → Keeps L p H H4 := fun kp fr b o e nb => fr b o (kp b o e nb) nb (ne_of_none e nr) (ne_of_none e ng)
    walk_at "gb"
    refine g_ite (fun _ => ?_) (fun _ => ?_)
    · walk_at "gb"
      refine g_rng (by omega) (by omega) ?_
      rw [show ((100 : Int)).toNat = 100 from rfl]
      refine for_range (lo := 0) (fun i σ H' => ∃ (rs gs S : List Int) (v5 : Option V), σ = [some (.ref a), some (.ref p), some (.int (L.w ^ L.h)), some (.ref r), some (.ref g), v5, none, none] ∧ Keeps L p H H' ∧ Lad A.Ladder H' p L S ∧ DR H' r rs ∧ RowOf rs S ∧ DR H' g gs ∧ S.length ≤ i ∧ gs.length ≤ i)
        ⟨[], [], [], none, rfl, kp2, Ld2, (DR.new e1).same s2, .nil, DR.new e2, Nat.zero_le _, Nat.zero_le _⟩ ?_ ?_
      · rintro i σ H' hi ⟨rs, gs, S0, v5, rfl, kp, Ld', dr, ro, gr, hl, hg⟩
        walk_at "gb"
        refine ⟨a, 2, ns, rfl, hS _ kp, ?_⟩
        walk_at "gb"
        refine g_mul (.inl (by decide)) ?_
        walk_at "gb"
        refine g_mul (.inr (by omega)) ?_
        walk_at "gb"
        refine g_mul (.inl (by decide)) ?_
        walk_at "gb"
        refine g_mul (.inl (by decide)) ?_
        walk_at "gb"
        refine ⟨p, r, g, _, L, rs, gs, S0, rfl, Ld', dr, ro, gr, by omega, Ne.symm rg, by omega, nor, nog, fun H4 S1 rs1 gs1 fr Ld4 dr4 ro4 gr4 l1 l2 => ?_⟩
        walk_at "gb"
        exact ⟨rs1, gs1, S1, _, rfl, frK kp fr, Ld4, dr4, ro4, gr4, by omega, by omega⟩
      rintro σ H3 ⟨rs, gs, S0, v5, rfl, kp3, Ld3, dr3, ro3, gr3, hl3, hg3⟩
      have rl3 := ro3.len
      walk_at "gb"
      refine g_step0 ?_
      walk_at "gb"
      refine g_rdList dr3 (by omega) fun q H4 nq s4 e4 => ?_
      refine g_part ?_
      refine g_stepI (.of e4) fun q5 H5 nq5 s5 e5 => ?_
      refine g_lit (.of e5) ?_
      have mnd : (stV rs (some 1) 3).Nodup := stV_nodup (by decide) (fun i z => by cases z; decide) ro3.nd
      have mms : ∀ x ∈ stV rs (some 1) 3, x ∈ rs := fun x hx => stV_mem hx
      have mlen : (stV rs (some 1) 3).length ≤ 100 := Nat.le_trans (nodup_len mnd mms) (by omega)
      generalize stV rs (some 1) 3 = ms at *
      have s45 := s4.trans s5
      have noq5 := own_no (Ld3.same s4).toLadX nq5
      have kp5 : Keeps L p H H5 := kp3.same s45
      have q5r : q5 ≠ r := by
        obtain ⟨kvs, z, _⟩ := dr3.same s4
        exact Ne.symm (ne_of_none z nq5)
      have q5g : q5 ≠ g := by
        obtain ⟨kvs, z, _⟩ := gr3.same s4
        exact Ne.symm (ne_of_none z nq5)
      refine for_list (K := K) (a := q5) (xs := ms.map V.int) (fun i σ H' => ∃ (rs gs S : List Int) (v6 : Option V), σ = [some (.ref a), some (.ref p), some (.int (L.w ^ L.h)), some (.ref r), some (.ref g), v5, v6, none] ∧ Keeps L p H H' ∧ Lad A.Ladder H' p L S ∧ DR H' r rs ∧ RowOf rs S ∧ DR H' g gs ∧ gs.length ≤ 100 + i ∧ (∀ j x, i ≤ j → ms[j]? = some x → x ∈ rs) ∧ H' q5 = some (.lst (ms.map V.int)))
        ⟨rs, gs, S0, none, rfl, kp5, Ld3.same s45, dr3.same s45, ro3, gr3.same s45, by omega, fun j x _ hx => mms x (List.mem_of_getElem? hx), e5⟩ (fun i σ H' _ ⟨_, _, _, _, _, _, _, _, _, _, _, _, e⟩ => .of e) ?_ ?_
      · rintro i x σ H' hi ⟨rs', gs', S1, v6, rfl, kp, Ld', dr, ro, gr, hg, later, eq⟩
        rw [List.getElem?_map] at hi
        obtain ⟨n, hn, rfl⟩ := Option.map_eq_some_iff.mp hi
        have il := Sk.lt_of_get hn
        have hr := later i n (Nat.le_refl _) hn
        have hnS := (ro.mem n).mp hr
        walk_at "gb"
        refine g_rdPop dr ro.nd hr rfl fun v H6 b6 dr6 => ?_
        walk_at "gb"
        refine g_rdPutA (gr.at (b6 g (Ne.symm rg))) (by omega) fun H7 b7 gr7 => ?_
        have b67 : ∀ b, b ≠ r → b ≠ g → H7 b = H' b := fun b q1 q2 => (b7 b q2).trans (b6 b q1)
        have Ld7 : Lad A.Ladder H7 p L S1 := Ld'.at fun x hx => b67 x (fun q => nor (q ▸ hx)) fun q => nog (q ▸ hx)
        have X7 := Ld7.toLadX
        have dr7 := dr6.at (b7 r rg)
        walk_at "gb"
        refine ⟨p, n, L, S1, rfl, Ld7, fun _ _ _ t H8 kp8 nt tq Ld8 => ?_, fun z => absurd ⟨Ld'.lo n hnS, Ld'.hi n hnS⟩ z, fun _ _ z => absurd hnS z⟩
        walk_at "gb"
        refine ⟨_, _, _, _, rfl, frK kp fun b o eb nb br bg => kp8 b o ((b67 b br bg).trans eb) nb, Ld8, dr7.keep kp8 nor, ro.del n, gr7.keep kp8 nog, by have := addK_len (rs := gs') (k := n); omega, fun j x hj hx => List.mem_filter.mpr ⟨later j x (by omega) hx, decide_eq_true fun z => ?_⟩, kp8 _ _ ((b67 q5 q5r q5g).trans eq) noq5⟩
        subst z
        obtain ⟨h1, e1⟩ := List.getElem?_eq_some_iff.mp hn
        obtain ⟨h2, e2⟩ := List.getElem?_eq_some_iff.mp hx
        exact List.pairwise_iff_getElem.mp (List.nodup_iff_pairwise_ne.mp mnd) i j h1 h2 (by omega) (e1.trans e2.symm)
      · rintro σ H' ⟨rs', gs', S1, v6, rfl, kp, Ld', dr, ro, gr, hg, _, _⟩
        rw [List.length_map] at hg
        walk_at "gb"
        exact hN _ _ ⟨kp, rs', gs', S1, _, _, _, Ld', dr, ro, gr, by omega, rfl⟩
    · walk_at "gb"
      refine g_sl0 ?_
      walk_at "gb"
      refine g_part (g_part ?_)
      refine g_slice (hS _ kp2) fun q H9 ms nq s9 hms e9 => ?_
      refine g_lit (.of e9) ?_
      have noq := own_no Ld2.toLadX nq
      have qr : q ≠ r := Ne.symm (ne_of_none (s2 _ _ e1) nq)
      have qg : q ≠ g := Ne.symm (ne_of_none e2 nq)
      refine for_list (K := K) (a := q) (xs := ms.map V.int) (fun i σ H' => ∃ (rs gs S : List Int) (v7 : Option V), σ = [some (.ref a), some (.ref p), some (.int (L.w ^ L.h)), some (.ref r), some (.ref g), none, none, v7] ∧ Keeps L p H H' ∧ Lad A.Ladder H' p L S ∧ DR H' r rs ∧ RowOf rs S ∧ DR H' g gs ∧ S.length ≤ i ∧ gs.length ≤ i ∧ H' q = some (.lst (ms.map V.int)))
        ⟨[], [], [], none, rfl, kp2.same s9, Ld2.same s9, ((DR.new e1).same s2).same s9, .nil, (DR.new e2).same s9, Nat.zero_le _, Nat.zero_le _, e9⟩ (fun i σ H' _ ⟨_, _, _, _, _, _, _, _, _, _, _, _, e⟩ => .of e) ?_ ?_
      · rintro i x σ H' hi ⟨rs, gs, S0, v5, rfl, kp, Ld', dr, ro, gr, hl, hg, eq⟩
        rw [List.getElem?_map] at hi
        obtain ⟨c, hc, rfl⟩ := Option.map_eq_some_iff.mp hi
        have := Sk.lt_of_get hc
        walk_at "gb"
        refine ⟨p, r, g, c, L, rs, gs, S0, rfl, Ld', dr, ro, gr, by omega, Ne.symm rg, by omega, nor, nog, fun H4 S1 rs1 gs1 fr Ld4 dr4 ro4 gr4 l1 l2 => ?_⟩
        walk_at "gb"
        exact ⟨rs1, gs1, S1, _, rfl, frK kp fr, Ld4, dr4, ro4, gr4, by omega, by omega, fr _ _ eq noq qr qg⟩
      · rintro σ H' ⟨rs, gs, S0, v5, rfl, kp, Ld', dr, ro, gr, hl, hg, eq⟩
        rw [List.length_map] at hg
        walk_at "gb"
        exact hN _ _ ⟨kp, rs, gs, S0, _, _, _, Ld', dr, ro, gr, by omega, rfl⟩
  rintro σ H3 ⟨kp, rs, gs, S0, v5, v6, v7, Ld3, dr, ro, gr, hg, rfl⟩
  walk_at "gb"
  refine g_newT (by show 2 ≤ 1000; decide) fun t H4 nt s4 e4 => ?_
  exact k t H4 r g rs gs S0 (kp.same s4) e4 (Ld3.same s4) rg nor nog (dr.same s4) ro (gr.same s4) hg
def sp__law_missing (C : Addr) : Sp := fun vs H Q _ => ∃ (p : Addr) (n : Int) (L : LS) (S : List Int), vs = [.ref p, .int n] ∧ Lad C H p L S ∧ n ∉ S ∧ Q (.bl true) H
theorem ok__law_missing (T : Txt K mg A) : FO P w K mg base 4 A._law_missing ["_law_ladder", "_law_number_here"] (sp__law_missing A.Ladder) := by
  obtain ⟨fd_ahead, G_ahead, B_ahead⟩ := ok_ahead (P := P) (w := w) (base := base) T
  have S := sc__law_missing
  refine FO.mk' T.f__law_missing S b__law_missing (fun vs H Q E h => by obtain ⟨_, _, _, _, rfl, _⟩ := h; rfl) (fun cdv Ar outer s H vs Q E hr h => ?_)
  have hu := hu_of hr
  obtain ⟨p, n, L, S0, rfl, Ld, hn, k⟩ := h
  have X := Ld.toLadX
  have lt := T.lt
  have hh := Ld.ok.h2
  refine ⟨_, (pss_cons (ps_set (i := 2) S.nd rfl (Or.inl rfl) pe_int)
  (pss_cons (ps_for (passes_of rfl) rfl (pi_range1 rfl T.z_range (pa_cons (pe_op o_add (k_fld (K := K) rfl (pv 0) rfl) pe_int) pa_nil)) (pg_name (i := 3) S.nd rfl (Or.inl rfl))
    (pss_one (ps_try_only (tb := _) (ts := _) rfl rfl ⟨rfl, by decide, Or.inl T.x_Missing.g⟩ (takes_of rfl rfl rfl rfl)
      (fun W pn xe tk _ => (pss_one (ps_expr (pe_methS (pv 0) T.lt.cl T.m_ahead G_ahead (hr.mono (by decide)) B_ahead (fun q => passAt tk q) (pa_cons (pv 3) (pa_cons (pv 1) pa_nil))))))
      (fun ae oe cls dd pn hz hf => (pss_one (ps_set (i := 2) S.nd rfl (Or.inl rfl) (pe_op o_add (pv 2) pe_int)))))))
  (pss_one (ps_ret (pe_cmpR op_eq (pv 2) (pe_op o_add (k_fld (K := K) rfl (pv 0) rfl) pe_int) (nomark _)))))), ?_⟩
  walk_at "gb"
  refine g_rng (by omega) (by omega) ?_
  rw [show ((L.h : Int) + 1).toNat = L.h + 1 by omega]
  refine for_range (lo := 0) (tb := fun D => tDrop (tMethS A.Ladder "ahead" (sp_ahead A.Ladder A.NoLevel A.Missing) (WE (wOnly K (.ref A.Missing) (fun ae cls dd => tAsg (tOp nAdd (tVar 2) (tC (.int 1))) (gName 2)) (fun cls d x H => E cls d H) D)) (tVar 0) (tCons (tVar 3) (tCons (tVar 1) tNil))) D) (fun i σ H' => H' = H ∧ ∃ v3 : Option V, σ = [some (.ref p), some (.int n), some (.int (i : Int)), v3]) ⟨rfl, none, rfl⟩ ?_ ?_
  · rintro i σ H' hi ⟨rfl, v3, rfl⟩
    rw [Int.zero_add]
    walk_at "gb"
    refine ⟨p, (i : Int), n, L, S0, rfl, Ld, fun l _ _ st => absurd st.1 hn, fun l el hl _ => w_only T.e_Missing_Missing fun a _ => ?_, fun bad => absurd ⟨by omega, by omega⟩ bad⟩
    walk_at "gb"
    exact ⟨rfl, _, rfl⟩
  rintro σ H' ⟨rfl, v3, rfl⟩
  walk_at "gb"
  rw [show ((L.h + 1 : Nat) : Int) = (L.h : Int) + 1 from rfl, decide_eq_true rfl]
  exact k
def sp__law_no_place (C : Addr) : Sp := fun vs H Q _ => ∃ (p : Addr) (n : Int) (L : LS) (S : List Int), vs = [.ref p, .int n] ∧ Lad C H p L S ∧ ¬ (0 ≤ n ∧ n < (S.length : Int)) ∧ Q (.bl true) H
theorem ok__law_no_place (T : Txt K mg A) : FO P w K mg base 5 A._law_no_place ["_law_ladder", "_law_place"] (sp__law_no_place A.Ladder) := by
  obtain ⟨fd_at, G_at, B_at⟩ := ok_at (P := P) (w := w) (base := base) T
  obtain ⟨fd_way, G_way, B_way⟩ := ok_way (P := P) (w := w) (base := base) T
  have S := sc__law_no_place
  refine FO.mk' T.f__law_no_place S b__law_no_place (fun vs H Q E h => by obtain ⟨_, _, _, _, rfl, _⟩ := h; rfl) (fun cdv Ar outer s H vs Q E hr h => ?_)
  have hu := hu_of hr
  obtain ⟨p, n, L, S0, rfl, Ld, hn, k⟩ := h
  have X := Ld.toLadX
  have no : ∀ (i : Nat) (x : Int), n = (i : Int) → ¬ S0[i]? = some x := fun i x e q => hn ⟨by omega, by have := Sk.lt_of_get q; omega⟩
  refine ⟨_, (pss_cons (ps_set (i := 2) S.nd rfl (Or.inl rfl) pe_int)
  (pss_cons (ps_try_only (tb := _) (ts := _) rfl rfl ⟨rfl, by decide, Or.inl T.x_NoPlace.g⟩ (takes_of rfl rfl rfl rfl)
    (fun W pn xe tk _ => (pss_one (ps_expr (pe_methS (pv 0) T.lt.cl T.m_at G_at (hr.mono (by decide)) B_at (fun q => passAt tk q) (pa_cons (pv 1) pa_nil)))))
    (fun ae oe cls dd pn hz hf => (pss_one (ps_set (i := 2) S.nd rfl (Or.inl rfl) (pe_op o_add (pv 2) pe_int)))))
  (pss_cons (ps_try_only (tb := _) (ts := _) rfl rfl ⟨rfl, by decide, Or.inl T.x_NoPlace.g⟩ (takes_of rfl rfl rfl rfl)
    (fun W pn xe tk _ => (pss_one (ps_expr (pe_methS (pv 0) T.lt.cl T.m_way G_way (hr.mono (by decide)) B_way (fun q => passAt tk q) (pa_cons (pv 1) pa_nil)))))
    (fun ae oe cls dd pn hz hf => (pss_one (ps_set (i := 2) S.nd rfl (Or.inl rfl) (pe_op o_add (pv 2) pe_int)))))
  (pss_one (ps_ret (pe_cmpR op_eq (pv 2) pe_int (nomark _))))))), ?_⟩
  walk_at "gb"
  refine ⟨p, n, L, S0, rfl, Ld, fun i x e q => absurd q (no i x e), fun _ => w_only T.e_NoPlace_NoPlace fun a _ => ?_⟩
  walk_at "gb"
  refine ⟨p, n, L, S0, rfl, Ld, fun i x e q => absurd q (no i x e), fun _ => w_only T.e_NoPlace_NoPlace fun a _ => ?_⟩
  walk_at "gb"
  exact k
def sp__law_refused (C : Addr) : Sp := fun vs H Q _ => ∃ (p : Addr) (lo hi : Int) (L : LS) (S : List Int), vs = [.ref p, .int lo, .int hi] ∧ Lad C H p L S ∧ ¬ (0 ≤ lo ∧ lo ≤ L.w ^ L.h ∧ 0 ≤ hi ∧ hi ≤ L.w ^ L.h) ∧ ∀ H', Same H H' → Q (.bl true) H'
theorem ok__law_refused (T : Txt K mg A) : FO P w K mg base 6 A._law_refused ["_law_ladder", "_law_low", "_law_high"] (sp__law_refused A.Ladder) := by
  obtain ⟨fd_stretch, G_stretch, B_stretch⟩ := ok_stretch (P := P) (w := w) (base := base) T
  obtain ⟨fd_counted, G_counted, B_counted⟩ := ok_counted (P := P) (w := w) (base := base) T
  have S := sc__law_refused
  refine FO.mk' T.f__law_refused S b__law_refused (fun vs H Q E h => by obtain ⟨_, _, _, _, _, rfl, _⟩ := h; rfl) (fun cdv Ar outer s H vs Q E hr h => ?_)
  have hu := hu_of hr
  obtain ⟨p, lo, hi, L, S0, rfl, Ld, hn, k⟩ := h
  have X := Ld.toLadX
  refine ⟨_, (pss_cons (ps_set (i := 3) S.nd rfl (Or.inl rfl) pe_int)
  (pss_cons (ps_try_only (tb := _) (ts := _) rfl rfl ⟨rfl, by decide, Or.inl T.x_OutOfRange.g⟩ (takes_of rfl rfl rfl rfl)
    (fun W pn xe tk _ => (pss_one (ps_expr (pe_methS (pv 0) T.lt.cl T.m_stretch G_stretch (hr.mono (by decide)) B_stretch (fun q => passAt tk q) (pa_cons (pv 1) (pa_cons (pv 2) pa_nil))))))
    (fun ae oe cls dd pn hz hf => (pss_one (ps_set (i := 3) S.nd rfl (Or.inl rfl) (pe_op o_add (pv 3) pe_int)))))
  (pss_cons (ps_try_only (tb := _) (ts := _) rfl rfl ⟨rfl, by decide, Or.inl T.x_OutOfRange.g⟩ (takes_of rfl rfl rfl rfl)
    (fun W pn xe tk _ => (pss_one (ps_expr (pe_methS (pv 0) T.lt.cl T.m_counted G_counted (hr.mono (by decide)) B_counted (fun q => passAt tk q) (pa_cons (pv 1) (pa_cons (pv 2) pa_nil))))))
    (fun ae oe cls dd pn hz hf => (pss_one (ps_set (i := 3) S.nd rfl (Or.inl rfl) (pe_op o_add (pv 3) pe_int)))))
  (pss_one (ps_ret (pe_cmpR op_eq (pv 3) pe_int (nomark _))))))), ?_⟩
  walk_at "gb"
  refine ⟨p, lo, hi, L, S0, rfl, Ld, fun h1 h2 h3 h4 => absurd ⟨h1, h2, h3, h4⟩ hn, fun _ H1 s1 => w_only T.e_OutOfRange_OutOfRange fun a _ => ?_⟩
  have Ld1 := Ld.same s1
  have X1 := Ld1.toLadX
  walk_at "gb"
  refine ⟨p, lo, hi, L, S0, rfl, Ld1, fun h1 h2 h3 h4 => absurd ⟨h1, h2, h3, h4⟩ hn, fun _ H2 s2 => w_only T.e_OutOfRange_OutOfRange fun a _ => ?_⟩
  walk_at "gb"
  exact k _ (s1.trans s2)
def sp__law_gap (K : PySem.W.Frag) : Sp := fun vs H Q _ => ∃ (a t : Addr) (n : Int) (o : Option Int) (g : Nat) (S : List Int), vs = [.ref a, .int n, .ref t] ∧ H a = some (.lst (S.map V.int)) ∧ S.length ≤ 100 ∧ H t = some (.tup [ov o, .int (g : Int)]) ∧
  (o = none → g = (S.filter fun z => decide (n ≤ z)).length) ∧ (∀ y, o = some y → y ∈ S ∧ g = (S.filter fun z => decide (n ≤ z ∧ z < y)).length) ∧ ∀ H', Same H H' → Q (.bl true) H'
theorem ok__law_gap (T : Txt K mg A) : FO P w K mg base 3 A._law_gap ["_law_row", "_law_number_here", "_law_found"] (sp__law_gap K) := by
  obtain ⟨fd__law_whole, G__law_whole, B__law_whole⟩ := ok__law_whole (P := P) (w := w) (base := base) T
  have S := sc__law_gap
  refine FO.mk' T.f__law_gap S b__law_gap (fun vs H Q E h => by obtain ⟨_, _, _, _, _, _, rfl, _⟩ := h; rfl) (fun cdv Ar outer s H vs Q E hr h => ?_)
  have hu := hu_of hr
  obtain ⟨a, t, n, o, g, S0, rfl, ea, hl, et, h1, h2, k⟩ := h
  refine ⟨_, (pss_cons (ps_if (PW.pt (pw_or (pt_not (pt_val (pe_callB (k_isi (K := K) rfl) (by rfl) T.z_isinstance PyProof.Rows.boot_isinstance (pa_cons (pv 2) (pa_cons (pe_bltn (v := .ty "tuple") rfl T.z_tuple PyProof.Rows.boot_tuple rfl) pa_nil))))) (pw_or (pt_cmpR op_ne (pe_callB (k_len (K := K) rfl) (by rfl) T.z_len PySem.boot_len (pa_cons (pv 2) pa_nil)) pe_int (nomark _)) (pw_or1 (pt_not (pt_val (pe_call G__law_whole (hr.mono (by decide)) rfl T.g__law_whole T.k__law_whole B__law_whole .nil passL (pa_cons (pe_ix (k_ixT (K := K) rfl) (pv 2) pe_int (fun _ _ => rfl)) pa_nil))))))))
    (pss_one (ps_ret pe_bl))
    pss_nil)
  (pss_cons (ps_if (pt_cmpR o_isN (pe_ix (k_ixT (K := K) rfl) (pv 2) pe_int (fun _ _ => rfl)) pe_non (nomark _))
    (pss_one (ps_ret (pe_cmpR op_eq (pe_ix (k_ixT (K := K) rfl) (pv 2) pe_int (fun _ _ => rfl)) (pe_callB (k_len (K := K) rfl) (by rfl) T.z_len PySem.boot_len (pa_cons (pe_lc (own := [("_law_one", 3)]) (g := gName 3) (by rfl) S.nd (k_iL (K := K) rfl (pv 0)) (blkOk_by (N := N__law_gap) (sc := defScope s__law_gap) (by decide +kernel)) (fun _ _ _ _ _ => pg_name (i := 3) S.nd rfl (Or.inl rfl)) (fun _ _ _ _ _ => (pts_one (pt_cmpR o_ge (pv 3) (pv 1) (nomark _)))) (fun _ _ _ _ _ => (pv 3))) pa_nil)) (nomark _))))
    pss_nil)
  (pss_cons (ps_if (PW.pt (pw_or (pt_not (pt_val (pe_call G__law_whole (hr.mono (by decide)) rfl T.g__law_whole T.k__law_whole B__law_whole .nil passL (pa_cons (pe_ix (k_ixT (K := K) rfl) (pv 2) pe_int (fun _ _ => rfl)) pa_nil)))) (pw_or1 (pt_cmpR (k_nin (K := K) rfl) (pe_ix (k_ixT (K := K) rfl) (pv 2) pe_int (fun _ _ => rfl)) (pv 0) (by rfl)))))
    (pss_one (ps_ret pe_bl))
    pss_nil)
  (pss_one (ps_ret (pe_cmpR op_eq (pe_ix (k_ixT (K := K) rfl) (pv 2) pe_int (fun _ _ => rfl)) (pe_callB (k_len (K := K) rfl) (by rfl) T.z_len PySem.boot_len (pa_cons (pe_lc (own := [("_law_one", 3)]) (g := gName 3) (by rfl) S.nd (k_iL (K := K) rfl (pv 0)) (blkOk_by (N := N__law_gap) (sc := defScope s__law_gap) (by decide +kernel)) (fun _ _ _ _ _ => pg_name (i := 3) S.nd rfl (Or.inl rfl)) (fun _ _ _ _ _ => (pts_one (PW.pt (pw_and (pt_cmpR o_ge (pv 3) (pv 1) (nomark _)) (pw_and1 (pt_cmpR o_lt (pv 3) (pe_ix (k_ixT (K := K) rfl) (pv 2) pe_int (fun _ _ => rfl)) (nomark _))))))) (fun _ _ _ _ _ => (pv 3))) pa_nil)) (nomark _))))))), ?_⟩
  walk_at "gb"
  refine g_isTup et ?_
  walk_at "gb"
  refine g_lenT (.of et) ?_
  walk_at "gb"
  rw [show ((([ov o, V.int (g : Int)] : List V).length : Nat) : Int) = 2 from rfl, decide_eq_true rfl]
  walk_at "gb"
  refine g_ixT (.of et) (atI_c1 rfl) ?_
  walk_at "gb"
  refine ⟨_, rfl, ?_⟩
  walk_at "gb"
  refine g_ixT (.of et) (atI_c0 rfl) ?_
  walk_at "gb"
  cases o with
  | none =>
    refine g_iteT rfl ?_
    walk_at "gb"
    refine g_ixT (.of et) (atI_c1 rfl) ?_
    walk_at "gb"
    refine g_lit (.of ea) ?_
    refine g_lcF (p := fun z => decide (n ≤ z)) (.of ea) (by omega) (fun _ => rfl) (fun _ => rfl) (fun x H' R hx s1 hR => ?_) fun D H1 nD s1 e1 => ?_
    · walk_at "gb"
      exact hR
    walk_at "gb"
    refine g_lenL (.of e1) ?_
    refine g_eqI ?_
    rw [List.length_map, h1 rfl, decide_eq_true rfl]
    exact k _ s1
  | some y =>
    obtain ⟨ym, eg⟩ := h2 y rfl
    refine g_iteF rfl ?_
    walk_at "gb"
    refine g_ixT (.of et) (atI_c0 rfl) ?_
    walk_at "gb"
    refine ⟨y, rfl, ?_⟩
    walk_at "gb"
    refine g_ixT (.of et) (atI_c0 rfl) ?_
    walk_at "gb"
    refine g_ninI (.of ea) ?_
    rw [decide_eq_true ym]
    walk_at "gb"
    refine g_ixT (.of et) (atI_c1 rfl) ?_
    walk_at "gb"
    refine g_lit (.of ea) ?_
    refine g_lcF (p := fun z => decide (n ≤ z ∧ z < y)) (.of ea) (by omega) (fun _ => rfl) (fun _ => rfl) (fun x H' R hx s1 hR => ?_) fun D H1 nD s1 e1 => ?_
    · replace hR : R (decide (n ≤ x ∧ x < y)) H' := hR
      walk_at "gb"
      refine g_ite (fun e => ?_) (fun e => ?_)
      · have e := of_decide_eq_true e
        walk_at "gb"
        refine g_ixT (.of (s1 _ _ et)) (atI_c0 rfl) ?_
        refine g_lt ?_
        walk_at "gb"
        rw [show decide (n ≤ x ∧ x < y) = decide (x < y) by rw [decide_eq_decide]; exact ⟨fun z => z.2, fun z => ⟨e, z⟩⟩] at hR
        exact hR
      · have e := of_decide_eq_false e
        rw [decide_eq_false fun z => e z.1] at hR
        exact hR
    walk_at "gb"
    refine g_lenL (.of e1) ?_
    refine g_eqI ?_
    rw [List.length_map, eg, decide_eq_true rfl]
    exact k _ s1
end
end Lk

namespace Lk
open PySem PySem.Spec PyProof.Rows L2
section
variable {P : Program} {w : World} {K : PySem.W.Frag} {mg : Str → Option Value} {base : Heap} {A : Ads}
theorem plainT {x y : Int} : ∀ v ∈ ([.int x, .int y] : List V), plainV v = true := fun v hv => by
  rcases List.mem_cons.mp hv with rfl | hv
  · rfl
  · rw [List.mem_singleton.mp hv]; rfl
theorem sh_tupV {k : Nat} {xs : List V} : Sh (k + 1) (.tuple (xs.map vD)) := sh_tup (k := k) fun d hd => by
  obtain ⟨v, _, rfl⟩ := List.mem_map.mp hd
  exact sh_v v
theorem g_neT2 {K : PySem.W.Frag} {H : Hp} {Q : VK} {t u : Addr} {xs : List V} (e1 : SqT K H t xs) (e2 : SqT K H u xs) (pl : ∀ v ∈ xs, plainV v = true) (q : Q (.bl false) H) : rNeD K (.ref t) (.ref u) H Q :=
  g_neD (dp_tup e1 pl) (dp_tup e2 pl) (sh_tupV (k := 0)) q
/-- what is counted from n on -/
theorem cnt_ge {S : List Int} (h : Sk.Srt S) {n : Int} : (S.filter fun z => decide (n ≤ z)).length = S.length - Sk.rk S n := by
  rw [Sk.filter_ge h, List.length_drop]
theorem cnt_mid {S : List Int} (h : Sk.Srt S) {n y : Int} : (S.filter fun z => decide (n ≤ z ∧ z < y)).length = Sk.rk S y - Sk.rk S n := Sk.mid_len h n y
def sp__law_way (K : PySem.W.Frag) (C : Addr) : Sp := fun vs H Q _ => ∃ (p a : Addr) (i : Nat) (x : Int) (L : LS) (S : List Int), vs = [.ref p, .ref a, .int (i : Int)] ∧ Lad C H p L S ∧ H a = some (.lst (S.map V.int)) ∧ S[i]? = some x ∧ ∀ H', Same H H' → Q (.bl true) H'
theorem ok__law_way (T : Txt K mg A) : FO P w K mg base 5 A._law_way ["_law_ladder", "_law_row", "_law_place"] (sp__law_way K A.Ladder) := by
  obtain ⟨fd_way, G_way, B_way⟩ := ok_way (P := P) (w := w) (base := base) T
  obtain ⟨fd_ahead, G_ahead, B_ahead⟩ := ok_ahead (P := P) (w := w) (base := base) T
  obtain ⟨fd__law_gap, G__law_gap, B__law_gap⟩ := ok__law_gap (P := P) (w := w) (base := base) T
  obtain ⟨fd_at, G_at, B_at⟩ := ok_at (P := P) (w := w) (base := base) T
  have S := sc__law_way
  refine FO.mk' T.f__law_way S b__law_way (fun vs H Q E h => by obtain ⟨_, _, _, _, _, _, rfl, _⟩ := h; rfl) (fun cdv Ar outer s H vs Q E hr h => ?_)
  have hu := hu_of hr
  obtain ⟨p, a, i, x, L, S0, rfl, Ld, ea, hx, k⟩ := h
  have X := Ld.toLadX
  have lt := T.lt
  have ok := Ld.ok
  have hw : 0 < L.w := by have := ok.w1; omega
  have hs := Ld.srt
  have hlen := Ld.len
  have hh := ok.h2
  have hi := Sk.lt_of_get hx
  have xm := List.mem_of_getElem? hx
  have rx := Sk.rk_get hs hx
  obtain ⟨hd, ehd⟩ : ∃ y, S0.head? = some y := by
    cases S0 with
    | nil => exact absurd hi (Nat.not_lt_zero _)
    | cons y r => exact ⟨y, rfl⟩
  have hdx : hd ≤ x := Sk.head_le hs ehd x xm
  have etr : Sk.trail L.w L.h S0 x = Sk.tr L.w S0 x (L.h, hd) := by
    unfold Sk.trail
    simp only [ehd]
    rw [if_pos hdx]
  have top := Sk.rch_top hw hs Ld.lo Ld.hi ehd hdx
  have tlen := Sk.trail_len (w := L.w) (h := L.h) hw hs (n := x)
  have tlast := Sk.trail_last (w := L.w) (h := L.h) hw hs (n := x)
  have ebel : Sk.bel S0 (x + 1) = some x := (Sk.bel_some hs).mpr ⟨xm, by omega, fun z _ hz => by omega⟩
  rw [ebel, Option.map_some] at tlast
  rw [etr] at tlen tlast
  have ch := Sk.tr_chain hw hs (n := x) _ (L.h, hd) (Nat.le_refl _)
  have inv := Sk.tr_inv hw hs (n := x) (I := Sk.Rch L.w L.h S0 x) (fun a b ha e => Sk.rch_step hw hs ha e) _ (L.h, hd) (Nat.le_refl _) top
  have hd0 : (Sk.tr L.w S0 x (L.h, hd))[0]? = some (L.h, hd) := by rw [Sk.tr_eq hw hs]; rfl
  have e0 : Sk.trail L.w L.h S0 x = Sk.tr L.w S0 x (L.h, hd) := etr
  generalize Sk.tr L.w S0 x (L.h, hd) = tr at *
  rw [List.getLast?_eq_getElem?] at tlast
  have at_x : atI (S0.map V.int) (i : Int) = some (.int x) := atI_nat (get_map hx)
  have tpos : 0 < tr.length := by
    rcases Nat.eq_zero_or_pos tr.length with q | q
    · rw [List.getElem?_eq_none (by omega)] at hd0; cases hd0
    · exact q
  refine ⟨_, (pss_cons (ps_set (i := 3) S.nd rfl (Or.inl rfl) (pe_meth (pv 0) T.lt.cl T.m_way G_way (hr.mono (by decide)) B_way .nil (passes_call (takes_of rfl rfl rfl rfl) (fun _ _ _ _ z => z)) (pa_cons (pv 2) pa_nil)))
  (pss_cons (ps_if (PW.pt (pw_or (pt_not (pt_val (pe_callB (k_isi (K := K) rfl) (by rfl) T.z_isinstance PyProof.Rows.boot_isinstance (pa_cons (pv 3) (pa_cons (pe_bltn (v := .ty "list") rfl T.z_list PyProof.Rows.boot_list rfl) pa_nil))))) (pw_or (pt_cmpR (k_eqD (K := K) rfl hr.units) (pv 3) (pe_lst pa_nil) (nomark _)) (pw_or1 (pt_cmpR (k_neD (K := K) rfl hr.units) (pe_ix (k_ixL (K := K) rfl) (pv 3) pe_int (fun _ _ => rfl)) (pe_tup (pa_cons (k_fld (K := K) rfl (pv 0) rfl) (pa_cons (pe_ix (k_ixL (K := K) rfl) (pv 1) pe_int (fun _ _ => rfl)) pa_nil))) (nomark _))))))
    (pss_one (ps_ret pe_bl))
    pss_nil)
  (pss_cons (ps_set (i := 4) S.nd rfl (Or.inl rfl) (pv 2))
  (pss_cons (ps_for (passes_of rfl) rfl (pi_range1 rfl T.z_range (pa_cons (pe_callB (k_len (K := K) rfl) (by rfl) T.z_len PySem.boot_len (pa_cons (pv 3) pa_nil)) pa_nil)) (pg_name (i := 5) S.nd rfl (Or.inl rfl))
    (pss_cons (ps_set (i := 6) S.nd rfl (Or.inl rfl) (pe_meth (pv 0) T.lt.cl T.m_ahead G_ahead (hr.mono (by decide)) B_ahead .nil (passes_call (takes_of rfl rfl rfl rfl) (fun _ _ _ _ z => z)) (pa_cons (pe_ix (k_ixT (K := K) rfl) (pe_ix (k_ixL (K := K) rfl) (pv 3) (pv 5) (fun _ _ => rfl)) pe_int (fun _ _ => rfl)) (pa_cons (pe_ix (k_ixT (K := K) rfl) (pe_ix (k_ixL (K := K) rfl) (pv 3) (pv 5) (fun _ _ => rfl)) pe_int (fun _ _ => rfl)) pa_nil))))
    (pss_cons (ps_if (pt_not (pt_val (pe_call G__law_gap (hr.mono (by decide)) rfl T.g__law_gap T.k__law_gap B__law_gap .nil passL (pa_cons (pv 1) (pa_cons (pe_ix (k_ixT (K := K) rfl) (pe_ix (k_ixL (K := K) rfl) (pv 3) (pv 5) (fun _ _ => rfl)) pe_int (fun _ _ => rfl)) (pa_cons (pv 6) pa_nil))))))
      (pss_one (ps_ret pe_bl))
      pss_nil)
    (pss_cons (ps_set (i := 7) S.nd rfl (Or.inl rfl) (pe_tup (pa_cons (pe_op o_sub (pe_ix (k_ixT (K := K) rfl) (pe_ix (k_ixL (K := K) rfl) (pv 3) (pv 5) (fun _ _ => rfl)) pe_int (fun _ _ => rfl)) pe_int) (pa_cons (pe_ix (k_ixT (K := K) rfl) (pe_ix (k_ixL (K := K) rfl) (pv 3) (pv 5) (fun _ _ => rfl)) pe_int (fun _ _ => rfl)) pa_nil))))
    (pss_consC (ps_if (PW.pt (pw_and (pt_cmpR o_notN (pe_ix (k_ixT (K := K) rfl) (pv 6) pe_int (fun _ _ => rfl)) pe_non (nomark _)) (pw_and1 (pt_cmpR o_le (pe_ix (k_ixT (K := K) rfl) (pv 6) pe_int (fun _ _ => rfl)) (pv 4) (nomark _)))))
      (pss_cons (ps_set (i := 4) S.nd rfl (Or.inl rfl) (pe_op o_sub (pv 4) (pe_ix (k_ixT (K := K) rfl) (pv 6) pe_int (fun _ _ => rfl))))
      (pss_one (ps_set (i := 7) S.nd rfl (Or.inl rfl) (pe_tup (pa_cons (pe_ix (k_ixT (K := K) rfl) (pe_ix (k_ixL (K := K) rfl) (pv 3) (pv 5) (fun _ _ => rfl)) pe_int (fun _ _ => rfl)) (pa_cons (pe_ix (k_ixT (K := K) rfl) (pv 6) pe_int (fun _ _ => rfl)) pa_nil))))))
      pss_nil)
    (pss_one (ps_if (PW.pt (pw_or (PW.pt (pw_and (pt_cmpR o_lt (pe_op o_add (pv 5) pe_int) (pe_callB (k_len (K := K) rfl) (by rfl) T.z_len PySem.boot_len (pa_cons (pv 3) pa_nil)) (nomark _)) (pw_and1 (pt_cmpR (k_neD (K := K) rfl hr.units) (pe_ix (k_ixL (K := K) rfl) (pv 3) (pe_op o_add (pv 5) pe_int) (fun _ _ => rfl)) (pv 7) (nomark _))))) (pw_or1 (PW.pt (pw_and (pt_cmpR op_eq (pe_op o_add (pv 5) pe_int) (pe_callB (k_len (K := K) rfl) (by rfl) T.z_len PySem.boot_len (pa_cons (pv 3) pa_nil)) (nomark _)) (pw_and1 (pt_cmpR op_ne (pe_ix (k_ixT (K := K) rfl) (pv 7) pe_int (fun _ _ => rfl)) (pe_un un_neg pe_int) (nomark _))))))))
      (pss_one (ps_ret pe_bl))
      pss_nil)))))))
  (pss_cons (ps_set (i := 8) S.nd rfl (Or.inl rfl) (pe_callTy (k_listOf (K := K) rfl) (by rfl) T.z_list PyProof.Rows.boot_list (pa_cons (pv 3) pa_nil)))
  (pss_cons (ps_expr (pe_bm0 PySem.F.plainAttrs_list PySem.F.slot_list_clear PySem.F.type_list_clear mt_clear (pv 3)))
  (pss_one (ps_ret (pe_and (pe_cmpR op_eq (pv 4) pe_int (nomark _)) (pe_and (pe_cmpR op_eq (pe_ix (k_ixT (K := K) rfl) (pe_ix (k_ixL (K := K) rfl) (pv 8) (pe_un un_neg pe_int) (fun _ _ => rfl)) pe_int (fun _ _ => rfl)) (pe_ix (k_ixL (K := K) rfl) (pv 1) (pv 2) (fun _ _ => rfl)) (nomark _)) (pe_and (pe_cmpR op_eq (pe_meth (pv 0) T.lt.cl T.m_at G_at (hr.mono (by decide)) B_at .nil (passes_call (takes_of rfl rfl rfl rfl) (fun _ _ _ _ z => z)) (pa_cons (pv 2) pa_nil)) (pe_ix (k_ixL (K := K) rfl) (pv 1) (pv 2) (fun _ _ => rfl)) (nomark _)) (pe_one (pe_cmpR (k_eqD (K := K) rfl hr.units) (pe_meth (pv 0) T.lt.cl T.m_way G_way (hr.mono (by decide)) B_way .nil (passes_call (takes_of rfl rfl rfl rfl) (fun _ _ _ _ z => z)) (pa_cons (pv 2) pa_nil)) (pv 8) (nomark _)))))))))))))), ?_⟩
  walk_at "gb"
  refine ⟨p, (i : Int), L, S0, rfl, Ld, fun j y ej hy f H1 s1 nf tf => ?_, fun bad => absurd ⟨by omega, by omega⟩ bad⟩
  obtain rfl : j = i := by omega
  rw [hx] at hy
  obtain rfl := Option.some.inj hy
  rw [e0] at tf
  have Ld1 := Ld.same s1
  have X1 := Ld1.toLadX
  obtain ⟨as, ef, hal, item⟩ := tupl_item tf
  rw [List.length_map] at hal
  have at_ : ∀ {i : Nat} {s : Nat × Int}, tr[i]? = some s → ∃ t, (as.map V.ref)[i]? = some (V.ref t) ∧ H1 t = some (.tup [.int (s.1 : Int), .int s.2]) := fun {i s} e => by
    have hi := (List.getElem?_eq_some_iff.mp e).1
    have hi2 : i < (as.map V.ref).length := by rw [List.length_map]; omega
    obtain ⟨t, y, e1, e2, e3⟩ := item i _ (List.getElem?_eq_getElem hi2)
    obtain ⟨s', e4, rfl⟩ := map_get e2
    rw [e] at e4; cases e4
    exact ⟨t, by rw [List.getElem?_eq_getElem hi2, e1], e3⟩
  obtain ⟨t0, ht0, et0⟩ := at_ hd0
  walk_at "gb"
  refine g_isList ef ?_
  walk_at "gb"
  refine g_newL (by decide) fun nl H2 nn s2 e2 => ?_
  refine g_eqNil ((tf.same s2).dp sV_plain) (dp_nil (.of e2)) (sh_tups (k := 0) _) ?_
  rw [show (((tr.map sV).map fun x => PyData.tuple (x.map vD)).isEmpty) = false by
    cases z : tr with
    | nil => rw [z] at tpos; exact absurd tpos (by decide)
    | cons _ _ => rfl]
  have s12 := s1.trans s2
  have Ld2 := Ld.same s12
  have X2 := Ld2.toLadX
  walk_at "gb"
  refine g_ixL (.of (s2 _ _ ef)) (atI_c0 ht0) ?_
  walk_at "gb"
  refine g_ixL (.of (s12 _ _ ea)) (atI_headI ehd) ?_
  walk_at "gb"
  refine g_newT (by show 2 ≤ 1000; decide) fun t1 H3 nt1 s3 e3 => ?_
  have s23 := s2.trans s3
  refine g_neT2 (.of (s23 _ _ et0)) (.of e3) plainT ?_
  walk_at "gb"
  have s13 := s12.trans s3
  refine g_lenL (.of (s23 _ _ ef)) ?_
  walk_at "gb"
  rw [List.length_map, hal]
  refine g_rng (by omega) (by omega) ?_
  rw [show ((tr.length : Int)).toNat = tr.length by omega]
  refine for_range (lo := 0) (fun m σ H' => Same H1 H' ∧ ∃ (le : Int) (v5 v6 v7 : Option V), σ = [some (.ref p), some (.ref a), some (.int (j : Int)), some (.ref f), some (.int le), v5, v6, v7, none] ∧ (∀ l y, tr[m]? = some (l, y) → le = (j : Int) - (Sk.rk S0 y : Int)) ∧ (m = tr.length → le = 0))
    ⟨s23, (j : Int), none, none, none, rfl, fun l y e => by
      rw [hd0] at e
      obtain ⟨rfl, rfl⟩ := Prod.mk.inj (Option.some.inj e)
      rw [Sk.rk_least hs ehd]
      omega, fun z => absurd z (by omega)⟩ ?_ ?_
  · rintro m σ H' hm ⟨s4, le, v5, v6, v7, rfl, hle, _⟩
    obtain ⟨⟨l, y⟩, hy⟩ : ∃ s, tr[m]? = some s := ⟨_, List.getElem?_eq_getElem hm⟩
    obtain rfl := hle l y hy
    have rc := inv _ (List.mem_of_getElem? hy)
    have st : Sk.St (L.w ^ l) S0 y := rc.st
    have hl : l ≤ L.h := rc.lv
    have hc := pow_ok ok hl
    have yx : y ≤ x := rc.le
    obtain ⟨u, hu, eu⟩ := at_ hy
    have s14 := s1.trans s4
    have Ld4 := Ld.same s14
    have X4 := Ld4.toLadX
    have f4 := s4 _ _ ef
    have au : atI (as.map V.ref) (0 + (m : Int)) = some (.ref u) := by rw [Int.zero_add]; exact atI_nat hu
    walk_at "gb"
    refine g_ixL (.of f4) au ?_
    walk_at "gb"
    refine g_ixT (.of (s4 _ _ eu)) (atI_c0 rfl) ?_
    walk_at "gb"
    refine g_ixL (.of f4) au ?_
    walk_at "gb"
    refine g_ixT (.of (s4 _ _ eu)) (atI_c1 rfl) ?_
    walk_at "gb"
    refine ⟨p, (l : Int), y, L, S0, rfl, Ld4, fun l2 el _ _ ah H5 nah s5 e5 => ?_, fun l2 el hl2 bad => ?_, fun bad => absurd ⟨by omega, by omega⟩ bad⟩
    rotate_left
    · obtain rfl : l2 = l := by omega
      exact absurd st bad
    obtain rfl : l2 = l := by omega
    have s45 := s4.trans s5
    have s15 := s14.trans s5
    walk_at "gb"
    refine g_ixL (.of (s45 _ _ ef)) au ?_
    walk_at "gb"
    refine g_ixT (.of (s45 _ _ eu)) (atI_c1 rfl) ?_
    walk_at "gb"
    refine ⟨a, ah, y, Sk.nx (L.w ^ l2) S0 y, Sk.gp (L.w ^ l2) S0 y, S0, rfl, s15 _ _ ea, hlen, e5, fun en => ?_, fun z en => ⟨((Sk.nx_some hs).mp en).1, ?_⟩, fun H6 s6 => ?_⟩
    · rw [cnt_ge hs, Sk.rk_end hc.1 hs st en]; omega
    · rw [cnt_mid hs, Sk.rk_nx hc.1 hs st en]; omega
    have s46 := s45.trans s6
    have s16 := s15.trans s6
    walk_at "gb"
    refine g_ixL (.of (s46 _ _ ef)) au ?_
    walk_at "gb"
    refine g_ixT (.of (s46 _ _ eu)) (atI_c0 rfl) ?_
    walk_at "gb"
    refine g_ixL (.of (s46 _ _ ef)) au ?_
    walk_at "gb"
    refine g_ixT (.of (s46 _ _ eu)) (atI_c1 rfl) ?_
    walk_at "gb"
    refine g_newT (by show 2 ≤ 1000; decide) fun du H7 ndu s7 e7 => ?_
    have s67 := s6.trans s7
    have s47 := s46.trans s7
    -- where the search stands next
    obtain ⟨gl, gy, hg⟩ : ∃ (gl : Int) (gy : Int), (∀ z, Sk.nx (L.w ^ l2) S0 y = some z → z ≤ x → gl = (l2 : Int) ∧ gy = z) ∧ ((∀ z, Sk.nx (L.w ^ l2) S0 y = some z → ¬ z ≤ x) → gl = (l2 : Int) - 1 ∧ gy = y) := by
      cases en : Sk.nx (L.w ^ l2) S0 y with
      | none => exact ⟨_, _, fun z q => (nomatch q), fun _ => ⟨rfl, rfl⟩⟩
      | some z =>
        by_cases q : z ≤ x
        · exact ⟨l2, z, fun z' e _ => by cases e; exact ⟨rfl, rfl⟩, fun h => absurd q (h z rfl)⟩
        · exact ⟨_, _, fun z' e h => by cases e; exact absurd h q, fun _ => ⟨rfl, rfl⟩⟩
    walk_at "gb"
    refine g_cut (fun σ' H8 => Same H7 H8 ∧ ∃ du2 : Addr, H8 du2 = some (.tup [.int gl, .int gy]) ∧ σ' = [some (.ref p), some (.ref a), some (.int (j : Int)), some (.ref f), some (.int ((j : Int) - (Sk.rk S0 gy : Int))), some (.int (0 + (m : Int))), some (.ref ah), some (.ref du2), none]) (fun N hN => ?_) ?_
    · have no : (∀ z, Sk.nx (L.w ^ l2) S0 y = some z → ¬ z ≤ x) → N [some (.ref p), some (.ref a), some (.int (j : Int)), some (.ref f), some (.int ((j : Int) - (Sk.rk S0 y : Int))), some (.int (0 + (m : Int))), some (.ref ah), some (.ref du), none] H7 := fun h => by
        obtain ⟨rfl, rfl⟩ := hg.2 h
        exact hN _ _ ⟨fun _ _ e => e, du, e7, rfl⟩
      have a7 := s67 _ _ e5
      walk_at "gb"
      refine g_ixT (.of a7) (atI_c0 rfl) ?_
      walk_at "gb"
      cases en : Sk.nx (L.w ^ l2) S0 y with
      | none =>
        refine g_iteF rfl ?_
        walk_at "gb"
        exact no fun z q => by rw [en] at q; cases q
      | some z =>
        rw [en] at a7
        have rz := Sk.rk_nx hc.1 hs st en
        have zm := ((Sk.nx_some hs).mp en).1
        have iff := Sk.rk_le_iff (S := S0) (x := z) xm
        refine g_iteT rfl ?_
        walk_at "gb"
        refine g_ixT (.of a7) (atI_c1 rfl) ?_
        walk_at "gb"
        refine g_ite (fun e => ?_) (fun e => ?_)
        · have zx : z ≤ x := iff.mp (by have := of_decide_eq_true e; omega)
          obtain ⟨rfl, rfl⟩ := hg.1 z en zx
          walk_at "gb"
          refine g_ixT (.of a7) (atI_c1 rfl) ?_
          walk_at "gb"
          refine g_ixL (.of (s47 _ _ ef)) au ?_
          walk_at "gb"
          refine g_ixT (.of (s47 _ _ eu)) (atI_c0 rfl) ?_
          walk_at "gb"
          refine g_ixT (.of a7) (atI_c0 rfl) ?_
          walk_at "gb"
          refine g_newT (by show 2 ≤ 1000; decide) fun du2 H8 ndu2 s8 e8 => ?_
          refine hN _ _ ⟨s8, du2, e8, ?_⟩
          rw [show (j : Int) - (Sk.rk S0 y : Int) - (Sk.gp (L.w ^ l2) S0 y : Int) = (j : Int) - (Sk.rk S0 gy : Int) by omega]
          rfl
        · have zx : ¬ z ≤ x := fun q => by
            have := iff.mpr q
            have := of_decide_eq_false e
            omega
          walk_at "gb"
          exact no fun z' q => by rw [en] at q; cases q; exact zx
    rintro σ' H8 ⟨s8, du2, e8, rfl⟩
    have s48 := s47.trans s8
    have f8 := s48 _ _ ef
    have next : (m + 1 < tr.length → ∃ l3 y3, tr[m + 1]? = some (l3, y3) ∧ gl = (l3 : Int) ∧ gy = y3) ∧ (m + 1 = tr.length → gl = -1 ∧ gy = x) := by
      constructor
      · intro q
        obtain ⟨⟨l3, y3⟩, h3⟩ : ∃ s, tr[m + 1]? = some s := ⟨_, List.getElem?_eq_getElem q⟩
        refine ⟨l3, y3, h3, ?_⟩
        rcases Sk.stp_inv (ch m _ _ hy h3) with ⟨z, z1, z2, e⟩ | ⟨l', e1, e, no⟩
        · obtain ⟨rfl, rfl⟩ := Prod.mk.inj e
          exact hg.1 _ z1 z2
        · obtain ⟨rfl, rfl⟩ := Prod.mk.inj e
          obtain ⟨h1, h2⟩ := hg.2 no
          exact ⟨by omega, h2⟩
      · intro q
        rw [show tr.length - 1 = m by omega, hy] at tlast
        obtain ⟨rfl, rfl⟩ := Prod.mk.inj (Option.some.inj tlast)
        obtain ⟨h1, h2⟩ := hg.2 fun z hz q2 => by
          obtain ⟨_, z2, _⟩ := (Sk.nx_some hs).mp hz
          have := Sk.nx_lt hc.1 hs hz
          omega
        exact ⟨by omega, h2⟩
    walk_at "gw"
    refine g_ifP false (fun H9 => H9 = H8) (fun R hR => ?_) (fun z => nomatch z) (fun _ H9 e9 => ?_)
    · have hR := hR _ rfl
      walk_at "gb"
      refine g_lenL (.of f8) ?_
      walk_at "gb"
      rw [List.length_map, hal]
      refine g_ite (fun e => ?_) (fun e => ?_)
      · have e := of_decide_eq_true e
        obtain ⟨l3, y3, h3, rfl, rfl⟩ := next.1 (by omega)
        obtain ⟨u3, hu3, eu3⟩ := at_ h3
        walk_at "gb"
        refine g_ixL (.of f8) (by rw [show 0 + (m : Int) + 1 = ((m + 1 : Nat) : Int) by omega]; exact atI_nat hu3) ?_
        walk_at "gb"
        refine g_neT2 (.of (s48 _ _ eu3)) (.of e8) plainT ?_
        walk_at "gb"
        refine g_lenL (.of f8) ?_
        refine g_eqI ?_
        walk_at "gb"
        rw [List.length_map, hal, decide_eq_false (by omega)]
        walk_at "gb"
        exact hR
      · have e := of_decide_eq_false e
        have q : m + 1 = tr.length := by omega
        obtain ⟨rfl, _⟩ := next.2 q
        walk_at "gb"
        refine g_lenL (.of f8) ?_
        refine g_eqI ?_
        walk_at "gb"
        rw [List.length_map, hal, decide_eq_true (by omega)]
        walk_at "gb"
        refine g_ixT (.of e8) (atI_c0 rfl) ?_
        walk_at "gb"
        exact hR
    subst e9
    walk_at "gb"
    refine ⟨s48, _, _, _, _, rfl, fun l y e => ?_, fun q => ?_⟩
    · obtain ⟨l3, y3, h3, _, rfl⟩ := next.1 ((List.getElem?_eq_some_iff.mp e).1)
      rw [h3] at e
      obtain ⟨rfl, rfl⟩ := Prod.mk.inj (Option.some.inj e)
      rfl
    · obtain ⟨_, rfl⟩ := next.2 q
      rw [rx]; omega
  rintro σ H4 ⟨s4, le, v5, v6, v7, rfl, _, hle⟩
  obtain rfl := hle rfl
  have s14 := s1.trans s4
  walk_at "gb"
  have pf : Paired (fun a x => H1 a = some (.tup x)) as (tr.map sV) := by
    obtain ⟨as2, h1, h2⟩ := tf
    rw [ef] at h1
    obtain rfl : as = as2 := by
      have h3 := HO.lst.inj (Option.some.inj h1)
      exact (List.map_inj_right (fun a b e => V.ref.inj e)).mp h3
    exact h2
  have pf4 := paired_same s4 pf
  refine g_listOf (.of (s4 _ _ ef)) fun ke H5 nke s5 e5 => ?_
  have tk5 := tupl_copy s5 pf4 e5
  have s45 := s4.trans s5
  walk_at "gb"
  refine g_clear0 ?_
  walk_at "gb"
  refine g_clear (s45 _ _ ef) fun H6 b6 e6 => ?_
  have s16 : Same H H6 := same_but (s14.trans s5) nf b6
  have tk6 := tk5.lst (s45 _ _ ef) (Ne.symm (ne_of_none (s4 _ _ ef) nke)) b6
  have Ld6 := Ld.same s16
  have X6 := Ld6.toLadX
  walk_at "gb"
  rw [decide_eq_true rfl]
  walk_at "gb"
  obtain ⟨vs, tl, ekl, atl, etl⟩ := tk6.last (x := sV (0, x)) (by rw [List.getLast?_eq_getElem?, List.length_map, List.getElem?_map, tlast]; rfl)
  refine g_ixL (.of ekl) atl ?_
  walk_at "gb"
  refine g_ixT (.of etl) (atI_c1 rfl) ?_
  walk_at "gb"
  refine g_ixL (.of (s16 _ _ ea)) at_x ?_
  refine g_eqI ?_
  walk_at "gb"
  rw [decide_eq_true rfl]
  walk_at "gb"
  refine ⟨p, (j : Int), L, S0, rfl, Ld6, fun j2 y ej hy H7 s7 => ?_, fun bad => absurd ⟨by omega, by omega⟩ bad⟩
  obtain rfl : j2 = j := by omega
  rw [hx] at hy
  obtain rfl := Option.some.inj hy
  have s17 := s16.trans s7
  have Ld7 := Ld.same s17
  have X7 := Ld7.toLadX
  walk_at "gb"
  refine g_ixL (.of (s17 _ _ ea)) at_x ?_
  refine g_eqI ?_
  walk_at "gb"
  rw [decide_eq_true rfl]
  walk_at "gb"
  refine ⟨p, (j2 : Int), L, S0, rfl, Ld7, fun j3 y ej hy f8 H8 s8 nf8 tf8 => ?_, fun bad => absurd ⟨by omega, by omega⟩ bad⟩
  obtain rfl : j3 = j2 := by omega
  rw [hx] at hy
  obtain rfl := Option.some.inj hy
  rw [e0] at tf8
  walk_at "gb"
  refine g_eqD (tf8.dp sV_plain) (((tk6.same s7).same s8).dp sV_plain) (sh_tups (k := 0) _) ?_
  exact k _ (s17.trans s8)
def sp__law_stretch (K : PySem.W.Frag) (C : Addr) : Sp := fun vs H Q _ => ∃ (p a : Addr) (lo hi : Int) (L : LS) (S : List Int), vs = [.ref p, .ref a, .int lo, .int hi] ∧ Lad C H p L S ∧ H a = some (.lst (S.map V.int)) ∧ 0 ≤ lo ∧ lo ≤ L.w ^ L.h ∧ 0 ≤ hi ∧ hi ≤ L.w ^ L.h ∧ ∀ H', Same H H' → Q (.bl true) H'
theorem ok__law_stretch (T : Txt K mg A) : FO P w K mg base 6 A._law_stretch ["_law_ladder", "_law_row", "_law_low", "_law_high"] (sp__law_stretch K A.Ladder) := by
  obtain ⟨fd_stretch, G_stretch, B_stretch⟩ := ok_stretch (P := P) (w := w) (base := base) T
  obtain ⟨fd_counted, G_counted, B_counted⟩ := ok_counted (P := P) (w := w) (base := base) T
  obtain ⟨fd__law_whole, G__law_whole, B__law_whole⟩ := ok__law_whole (P := P) (w := w) (base := base) T
  have S := sc__law_stretch
  refine FO.mk' T.f__law_stretch S b__law_stretch (fun vs H Q E h => by obtain ⟨_, _, _, _, _, _, rfl, _⟩ := h; rfl) (fun cdv Ar outer s H vs Q E hr h => ?_)
  have hu := hu_of hr
  obtain ⟨p, a, lo, hi, L, S0, rfl, Ld, ea, l0, l1, h0, h1, k⟩ := h
  have X := Ld.toLadX
  have hlen := Ld.len
  refine ⟨_, (pss_cons (ps_setLc (i := 4) (own := [("_law_one", 7)]) (g := gName 7) rfl S.nd rfl rfl (sw_true rfl rfl rfl (by decide +kernel)) (k_iL (K := K) rfl (pv 1)) (blkOk_by (N := N__law_stretch) (sc := defScope s__law_stretch) (by decide +kernel)) (fun _ _ _ _ _ => pg_name (i := 7) S.nd rfl (Or.inl rfl)) (fun _ _ _ _ _ => (pts_one (PW.pt (pw_and (pt_cmpR o_ge (pv 7) (pv 2) (nomark _)) (pw_and1 (pt_cmpR o_lt (pv 7) (pv 3) (nomark _))))))) (fun _ _ _ _ _ => (pv 7)))
  (pss_cons (ps_set (i := 5) S.nd rfl (Or.inl rfl) (pe_meth (pv 0) T.lt.cl T.m_stretch G_stretch (hr.mono (by decide)) B_stretch .nil (passes_call (takes_of rfl rfl rfl rfl) (fun _ _ _ _ z => z)) (pa_cons (pv 2) (pa_cons (pv 3) pa_nil))))
  (pss_cons (ps_set (i := 6) S.nd rfl (Or.inl rfl) (pe_meth (pv 0) T.lt.cl T.m_counted G_counted (hr.mono (by decide)) B_counted .nil (passes_call (takes_of rfl rfl rfl rfl) (fun _ _ _ _ z => z)) (pa_cons (pv 2) (pa_cons (pv 3) pa_nil))))
  (pss_cons (ps_if (PW.pt (pw_or (pt_not (pt_val (pe_callB (k_isi (K := K) rfl) (by rfl) T.z_isinstance PyProof.Rows.boot_isinstance (pa_cons (pv 5) (pa_cons (pe_bltn (v := .ty "list") rfl T.z_list PyProof.Rows.boot_list rfl) pa_nil))))) (pw_or1 (pt_not (pt_val (pe_callB (c_all rfl) (by rfl) T.z_all (by decide +kernel) (pa_cons (pe_lc (own := [("_law_one", 7)]) (g := gName 7) (tt := tYes) (by rfl) S.nd (k_iL (K := K) rfl (pv 5)) (blkOk_by (N := N__law_stretch) (sc := defScope s__law_stretch) (by decide +kernel)) (fun _ _ _ _ _ => pg_name (i := 7) S.nd rfl (Or.inl rfl)) (fun _ _ _ _ _ => pts_nil) (fun _ _ _ _ _ => (pe_call G__law_whole (hr.mono (by decide)) rfl T.g__law_whole T.k__law_whole B__law_whole .nil passL (pa_cons (pv 7) pa_nil)))) pa_nil)))))))
    (pss_one (ps_ret pe_bl))
    pss_nil)
  (pss_cons (ps_if (PW.pt (pw_or (pt_cmpR (k_neD (K := K) rfl hr.units) (pv 5) (pv 4) (nomark _)) (pw_or (pt_not (pt_val (pe_call G__law_whole (hr.mono (by decide)) rfl T.g__law_whole T.k__law_whole B__law_whole .nil passL (pa_cons (pv 6) pa_nil)))) (pw_or1 (pt_cmpR op_ne (pv 6) (pe_callB (k_len (K := K) rfl) (by rfl) T.z_len PySem.boot_len (pa_cons (pv 4) pa_nil)) (nomark _))))))
    (pss_one (ps_ret pe_bl))
    pss_nil)
  (pss_cons (ps_expr (pe_bm0 PySem.F.plainAttrs_list PySem.F.slot_list_clear PySem.F.type_list_clear mt_clear (pv 5)))
  (pss_one (ps_ret (pe_cmpR (k_eqD (K := K) rfl hr.units) (pe_meth (pv 0) T.lt.cl T.m_stretch G_stretch (hr.mono (by decide)) B_stretch .nil (passes_call (takes_of rfl rfl rfl rfl) (fun _ _ _ _ z => z)) (pa_cons (pv 2) (pa_cons (pv 3) pa_nil))) (pv 4) (nomark _)))))))))), ?_⟩
  walk_at "gb"
  refine g_lit (.of ea) ?_
  refine g_lcF (p := fun z => decide (lo ≤ z ∧ z < hi)) (.of ea) (by omega) (fun _ => rfl) (fun _ => rfl) (fun x H' R hx s1 hR => ?_) fun due H1 nd s1 e1 => ?_
  · replace hR : R (decide (lo ≤ x ∧ x < hi)) H' := hR
    walk_at "gb"
    refine g_ite (fun e => ?_) (fun e => ?_)
    · have e := of_decide_eq_true e
      walk_at "gb"
      rw [show decide (lo ≤ x ∧ x < hi) = decide (x < hi) by rw [decide_eq_decide]; exact ⟨fun z => z.2, fun z => ⟨e, z⟩⟩] at hR
      exact hR
    · have e := of_decide_eq_false e
      rw [decide_eq_false fun z => e z.1] at hR
      exact hR
  replace e1 : H1 due = some (.lst ((Sk.mid S0 lo hi).map V.int)) := e1
  have ml : (Sk.mid S0 lo hi).length ≤ 100 := Nat.le_trans (List.length_filter_le _ _) hlen
  have Ld1 := Ld.same s1
  have X1 := Ld1.toLadX
  walk_at "gb"
  refine ⟨p, lo, hi, L, S0, rfl, Ld1, fun _ _ _ _ f H2 s2 nf e2 => ?_, fun bad => absurd ⟨l0, l1, h0, h1⟩ bad⟩
  have Ld2 := Ld1.same s2
  have X2 := Ld2.toLadX
  walk_at "gb"
  refine ⟨p, lo, hi, L, S0, rfl, Ld2, fun _ _ _ _ H3 s3 => ?_, fun bad => absurd ⟨l0, l1, h0, h1⟩ bad⟩
  have f3 := s3 _ _ e2
  walk_at "gb"
  refine g_isList f3 ?_
  walk_at "gb"
  refine g_lit (.of f3) ?_
  refine g_lcT (.of f3) (by omega) (fun _ => rfl) (fun x H' R hR => ?_) fun D H4 nD s4 e4 => ?_
  · walk_at "gb"
    refine ⟨_, rfl, ?_⟩
    exact hR
  walk_at "gb"
  refine g_all (.of e4) (by simp) ?_
  have s24 := s3.trans s4
  have d4 := s24 _ _ (s2 _ _ e1)
  walk_at "gb"
  refine g_neD (dp_ints (.of (s4 _ _ f3))) (dp_ints (.of d4)) (sh_ints (k := 0) _) ?_
  walk_at "gb"
  refine ⟨_, rfl, ?_⟩
  walk_at "gb"
  refine g_lenL (.of d4) ?_
  walk_at "gb"
  rw [List.length_map, decide_eq_true rfl]
  walk_at "gb"
  refine g_clear0 ?_
  walk_at "gb"
  refine g_clear (s4 _ _ f3) fun H5 b5 e5 => ?_
  have s15 : Same H H5 := same_but ((s1.trans s2).trans s24) (s1.free nf) b5
  have d5 := (b5 due (ne_of_none e1 nf)).trans d4
  have Ld5 := Ld.same s15
  have X5 := Ld5.toLadX
  walk_at "gb"
  refine ⟨p, lo, hi, L, S0, rfl, Ld5, fun _ _ _ _ f6 H6 s6 nf6 e6 => ?_, fun bad => absurd ⟨l0, l1, h0, h1⟩ bad⟩
  walk_at "gb"
  refine g_eqD (dp_ints (.of e6)) (dp_ints (.of (s6 _ _ d5))) (sh_ints (k := 0) _) ?_
  exact k _ (s15.trans s6)
end
end Lk

namespace Lk
open PySem PySem.Spec PyProof.Rows L2
section
variable {P : Program} {w : World} {K : PySem.W.Frag} {mg : Str → Option Value} {base : Heap} {A : Ads}
theorem same_offN {H1 H4 : Hp} {D : Addr} (s : Same H1 H4) (n : H1 D = none) : Same H1 (off D H4) := fun b o e => off_at (ne_of_none e n) (s b o e)
/-- lists, and what they hold -/
def Ls (K : PySem.W.Frag) (H : Hp) (as : List Addr) (xs : List (List V × List PyData)) : Prop := Paired (fun a x => H a = some (.lst x.1) ∧ DpAll K H x.1 x.2 ∧ Sh 2 (.list x.2)) as xs
theorem ls_same {K : PySem.W.Frag} {H H' : Hp} {as : List Addr} {xs : List (List V × List PyData)} (s : Same H H') (h : Ls K H as xs) : Ls K H' as xs := Paired.mapP h fun a x ⟨e, d, z⟩ => ⟨s _ _ e, DpAll.mono s _ _ d, z⟩
theorem ls_dpl {K : PySem.W.Frag} {H : Hp} : ∀ {as : List Addr} {xs : List (List V × List PyData)}, Ls K H as xs → DpAll K H (as.map V.ref) (xs.map fun x => PyData.list x.2)
  | _, _, .nil => .nil
  | _, _, .cons h t => .cons (.lst (.of h.1) h.2.1) (ls_dpl t)
theorem ls_sh {K : PySem.W.Frag} {H : Hp} : ∀ {as : List Addr} {xs : List (List V × List PyData)}, Ls K H as xs → ∀ d ∈ xs.map (fun x => PyData.list x.2), Sh 2 d
  | _, _, .nil, d, hd => nomatch hd
  | _, _, .cons h t, d, hd => by
    rcases List.mem_cons.mp hd with rfl | hd
    · exact h.2.2
    · exact ls_sh t d hd
theorem ok_law {f : Addr} {fd : FuncData} (F : Fun K "law" "law" s_law f fd) (T : Txt K mg A) : FnOk P w K mg base CX0 8 f fd ["_law_script"] (spLaw K) := by
  obtain ⟨fd___init__, G___init__, B___init__⟩ := ok___init__ (P := P) (w := w) (base := base) T
  obtain ⟨fd__law_filled, G__law_filled, B__law_filled⟩ := ok__law_filled (P := P) (w := w) (base := base) T
  obtain ⟨fd__law_number, G__law_number, B__law_number⟩ := ok__law_number (P := P) (w := w) (base := base) T
  obtain ⟨fd_stretch, G_stretch, B_stretch⟩ := ok_stretch (P := P) (w := w) (base := base) T
  obtain ⟨fd__law_cell_at, G__law_cell_at, B__law_cell_at⟩ := ok__law_cell_at (P := P) (w := w) (base := base) T
  obtain ⟨fd__law_missing, G__law_missing, B__law_missing⟩ := ok__law_missing (P := P) (w := w) (base := base) T
  obtain ⟨fd__law_no_place, G__law_no_place, B__law_no_place⟩ := ok__law_no_place (P := P) (w := w) (base := base) T
  obtain ⟨fd_way, G_way, B_way⟩ := ok_way (P := P) (w := w) (base := base) T
  obtain ⟨fd__law_way, G__law_way, B__law_way⟩ := ok__law_way (P := P) (w := w) (base := base) T
  obtain ⟨fd_at, G_at, B_at⟩ := ok_at (P := P) (w := w) (base := base) T
  obtain ⟨fd__law_refused, G__law_refused, B__law_refused⟩ := ok__law_refused (P := P) (w := w) (base := base) T
  obtain ⟨fd__law_stretch, G__law_stretch, B__law_stretch⟩ := ok__law_stretch (P := P) (w := w) (base := base) T
  have S := sc_law
  refine F.ok S (fun vs H Q E h => by obtain ⟨_, _, rfl, _⟩ := h; rfl) (fun cdv Ar outer s H vs Q E hr h => ?_)
  have hu := hu_of hr
  obtain ⟨a, ns, rfl, hS, hlen, k⟩ := h
  have lt := T.lt
  refine ⟨_, (pss_cons (ps_set (i := 1) S.nd rfl (Or.inl rfl) (pe_op o_add pe_int (pe_op o_mod (pe_call G__law_cell_at (hr.mono (by decide)) rfl T.g__law_cell_at T.k__law_cell_at B__law_cell_at .nil passL (pa_cons (pv 0) (pa_cons pe_int pa_nil))) pe_int)))
  (pss_cons (ps_set (i := 2) S.nd rfl (Or.inl rfl) pe_int)
  (pss_cons (ps_for PassesOwn.never rfl (pi_range1 rfl T.z_range (pa_cons (pe_op o_add pe_int (pe_op o_mod (pe_call G__law_cell_at (hr.mono (by decide)) rfl T.g__law_cell_at T.k__law_cell_at B__law_cell_at .nil passL (pa_cons (pv 0) (pa_cons pe_int pa_nil))) pe_int)) pa_nil)) (pg_name (i := 3) S.nd rfl (Or.inl rfl))
    (pss_one (ps_set (i := 2) S.nd rfl (Or.inl rfl) (pe_op o_mul (pv 2) (pv 1)))))
  (pss_cons (ps_set (i := 4) S.nd rfl (Or.inr rfl) (pe_make T.mk_Ladder G___init__ (hr.mono (by decide)) rfl T.g_Ladder B___init__ .nil passL (pa_cons (pv 1) (pa_cons (pe_op o_add pe_int (pe_op o_mod (pe_call G__law_cell_at (hr.mono (by decide)) rfl T.g__law_cell_at T.k__law_cell_at B__law_cell_at .nil passL (pa_cons (pv 0) (pa_cons pe_int pa_nil))) pe_int)) pa_nil))))
  (pss_cons (ps_asg (pe_call G__law_filled (hr.mono (by decide)) rfl T.g__law_filled T.k__law_filled B__law_filled .nil passL (pa_cons (pv 0) (pa_cons (pv 4) (pa_cons (pv 2) pa_nil)))) (pg_tup (by rfl) (pgs_cons (pg_name (i := 5) S.nd rfl (Or.inr rfl)) (pgs_cons (pg_name (i := 6) S.nd rfl (Or.inl rfl)) pgs_nil))))
  (pss_cons (ps_lock (ps_setLc (i := 6) (own := [("_law_number_here", 7)]) (g := gName 7) rfl S.nd rfl rfl (sw_true rfl rfl rfl (by decide +kernel)) (pi_keys (pv 6)) (blkOk_by (N := N_law) (sc := defScope s_law) (by decide +kernel)) (fun _ _ _ _ _ => pg_name (i := 7) S.nd rfl (Or.inl rfl)) (fun _ _ _ _ _ => (pts_one (pt_cmp (pc_dnotin hu (pv 7) (pv 5))))) (fun _ _ _ _ _ => (pv 7))))
  (pss_cons (ps_set (i := 5) S.nd rfl (Or.inr rfl) (pe_callB (c_sortD rfl) (by rfl) T.z_sorted (by decide +kernel) (pa_cons (pv 5) pa_nil)))
  (pss_cons (ps_for PassesOwn.never rfl (k_iL (K := K) rfl (pe_slice (k_slL (K := K) rfl) (pv 6) po_none (po_some pe_int))) (pg_name (i := 7) S.nd rfl (Or.inl rfl))
    (pss_one (ps_if (pt_not (pt_val (pe_call G__law_missing (hr.mono (by decide)) rfl T.g__law_missing T.k__law_missing B__law_missing .nil passL (pa_cons (pv 4) (pa_cons (pv 7) pa_nil)))))
      (pss_one (ps_ret pe_bl))
      pss_nil)))
  (pss_cons (ps_if (PW.pt (pw_or (pt_not (pt_val (pe_call G__law_no_place (hr.mono (by decide)) rfl T.g__law_no_place T.k__law_no_place B__law_no_place .nil passL (pa_cons (pv 4) (pa_cons (pe_callB (k_len (K := K) rfl) (by rfl) T.z_len PySem.boot_len (pa_cons (pv 5) pa_nil)) pa_nil))))) (pw_or1 (pt_not (pt_val (pe_call G__law_no_place (hr.mono (by decide)) rfl T.g__law_no_place T.k__law_no_place B__law_no_place .nil passL (pa_cons (pv 4) (pa_cons (pe_op o_sub (pe_un un_neg pe_int) (pe_op o_mod (pe_call G__law_cell_at (hr.mono (by decide)) rfl T.g__law_cell_at T.k__law_cell_at B__law_cell_at .nil passL (pa_cons (pv 0) (pa_cons pe_int pa_nil))) (pe_op o_pow pe_int pe_int))) pa_nil))))))))
    (pss_one (ps_ret pe_bl))
    pss_nil)
  (pss_cons (ps_set (i := 8) S.nd rfl (Or.inl rfl) (pe_lst (pa_cons (pe_meth (pv 4) T.lt.cl T.m_stretch G_stretch (hr.mono (by decide)) B_stretch .nil passL (pa_cons pe_int (pa_cons (pv 2) pa_nil))) pa_nil)))
  (pss_consC (ps_if (pt_cmpR (k_neD (K := K) rfl hr.units) (pv 5) (pe_lst pa_nil) (nomark _))
    (pss_one (ps_expr (pe_bm PySem.F.plainAttrs_list PySem.F.slot_list_append PySem.F.type_list_append mt_append (pv 8) (pa_cons (pe_meth (pv 4) T.lt.cl T.m_way G_way (hr.mono (by decide)) B_way .nil passL (pa_cons (pe_op o_mod (pe_call G__law_cell_at (hr.mono (by decide)) rfl T.g__law_cell_at T.k__law_cell_at B__law_cell_at .nil passL (pa_cons (pv 0) (pa_cons pe_int pa_nil))) (pe_callB (k_len (K := K) rfl) (by rfl) T.z_len PySem.boot_len (pa_cons (pv 5) pa_nil))) pa_nil)) pa_nil))))
    pss_nil)
  (pss_cons (ps_setLc (i := 9) (own := [("_law_one", 10)]) (g := gName 10) (tt := tYes) rfl S.nd rfl rfl (sw_true rfl rfl rfl (by decide +kernel)) (k_iL (K := K) rfl (pv 8)) (blkOk_by (N := N_law) (sc := defScope s_law) (by decide +kernel)) (fun _ _ _ _ _ => pg_name (i := 10) S.nd rfl (Or.inl rfl)) (fun _ _ _ _ _ => pts_nil) (fun _ _ _ _ _ => (pe_callTy (k_listOf (K := K) rfl) (by rfl) T.z_list PyProof.Rows.boot_list (pa_cons (pv 10) pa_nil))))
  (pss_cons (ps_if (PW.pt (pw_and (pt_cmpR (k_neD (K := K) rfl hr.units) (pv 5) (pe_lst pa_nil) (nomark _)) (pw_and1 (pt_not (pt_val (pe_call G__law_way (hr.mono (by decide)) rfl T.g__law_way T.k__law_way B__law_way .nil passL (pa_cons (pv 4) (pa_cons (pv 5) (pa_cons (pe_op o_mod (pe_call G__law_cell_at (hr.mono (by decide)) rfl T.g__law_cell_at T.k__law_cell_at B__law_cell_at .nil passL (pa_cons (pv 0) (pa_cons pe_int pa_nil))) (pe_callB (k_len (K := K) rfl) (by rfl) T.z_len PySem.boot_len (pa_cons (pv 5) pa_nil))) pa_nil)))))))))
    (pss_one (ps_ret pe_bl))
    pss_nil)
  (pss_cons (ps_if (pt_cmpR (k_neD (K := K) rfl hr.units) (pe_lc (own := [("_law_place", 14)]) (g := gName 14) (tt := tYes) (by rfl) S.nd (pi_range1 rfl T.z_range (pa_cons (pe_callB (k_len (K := K) rfl) (by rfl) T.z_len PySem.boot_len (pa_cons (pv 5) pa_nil)) pa_nil)) (blkOk_by (N := N_law) (sc := defScope s_law) (by decide +kernel)) (fun _ _ _ _ _ => pg_name (i := 14) S.nd rfl (Or.inl rfl)) (fun _ _ _ _ _ => pts_nil) (fun _ _ _ _ _ => (pe_meth (pv 4) T.lt.cl T.m_at G_at (hr.mono (by decide)) B_at .nil passL (pa_cons (pv 14) pa_nil)))) (pv 5) (nomark _))
    (pss_one (ps_ret pe_bl))
    pss_nil)
  (pss_cons (ps_set (i := 10) S.nd rfl (Or.inl rfl) (pe_call G__law_number (hr.mono (by decide)) rfl T.g__law_number T.k__law_number B__law_number .nil passL (pa_cons (pe_call G__law_cell_at (hr.mono (by decide)) rfl T.g__law_cell_at T.k__law_cell_at B__law_cell_at .nil passL (pa_cons (pv 0) (pa_cons pe_int pa_nil))) (pa_cons (pe_op o_add (pv 2) pe_int) pa_nil))))
  (pss_cons (ps_set (i := 11) S.nd rfl (Or.inl rfl) (pe_call G__law_number (hr.mono (by decide)) rfl T.g__law_number T.k__law_number B__law_number .nil passL (pa_cons (pe_call G__law_cell_at (hr.mono (by decide)) rfl T.g__law_cell_at T.k__law_cell_at B__law_cell_at .nil passL (pa_cons (pv 0) (pa_cons pe_int pa_nil))) (pa_cons (pe_op o_add (pv 2) pe_int) pa_nil))))
  (pss_cons (ps_set (i := 12) S.nd rfl (Or.inl rfl) (pe_op o_mod (pe_call G__law_cell_at (hr.mono (by decide)) rfl T.g__law_cell_at T.k__law_cell_at B__law_cell_at .nil passL (pa_cons (pv 0) (pa_cons pe_int pa_nil))) (pe_op o_pow pe_int pe_int)))
  (pss_cons (ps_for PassesOwn.never rfl (k_iL (K := K) rfl (pe_lst (pa_cons (pe_tup (pa_cons (pe_op o_add (pe_op o_add (pv 2) pe_int) (pv 12)) (pa_cons (pv 10) pa_nil))) (pa_cons (pe_tup (pa_cons (pv 10) (pa_cons (pe_op o_add (pe_op o_add (pv 2) pe_int) (pv 12)) pa_nil))) (pa_cons (pe_tup (pa_cons (pe_op o_sub (pe_un un_neg pe_int) (pv 12)) (pa_cons (pv 10) pa_nil))) (pa_cons (pe_tup (pa_cons (pv 10) (pa_cons (pe_op o_sub (pe_un un_neg pe_int) (pv 12)) pa_nil))) pa_nil)))))) (pg_name (i := 13) S.nd rfl (Or.inl rfl))
    (pss_one (ps_if (pt_not (pt_val (pe_call G__law_refused (hr.mono (by decide)) rfl T.g__law_refused T.k__law_refused B__law_refused .nil passL (pa_cons (pv 4) (pa_cons (pe_ix (k_ixT (K := K) rfl) (pv 13) pe_int (fun _ _ => rfl)) (pa_cons (pe_ix (k_ixT (K := K) rfl) (pv 13) pe_int (fun _ _ => rfl)) pa_nil))))))
      (pss_one (ps_ret pe_bl))
      pss_nil)))
  (pss_cons (ps_for PassesOwn.never rfl (k_iL (K := K) rfl (pe_lst (pa_cons (pe_tup (pa_cons (pv 10) (pa_cons (pv 11) pa_nil))) (pa_cons (pe_tup (pa_cons (pv 11) (pa_cons (pv 10) pa_nil))) (pa_cons (pe_tup (pa_cons pe_int (pa_cons (pv 2) pa_nil))) pa_nil))))) (pg_name (i := 13) S.nd rfl (Or.inl rfl))
    (pss_one (ps_if (pt_not (pt_val (pe_call G__law_stretch (hr.mono (by decide)) rfl T.g__law_stretch T.k__law_stretch B__law_stretch .nil passL (pa_cons (pv 4) (pa_cons (pv 5) (pa_cons (pe_ix (k_ixT (K := K) rfl) (pv 13) pe_int (fun _ _ => rfl)) (pa_cons (pe_ix (k_ixT (K := K) rfl) (pv 13) pe_int (fun _ _ => rfl)) pa_nil)))))))
      (pss_one (ps_ret pe_bl))
      pss_nil)))
  (pss_one (ps_ret (pe_and (pe_cmpR (k_eqD (K := K) rfl hr.units) (pv 8) (pv 9) (nomark _)) (pe_one (pe_cmpR (k_eqD (K := K) rfl hr.units) (pe_ix (k_ixL (K := K) rfl) (pv 8) pe_int (fun _ _ => rfl)) (pv 5) (nomark _))))))))))))))))))))))))), ?_⟩
  have cell : ∀ {H' : Hp} {Q : VK} {E : XK} (j : Nat), SqL K H' a (ns.map V.int) → Q (.int (ns.getD j 0)) H' → sp__law_cell_at K [.ref a, .int (j : Int)] H' Q E := fun j hs q => ⟨a, j, ns, rfl, hs, q⟩
  obtain ⟨wd, ew⟩ : ∃ wd, 2 + ns.getD 0 0 % 8 = wd := ⟨_, rfl⟩
  have w1 : 2 ≤ wd := by omega
  have w2 : wd ≤ 9 := by omega
  obtain ⟨hh, eh⟩ : ∃ hh : Nat, 1 + ns.getD 1 0 % 12 = (hh : Int) := ⟨(1 + ns.getD 1 0 % 12).toNat, by omega⟩
  have h0 : 1 ≤ hh := by omega
  have h1 : hh ≤ 12 := by omega
  walk_at "gb"
  refine cell 0 hS ?_
  walk_at "gb"
  rw [ew]
  refine cell 1 hS ?_
  walk_at "gb"
  rw [eh]
  refine g_rng (by omega) (by omega) ?_
  rw [show ((hh : Int)).toNat = hh by omega]
  refine for_range (lo := 0) (fun i σ H' => H' = H ∧ ∃ v, σ = [some (.ref a), some (.int wd), some (.int (wd ^ i)), v, none, none, none, none, none, none, none, none, none, none, none]) ⟨rfl, none, by rw [Int.pow_zero]; rfl⟩ ?_ ?_
  · rintro i σ H' hi ⟨rfl, v, rfl⟩
    walk_at "gb"
    refine g_mul (.inr (by omega)) ?_
    walk_at "gb"
    refine ⟨rfl, some (.int (0 + (i : Int))), ?_⟩
    rw [Int.pow_succ]
    rfl
  rintro σ H' ⟨rfl, v, rfl⟩
  walk_at "gb"
  refine cell 1 hS ?_
  walk_at "gb"
  rw [eh]
  refine g_ladder (by omega) fun p L H3 np eLw eLh Ld s3 fr => ?_
  subst eLw
  obtain rfl : hh = L.h := by omega
  have lim := pow_ok Ld.ok (Nat.le_refl L.h)
  have kS : ∀ {H4 : Hp}, Keeps L p H3 H4 → SqL K H4 a (ns.map V.int) := fun k => k.seqOf s3 fr hS
  walk_at "gb"
  refine ⟨a, p, ns, L, rfl, fun H' kp => kS kp, hlen, Ld, fun t H4 r g rs gs S0 kp et Ld4 rg nor nog dr ro gr gl => ?_⟩
  have hS4 := kS kp
  have hl := Ld4.len
  have hrl := ro.len
  walk_at "gb"
  refine g_gtup (.of et) rfl ?_
  walk_at "gb"
  obtain ⟨kvs, gk1, gk2⟩ := gr
  refine g_lock gk1 trivial fun od => ?_
  have eF : (upd H4 g (.frz od (.dK kvs))) g = some (.frz od (.dK kvs)) := upd_same
  have bF : ∀ b, b ≠ g → (upd H4 g (.frz od (.dK kvs))) b = H4 b := fun b hb => upd_ne hb
  generalize upd H4 g (HO.frz od (.dK kvs)) = HF at *
  have drF := dr.at (bF r rg)
  walk_at "gb"
  refine g_keys0 ?_
  walk_at "gb"
  refine g_keys eF ?_
  refine g_lcFK (p := fun z => !decide (z ∈ rs)) eF gk2 (by omega) (fun _ => rfl) (fun _ => rfl) (fun x H' R hx s1 hR => ?_) fun gn H5 ngn s5 e5 => ?_
  · walk_at "gb"
    refine g_rdNin (drF.same s1) ?_
    walk_at "gb"
    exact hR
  have gng : gn ≠ g := fun z => by rw [z, eF] at ngn; cases ngn
  walk_at "gb"
  refine ⟨s5 _ _ eF, ?_⟩
  have s46 : Same H4 (upd H5 g (.dK kvs)) := fun b o e => by
    by_cases z : b = g
    · subst z; rw [upd_same, ← gk1]; exact e
    · rw [upd_ne z]; exact s5 b o ((bF b z).trans e)
  have e6 : (upd H5 g (.dK kvs)) gn = some (.lst ((gs.filter fun z => !decide (z ∈ rs)).map V.int)) := (upd_ne gng).trans e5
  generalize upd H5 g (HO.dK kvs) = H6 at *
  walk_at "gb"
  refine g_rdSorted (dr.same s46) (by omega) ro fun r2 H7 nr2 s7 e7 => ?_
  have s47 := s46.trans s7
  have Ld7 := Ld4.same s47
  have X7 := Ld7.toLadX
  walk_at "gb"
  refine g_sl0 ?_
  walk_at "gb"
  refine g_noPart (g_part ?_)
  refine g_sliceM (.of (s7 _ _ e6)) fun q8 H8 ms nq8 s8 hsub hms e8 => ?_
  refine g_lit (.of e8) ?_
  have s48 := s47.trans s8
  have Ld8 := Ld7.same s8
  refine for_list (K := K) (a := q8) (xs := ms.map V.int) (fun i σ H' => H' = H8 ∧ ∃ v7 : Option V, σ = [some (.ref a), some (.int L.w), some (.int (L.w ^ L.h)), v, some (.ref p), some (.ref r2), some (.ref gn), v7, none, none, none, none, none, none, none]) ⟨rfl, none, rfl⟩ (fun i σ H' _ ⟨e, _⟩ => by rw [e]; exact .of e8) ?_ ?_
  · rintro i x σ H' hi ⟨rfl, v7, rfl⟩
    rw [List.getElem?_map] at hi
    obtain ⟨n, hn, rfl⟩ := Option.map_eq_some_iff.mp hi
    have hnS : n ∉ S0 := fun z => by
      have h2 := (List.mem_filter.mp (hsub n (List.mem_of_getElem? hn))).2
      rw [decide_eq_true ((ro.mem n).mpr z)] at h2
      cases h2
    walk_at "gb"
    refine ⟨p, n, L, S0, rfl, Ld8, hnS, ?_⟩
    walk_at "gb"
    exact ⟨rfl, _, rfl⟩
  rintro σ H9 ⟨rfl, v7, rfl⟩
  have X8 := Ld8.toLadX
  have hS8 := s48.seq hS4
  have e78 := s8 _ _ e7
  walk_at "gb"
  refine g_lenL (.of e78) ?_
  walk_at "gb"
  rw [List.length_map]
  refine ⟨p, (S0.length : Int), L, S0, rfl, Ld8, by omega, ?_⟩
  walk_at "gb"
  refine cell 2 hS8 ?_
  walk_at "gb"
  refine g_pow ⟨by decide, by decide, by decide⟩ ?_
  refine g_mod (by decide) ?_
  have c15 : 0 ≤ ns.getD 2 0 % (10 ^ (15 : Int).toNat) := Int.emod_nonneg _ (by decide)
  walk_at "gb"
  refine ⟨p, _, L, S0, rfl, Ld8, by omega, ?_⟩
  walk_at "gb"
  refine ⟨p, 0, L.w ^ L.h, L, S0, rfl, Ld8, fun _ _ _ _ st H10 s10 nst e10 => ?_, fun bad => absurd ⟨Int.le_refl _, by omega, by omega, Int.le_refl _⟩ bad⟩
  have em : Sk.mid S0 0 (L.w ^ L.h) = S0 := by
    unfold Sk.mid
    exact List.filter_eq_self.mpr fun z hz => decide_eq_true ⟨Ld4.lo z hz, Ld4.hi z hz⟩
  rw [em] at e10
  walk_at "gb"
  refine g_newL (by show 1 ≤ 1000; decide) fun hd H11 nhd s11 e11 => ?_
  walk_at "gb"
  have s811 := s10.trans s11
  have Ld11 := Ld8.same s811
  have X11 := Ld11.toLadX
  have sth : st ≠ hd := ne_of_none e10 nhd
  refine g_cut (fun σ' H12 => Same H9 H12 ∧ (∃ (as : List Addr) (xs : List (List V × List PyData)), H12 hd = some (.lst ((st :: as).map V.ref)) ∧ Ls K H12 (st :: as) ((S0.map V.int, S0.map PyData.int) :: xs) ∧ as.length ≤ 1) ∧ σ' = [some (.ref a), some (.int L.w), some (.int (L.w ^ L.h)), v, some (.ref p), some (.ref r2), some (.ref gn), v7, some (.ref hd), none, none, none, none, none, none]) (fun N hN => ?_) ?_
  · walk_at "gb"
    refine g_newL (by decide) fun nl H12 nn s12 e12 => ?_
    have r12 := s12 _ _ (s811 _ _ e78)
    have s812 := s811.trans s12
    refine g_neNil (dp_ints (.of r12)) (dp_nil (.of e12)) (sh_ints (k := 0) _) ?_
    walk_at "gb"
    refine g_ite (fun e => ?_) (fun _ => ?_)
    · have hne : 0 < S0.length := by
        cases S0 with
        | nil => cases e
        | cons x y => exact Nat.succ_pos _
      have Ld12 := Ld11.same s12
      have X12 := Ld12.toLadX
      walk_at "gb"
      refine ⟨ty_lst (s12 _ _ e11), ?_⟩
      walk_at "gb"
      refine cell 3 (s812.seq hS8) ?_
      walk_at "gb"
      refine g_lenL (.of r12) ?_
      walk_at "gb"
      rw [List.length_map]
      refine g_mod (by omega) ?_
      generalize ei : ns.getD 3 0 % (S0.length : Int) = ix
      have i1 : 0 ≤ ix := by rw [← ei]; exact Int.emod_nonneg _ (by omega)
      have i2 : ix < S0.length := by rw [← ei]; exact Int.emod_lt_of_pos _ (by omega)
      obtain ⟨j, rfl⟩ : ∃ j : Nat, ix = (j : Int) := ⟨ix.toNat, by omega⟩
      walk_at "gb"
      refine ⟨p, (j : Int), L, S0, rfl, Ld12, fun j2 x ej hx wy H13 s13 nwy twy => ?_, fun bad => absurd ⟨by omega, by omega⟩ bad⟩
      walk_at "gb"
      have s1113 := s12.trans s13
      refine g_app (s1113 _ _ e11) (by show 1 ≤ 1000; decide) ?_
      obtain ⟨as, ewy, pwy⟩ := twy
      have hdw : wy ≠ hd := Ne.symm (ne_of_none (s12 _ _ e11) nwy)
      have off13 : Same (off hd H13) (upd H13 hd (.lst ([V.ref st] ++ [V.ref wy]))) := by rw [← off_upd (o := .lst ([V.ref st] ++ [V.ref wy]))]; exact off_le
      have s913 : Same H9 (upd H13 hd (.lst ([V.ref st] ++ [V.ref wy]))) := same_mut ((s10.trans s11).trans s1113) (s10.free nhd)
      refine hN _ _ ⟨s913, ⟨[wy], [(as.map V.ref, (((Sk.trail L.w L.h S0 x).map sV).map fun y => PyData.tuple (y.map vD)))], upd_same, ?_, Nat.le_refl _⟩, rfl⟩
      refine .cons ⟨(upd_ne sth).trans (s1113 _ _ (s11 _ _ e10)), dpl_ints _, sh_ints (k := 1) _⟩ (.cons ⟨(upd_ne hdw).trans ewy, ?_, sh_tups (k := 0) _⟩ .nil)
      refine DpAll.mono off13 _ _ (dp_tups (Paired.mapP pwy fun b y eb => off_at (fun z => ?_) eb) sV_plain)
      have := s1113 _ _ e11
      rw [z, this] at eb; cases eb
    · walk_at "gb"
      refine hN _ _ ⟨s812, ⟨[], [], s12 _ _ e11, .cons ⟨s12 _ _ (s11 _ _ e10), dpl_ints _, sh_ints (k := 1) _⟩ .nil, by decide⟩, rfl⟩
  rintro σ' H12 ⟨s812, ⟨as, xs, e12, ls, las⟩, rfl⟩
  have Ld12 := Ld8.same s812
  have X12 := Ld12.toLadX
  have hS12 := s812.seq hS8
  have r12 := s812 _ _ e78
  walk_at "gb"
  refine g_lit (.of e12) ?_
  refine g_lcPL (.of e12) (fun j y H => ∀ x, ((S0.map V.int, S0.map PyData.int) :: xs)[j]? = some x → Dp K H y (.list x.2)) (fun j y H H' s h x hx => Dp.mono s _ _ (h x hx)) (by rw [List.length_map, List.length_cons]; omega) (fun D i x H' hD hi s13 ⟨ys, eD⟩ N hN => ?_) fun ke H13 ys nke s13 e13 l13 f13 => ?_
  · obtain ⟨b, hb, rfl⟩ := map_get hi
    have hlp := paired_len ls
    have hil : i < ((S0.map V.int, S0.map PyData.int) :: xs).length := by
      rw [← hlp]
      exact (List.getElem?_eq_some_iff.mp hb).1
    obtain ⟨b2, hb2, eb, db, _⟩ := paired_get ls (List.getElem?_eq_getElem hil)
    rw [hb] at hb2
    obtain rfl := Option.some.inj hb2
    walk_at "gb"
    refine ⟨rfl, ?_⟩
    walk_at "gb"
    refine g_listOf (.of (s13 _ _ eb)) fun q H14 nq s14 e14 => ?_
    refine hN _ _ s14 fun x hx => ?_
    rw [List.getElem?_eq_getElem hil] at hx
    obtain rfl := Option.some.inj hx
    exact .lst (.of (off_at (Ne.symm (ne_of_none eD nq)) e14)) (DpAll.mono (same_offN (s13.trans s14) hD) _ _ db)
  have lsl := paired_len ls
  have dk13 : Dp K H13 (.ref ke) (.list ((((S0.map V.int, S0.map PyData.int) :: xs)).map fun x => PyData.list x.2)) := .lst (.of e13) (dpl_get (by rw [l13, List.length_map, List.length_map, lsl]) fun j y d ey ed => by
    obtain ⟨x, hx, rfl⟩ := map_get ed
    exact Dp.mono off_le _ _ (f13 j y ey x hx))
  have dh13 : Dp K H13 (.ref hd) (.list ((((S0.map V.int, S0.map PyData.int) :: xs)).map fun x => PyData.list x.2)) := .lst (.of (s13 _ _ e12)) (ls_dpl (ls_same s13 ls))
  have sh3 : Sh 3 (.list ((((S0.map V.int, S0.map PyData.int) :: xs)).map fun x => PyData.list x.2)) := sh_lst (k := 2) (ls_sh ls)
  have Ld13 := Ld12.same s13
  have hS13 := s13.seq hS12
  have r13 := s13 _ _ r12
  walk_at "gw"
  refine g_ifP false (fun H14 => Same H13 H14) (fun R hR => ?_) (fun z => nomatch z) (fun _ H14 s14 => ?_)
  · walk_at "gb"
    refine g_newL (by decide) fun nl H14 nn s14 e14 => ?_
    have r14 := s14 _ _ r13
    refine g_neNil (dp_ints (.of r14)) (dp_nil (.of e14)) (sh_ints (k := 0) _) ?_
    walk_at "gb"
    refine g_ite (fun e => ?_) (fun e => ?_)
    · have hne : 0 < S0.length := by
        cases S0 with
        | nil => cases e
        | cons x y => exact Nat.succ_pos _
      walk_at "gb"
      refine cell 2 (s14.seq hS13) ?_
      walk_at "gb"
      refine g_lenL (.of r14) ?_
      walk_at "gb"
      rw [List.length_map]
      refine g_mod (by omega) ?_
      generalize ei : ns.getD 2 0 % (S0.length : Int) = ix
      have i1 : 0 ≤ ix := by rw [← ei]; exact Int.emod_nonneg _ (by omega)
      have i2 : ix < S0.length := by rw [← ei]; exact Int.emod_lt_of_pos _ (by omega)
      obtain ⟨j, rfl⟩ : ∃ j : Nat, ix = (j : Int) := ⟨ix.toNat, by omega⟩
      walk_at "gb"
      refine ⟨p, r2, j, _, L, S0, rfl, Ld13.same s14, r14, List.getElem?_eq_getElem (show j < S0.length by omega), fun H15 s15 => ?_⟩
      walk_at "gb"
      exact hR _ (s14.trans s15)
    · exact hR _ s14
  have Ld14 := Ld13.same s14
  have X14 := Ld14.toLadX
  have hS14 := s14.seq hS13
  have r14 := s14 _ _ r13
  walk_at "gb"
  refine g_lenL (.of r14) ?_
  walk_at "gb"
  rw [List.length_map]
  refine g_rng (by omega) (by omega) ?_
  rw [show ((S0.length : Int)).toNat = S0.length by omega]
  refine g_lcR (fun i => (S0.take i).map V.int) rfl ?_ ?_
  · intro D i H' hD hi s15 e15
    have Ld' := Ld14.same s15
    have X' := Ld'.toLadX
    walk_at "gb"
    refine ⟨rfl, ?_⟩
    walk_at "gb"
    rw [Int.zero_add]
    refine ⟨p, (i : Int), L, S0, rfl, Ld', fun j x ej hx H16 s16 => ?_, fun bad => absurd ⟨by omega, by omega⟩ bad⟩
    obtain rfl : j = i := by omega
    refine g_add1 hD (s15.trans s16) (s16 _ _ e15) (by rw [List.length_map, List.length_take]; omega) ?_
    rw [Sk.take_snoc hx, List.map_append]
    rfl
  intro at15 H15 nat s15 e15
  rw [List.take_length] at e15
  have s1315 := s14.trans s15
  walk_at "gb"
  refine g_neD (dp_ints (.of e15)) (dp_ints (.of (s15 _ _ r14))) (sh_ints (k := 0) _) ?_
  walk_at "gb"
  have hS15 := s15.seq hS14
  refine cell 2 hS15 ?_
  walk_at "gb"
  refine ⟨_, _, rfl, by omega, by omega, fun one o0 o1 => ?_⟩
  walk_at "gb"
  refine cell 3 hS15 ?_
  walk_at "gb"
  refine ⟨_, _, rfl, by omega, by omega, fun two t0 t1 => ?_⟩
  walk_at "gb"
  refine cell 3 hS15 ?_
  walk_at "gb"
  refine g_pow ⟨by decide, by decide, by decide⟩ ?_
  refine g_mod (by decide) ?_
  have f15 : 0 ≤ ns.getD 3 0 % (10 ^ (15 : Int).toNat) := Int.emod_nonneg _ (by decide)
  generalize ns.getD 3 0 % (10 ^ (15 : Int).toNat) = far at f15
  walk_at "gb"
  refine g_newT (by show 2 ≤ 1000; decide) fun p1 H16 np1 s16 e16 => ?_
  walk_at "gb"
  refine g_newT (by show 2 ≤ 1000; decide) fun p2 H17 np2 s17 e17 => ?_
  walk_at "gb"
  refine g_newT (by show 2 ≤ 1000; decide) fun p3 H18 np3 s18 e18 => ?_
  walk_at "gb"
  refine g_newT (by show 2 ≤ 1000; decide) fun p4 H19 np4 s19 e19 => ?_
  walk_at "gb"
  refine g_newL (by show 4 ≤ 1000; decide) fun q20 H20 nq20 s20 e20 => ?_
  refine g_lit (.of e20) ?_
  have s1820 := s19.trans s20
  have s1720 := s18.trans s1820
  have s1620 := s17.trans s1720
  have s1520 := s16.trans s1620
  have s1320 := s1315.trans s1520
  have Ld20 := Ld13.same s1320
  have pr : ∀ x ∈ ([.ref p1, .ref p2, .ref p3, .ref p4] : List V), ∃ (t : Addr) (lo hi : Int), x = .ref t ∧ H20 t = some (.tup [.int lo, .int hi]) ∧ ¬ (0 ≤ lo ∧ lo ≤ L.w ^ L.h ∧ 0 ≤ hi ∧ hi ≤ L.w ^ L.h) := fun x hx => by
    simp only [List.mem_cons, List.not_mem_nil, or_false] at hx
    rcases hx with rfl | rfl | rfl | rfl
    · exact ⟨p1, _, _, rfl, s1620 _ _ e16, by omega⟩
    · exact ⟨p2, _, _, rfl, s1720 _ _ e17, by omega⟩
    · exact ⟨p3, _, _, rfl, s1820 _ _ e18, by omega⟩
    · exact ⟨p4, _, _, rfl, s20 _ _ e19, by omega⟩
  refine for_list (K := K) (a := q20) (xs := [.ref p1, .ref p2, .ref p3, .ref p4]) (fun i σ H' => Same H20 H' ∧ ∃ v13 : Option V, σ = [some (.ref a), some (.int L.w), some (.int (L.w ^ L.h)), v, some (.ref p), some (.ref r2), some (.ref gn), v7, some (.ref hd), some (.ref ke), some (.int one), some (.int two), some (.int far), v13, none]) ⟨fun _ _ e => e, none, rfl⟩ (fun i σ H' _ ⟨s, _⟩ => s.seq (.of e20)) ?_ ?_
  · rintro i x σ H' hi ⟨s21, v13, rfl⟩
    obtain ⟨t, lo, hi2, rfl, et2, bad⟩ := pr x (List.mem_of_getElem? hi)
    walk_at "gb"
    refine g_ixT (.of (s21 _ _ et2)) (atI_c0 rfl) ?_
    walk_at "gb"
    refine g_ixT (.of (s21 _ _ et2)) (atI_c1 rfl) ?_
    walk_at "gb"
    refine ⟨p, lo, hi2, L, S0, rfl, Ld20.same s21, bad, fun H22 s22 => ?_⟩
    walk_at "gb"
    exact ⟨s21.trans s22, _, rfl⟩
  rintro σ H21 ⟨s21, v13, rfl⟩
  walk_at "gb"
  refine g_newT (by show 2 ≤ 1000; decide) fun p5 H22 np5 s22 e22 => ?_
  walk_at "gb"
  refine g_newT (by show 2 ≤ 1000; decide) fun p6 H23 np6 s23 e23 => ?_
  walk_at "gb"
  refine g_newT (by show 2 ≤ 1000; decide) fun p7 H24 np7 s24 e24 => ?_
  walk_at "gb"
  refine g_newL (by show 3 ≤ 1000; decide) fun q25 H25 nq25 s25 e25 => ?_
  refine g_lit (.of e25) ?_
  have s2325 := s24.trans s25
  have s2225 := s23.trans s2325
  have s1325 := (s1320.trans s21).trans (s22.trans s2225)
  have Ld25 := Ld13.same s1325
  have r25 := s1325 _ _ r13
  have pr2 : ∀ x ∈ ([.ref p5, .ref p6, .ref p7] : List V), ∃ (t : Addr) (lo hi : Int), x = .ref t ∧ H25 t = some (.tup [.int lo, .int hi]) ∧ 0 ≤ lo ∧ lo ≤ L.w ^ L.h ∧ 0 ≤ hi ∧ hi ≤ L.w ^ L.h := fun x hx => by
    simp only [List.mem_cons, List.not_mem_nil, or_false] at hx
    rcases hx with rfl | rfl | rfl
    · exact ⟨p5, _, _, rfl, s2225 _ _ e22, by omega, by omega, by omega, by omega⟩
    · exact ⟨p6, _, _, rfl, s2325 _ _ e23, by omega, by omega, by omega, by omega⟩
    · exact ⟨p7, _, _, rfl, s25 _ _ e24, by omega, by omega, by omega, by omega⟩
  refine for_list (K := K) (a := q25) (xs := [.ref p5, .ref p6, .ref p7]) (fun i σ H' => Same H25 H' ∧ ∃ v13 : Option V, σ = [some (.ref a), some (.int L.w), some (.int (L.w ^ L.h)), v, some (.ref p), some (.ref r2), some (.ref gn), v7, some (.ref hd), some (.ref ke), some (.int one), some (.int two), some (.int far), v13, none]) ⟨fun _ _ e => e, _, rfl⟩ (fun i σ H' _ ⟨s, _⟩ => s.seq (.of e25)) ?_ ?_
  · rintro i x σ H' hi ⟨s26, v13, rfl⟩
    obtain ⟨t, lo, hi2, rfl, et2, b1, b2, b3, b4⟩ := pr2 x (List.mem_of_getElem? hi)
    walk_at "gb"
    refine g_ixT (.of (s26 _ _ et2)) (atI_c0 rfl) ?_
    walk_at "gb"
    refine g_ixT (.of (s26 _ _ et2)) (atI_c1 rfl) ?_
    walk_at "gb"
    refine ⟨p, r2, lo, hi2, L, S0, rfl, Ld25.same s26, s26 _ _ r25, b1, b2, b3, b4, fun H27 s27 => ?_⟩
    walk_at "gb"
    exact ⟨s26.trans s27, _, rfl⟩
  rintro σ H26 ⟨s26, v14, rfl⟩
  have s1326 := s1325.trans s26
  walk_at "gb"
  refine g_eqD (Dp.mono s1326 _ _ dh13) (Dp.mono s1326 _ _ dk13) sh3 ?_
  walk_at "gb"
  refine g_ixL (.of (s1326 _ _ (s13 _ _ e12))) (atI_c0 rfl) ?_
  walk_at "gb"
  have st26 : H26 st = some (.lst (S0.map V.int)) := by
    cases ls with
    | cons h _ => exact s1326 _ _ (s13 _ _ h.1)
  refine g_eqD (dp_ints (.of st26)) (dp_ints (.of (s1326 _ _ r13))) (sh_ints (k := 0) _) ?_
  exact k _
end
end Lk

namespace Lk
open PySem PySem.Spec PyProof.Rows L2
theorem all_mk {l : PySem.W.OpenLaw} {w : World} {K : PySem.W.Frag} {h : Heap} {mg : Str → Option Value} {fa f_Ladder f_power f_init f__law_cell_at f__law_number f_nearest f_need f_has f_block f_alike f_go_out f_take f_behind f_tall f_stand_in f_put f__law_deed f__law_filled f_place f_steps_by_gaps f_way f_a_at f_counted f_stretch f_need_level f_ahead f__law_missing f__law_no_place f__law_whole f__law_gap f__law_way f__law_refused f__law_stretch f_law f_BadSize f_Missing f_NoLevel f_NoPlace f_OutOfRange f_Present : Addr} (X : K.In h) (G : h.Ns mainGlobals mg) (hfa : mg "law" = some (.ref fa))
    {od0 an0 : Option Addr} {sl0 : Array (Option Value)} {oc0 kV0 dc0 pm0 cd0 ct0 : Value} {od1 an1 : Option Addr} {sl1 : Array (Option Value)} {oc1 kV1 dc1 pm1 cd1 ct1 : Value} {od2 an2 : Option Addr} {sl2 : Array (Option Value)} {oc2 kV2 dc2 pm2 cd2 ct2 : Value} {od3 an3 : Option Addr} {sl3 : Array (Option Value)} {oc3 kV3 dc3 pm3 cd3 ct3 : Value} {od4 an4 : Option Addr} {sl4 : Array (Option Value)} {oc4 kV4 dc4 pm4 cd4 ct4 : Value} {od5 an5 : Option Addr} {sl5 : Array (Option Value)} {oc5 kV5 dc5 pm5 cd5 ct5 : Value} {od6 an6 : Option Addr} {sl6 : Array (Option Value)} {oc6 kV6 dc6 pm6 cd6 ct6 : Value} {od7 an7 : Option Addr} {sl7 : Array (Option Value)} {oc7 kV7 dc7 pm7 cd7 ct7 : Value} {od8 an8 : Option Addr} {sl8 : Array (Option Value)} {oc8 kV8 dc8 pm8 cd8 ct8 : Value} {od9 an9 : Option Addr} {sl9 : Array (Option Value)} {oc9 kV9 dc9 pm9 cd9 ct9 : Value} {od10 an10 : Option Addr} {sl10 : Array (Option Value)} {oc10 kV10 dc10 pm10 cd10 ct10 : Value} {od11 an11 : Option Addr} {sl11 : Array (Option Value)} {oc11 kV11 dc11 pm11 cd11 ct11 : Value} {od12 an12 : Option Addr} {sl12 : Array (Option Value)} {oc12 kV12 dc12 pm12 cd12 ct12 : Value} {od13 an13 : Option Addr} {sl13 : Array (Option Value)} {oc13 kV13 dc13 pm13 cd13 ct13 : Value} {od14 an14 : Option Addr} {sl14 : Array (Option Value)} {oc14 kV14 dc14 pm14 cd14 ct14 : Value} {od15 an15 : Option Addr} {sl15 : Array (Option Value)} {oc15 kV15 dc15 pm15 cd15 ct15 : Value} {od16 an16 : Option Addr} {sl16 : Array (Option Value)} {oc16 kV16 dc16 pm16 cd16 ct16 : Value} {od17 an17 : Option Addr} {sl17 : Array (Option Value)} {oc17 kV17 dc17 pm17 cd17 ct17 : Value} {od18 an18 : Option Addr} {sl18 : Array (Option Value)} {oc18 kV18 dc18 pm18 cd18 ct18 : Value} {od19 an19 : Option Addr} {sl19 : Array (Option Value)} {oc19 kV19 dc19 pm19 cd19 ct19 : Value} {od20 an20 : Option Addr} {sl20 : Array (Option Value)} {oc20 kV20 dc20 pm20 cd20 ct20 : Value} {od21 an21 : Option Addr} {sl21 : Array (Option Value)} {oc21 kV21 dc21 pm21 cd21 ct21 : Value} {od22 an22 : Option Addr} {sl22 : Array (Option Value)} {oc22 kV22 dc22 pm22 cd22 ct22 : Value} {od23 an23 : Option Addr} {sl23 : Array (Option Value)} {oc23 kV23 dc23 pm23 cd23 ct23 : Value} {od24 an24 : Option Addr} {sl24 : Array (Option Value)} {oc24 kV24 dc24 pm24 cd24 ct24 : Value} {od25 an25 : Option Addr} {sl25 : Array (Option Value)} {oc25 kV25 dc25 pm25 cd25 ct25 : Value} {od26 an26 : Option Addr} {sl26 : Array (Option Value)} {oc26 kV26 dc26 pm26 cd26 ct26 : Value} {od27 an27 : Option Addr} {sl27 : Array (Option Value)} {oc27 kV27 dc27 pm27 cd27 ct27 : Value} {od28 an28 : Option Addr} {sl28 : Array (Option Value)} {oc28 kV28 dc28 pm28 cd28 ct28 : Value} {od29 an29 : Option Addr} {sl29 : Array (Option Value)} {oc29 kV29 dc29 pm29 cd29 ct29 : Value} {od30 an30 : Option Addr} {sl30 : Array (Option Value)} {oc30 kV30 dc30 pm30 cd30 ct30 : Value} {od31 an31 : Option Addr} {sl31 : Array (Option Value)} {oc31 kV31 dc31 pm31 cd31 ct31 : Value} {od32 an32 : Option Addr} {sl32 : Array (Option Value)} {oc32 kV32 dc32 pm32 cd32 ct32 : Value}
    (aC : PySem.W.nsIn K mainGlobals "Ladder" = some (some (.ref f_Ladder)))
    (a0 : PySem.W.nsIn K mainGlobals "power" = some (some (.ref f_power)))
    (l0 : K.lookup f_power = some ⟨oc0, od0, .func (PySem.W.fnOf "power" "power" (defArgs s_power) (defBody s_power) (defScope s_power) .none kV0 dc0 pm0 an0 cd0 ct0), sl0⟩)
    (c0 : PySem.W.codeIn K cd0 "power" = true)
    (k0 : PySem.W.keepIn K (.ref f_power) = true)
    (a1 : PySem.W.findIn K (.ref f_Ladder) "__init__" = some (some (.ref f_init)))
    (i1 : PySem.W.isFn K (.ref f_init) = true)
    (l1 : K.lookup f_init = some ⟨oc1, od1, .func (PySem.W.fnOf "__init__" "Ladder.__init__" (defArgs s___init__) (defBody s___init__) (defScope s___init__) .none kV1 dc1 pm1 an1 cd1 ct1), sl1⟩)
    (c1 : PySem.W.codeIn K cd1 "Ladder.__init__" = true)
    (k1 : PySem.W.keepIn K (.ref f_init) = true)
    (a2 : PySem.W.nsIn K mainGlobals "_law_cell_at" = some (some (.ref f__law_cell_at)))
    (l2 : K.lookup f__law_cell_at = some ⟨oc2, od2, .func (PySem.W.fnOf "_law_cell_at" "_law_cell_at" (defArgs s__law_cell_at) (defBody s__law_cell_at) (defScope s__law_cell_at) .none kV2 dc2 pm2 an2 cd2 ct2), sl2⟩)
    (c2 : PySem.W.codeIn K cd2 "_law_cell_at" = true)
    (k2 : PySem.W.keepIn K (.ref f__law_cell_at) = true)
    (a3 : PySem.W.nsIn K mainGlobals "_law_number" = some (some (.ref f__law_number)))
    (l3 : K.lookup f__law_number = some ⟨oc3, od3, .func (PySem.W.fnOf "_law_number" "_law_number" (defArgs s__law_number) (defBody s__law_number) (defScope s__law_number) .none kV3 dc3 pm3 an3 cd3 ct3), sl3⟩)
    (c3 : PySem.W.codeIn K cd3 "_law_number" = true)
    (k3 : PySem.W.keepIn K (.ref f__law_number) = true)
    (a4 : PySem.W.nsIn K mainGlobals "nearest" = some (some (.ref f_nearest)))
    (l4 : K.lookup f_nearest = some ⟨oc4, od4, .func (PySem.W.fnOf "nearest" "nearest" (defArgs s_nearest) (defBody s_nearest) (defScope s_nearest) .none kV4 dc4 pm4 an4 cd4 ct4), sl4⟩)
    (c4 : PySem.W.codeIn K cd4 "nearest" = true)
    (k4 : PySem.W.keepIn K (.ref f_nearest) = true)
    (a5 : PySem.W.findIn K (.ref f_Ladder) "need" = some (some (.ref f_need)))
    (i5 : PySem.W.isFn K (.ref f_need) = true)
    (l5 : K.lookup f_need = some ⟨oc5, od5, .func (PySem.W.fnOf "need" "Ladder.need" (defArgs s_need) (defBody s_need) (defScope s_need) .none kV5 dc5 pm5 an5 cd5 ct5), sl5⟩)
    (c5 : PySem.W.codeIn K cd5 "Ladder.need" = true)
    (k5 : PySem.W.keepIn K (.ref f_need) = true)
    (a6 : PySem.W.findIn K (.ref f_Ladder) "has" = some (some (.ref f_has)))
    (i6 : PySem.W.isFn K (.ref f_has) = true)
    (l6 : K.lookup f_has = some ⟨oc6, od6, .func (PySem.W.fnOf "has" "Ladder.has" (defArgs s_has) (defBody s_has) (defScope s_has) .none kV6 dc6 pm6 an6 cd6 ct6), sl6⟩)
    (c6 : PySem.W.codeIn K cd6 "Ladder.has" = true)
    (k6 : PySem.W.keepIn K (.ref f_has) = true)
    (a7 : PySem.W.nsIn K mainGlobals "block" = some (some (.ref f_block)))
    (l7 : K.lookup f_block = some ⟨oc7, od7, .func (PySem.W.fnOf "block" "block" (defArgs s_block) (defBody s_block) (defScope s_block) .none kV7 dc7 pm7 an7 cd7 ct7), sl7⟩)
    (c7 : PySem.W.codeIn K cd7 "block" = true)
    (k7 : PySem.W.keepIn K (.ref f_block) = true)
    (a8 : PySem.W.findIn K (.ref f_Ladder) "alike" = some (some (.ref f_alike)))
    (i8 : PySem.W.isFn K (.ref f_alike) = true)
    (l8 : K.lookup f_alike = some ⟨oc8, od8, .func (PySem.W.fnOf "alike" "Ladder.alike" (defArgs s_alike) (defBody s_alike) (defScope s_alike) .none kV8 dc8 pm8 an8 cd8 ct8), sl8⟩)
    (c8 : PySem.W.codeIn K cd8 "Ladder.alike" = true)
    (k8 : PySem.W.keepIn K (.ref f_alike) = true)
    (a9 : PySem.W.findIn K (.ref f_Ladder) "go_out" = some (some (.ref f_go_out)))
    (i9 : PySem.W.isFn K (.ref f_go_out) = true)
    (l9 : K.lookup f_go_out = some ⟨oc9, od9, .func (PySem.W.fnOf "go_out" "Ladder.go_out" (defArgs s_go_out) (defBody s_go_out) (defScope s_go_out) .none kV9 dc9 pm9 an9 cd9 ct9), sl9⟩)
    (c9 : PySem.W.codeIn K cd9 "Ladder.go_out" = true)
    (k9 : PySem.W.keepIn K (.ref f_go_out) = true)
    (a10 : PySem.W.findIn K (.ref f_Ladder) "take" = some (some (.ref f_take)))
    (i10 : PySem.W.isFn K (.ref f_take) = true)
    (l10 : K.lookup f_take = some ⟨oc10, od10, .func (PySem.W.fnOf "take" "Ladder.take" (defArgs s_take) (defBody s_take) (defScope s_take) .none kV10 dc10 pm10 an10 cd10 ct10), sl10⟩)
    (c10 : PySem.W.codeIn K cd10 "Ladder.take" = true)
    (k10 : PySem.W.keepIn K (.ref f_take) = true)
    (a11 : PySem.W.findIn K (.ref f_Ladder) "behind" = some (some (.ref f_behind)))
    (i11 : PySem.W.isFn K (.ref f_behind) = true)
    (l11 : K.lookup f_behind = some ⟨oc11, od11, .func (PySem.W.fnOf "behind" "Ladder.behind" (defArgs s_behind) (defBody s_behind) (defScope s_behind) .none kV11 dc11 pm11 an11 cd11 ct11), sl11⟩)
    (c11 : PySem.W.codeIn K cd11 "Ladder.behind" = true)
    (k11 : PySem.W.keepIn K (.ref f_behind) = true)
    (a12 : PySem.W.nsIn K mainGlobals "tall" = some (some (.ref f_tall)))
    (l12 : K.lookup f_tall = some ⟨oc12, od12, .func (PySem.W.fnOf "tall" "tall" (defArgs s_tall) (defBody s_tall) (defScope s_tall) .none kV12 dc12 pm12 an12 cd12 ct12), sl12⟩)
    (c12 : PySem.W.codeIn K cd12 "tall" = true)
    (k12 : PySem.W.keepIn K (.ref f_tall) = true)
    (a13 : PySem.W.findIn K (.ref f_Ladder) "stand_in" = some (some (.ref f_stand_in)))
    (i13 : PySem.W.isFn K (.ref f_stand_in) = true)
    (l13 : K.lookup f_stand_in = some ⟨oc13, od13, .func (PySem.W.fnOf "stand_in" "Ladder.stand_in" (defArgs s_stand_in) (defBody s_stand_in) (defScope s_stand_in) .none kV13 dc13 pm13 an13 cd13 ct13), sl13⟩)
    (c13 : PySem.W.codeIn K cd13 "Ladder.stand_in" = true)
    (k13 : PySem.W.keepIn K (.ref f_stand_in) = true)
    (a14 : PySem.W.findIn K (.ref f_Ladder) "put" = some (some (.ref f_put)))
    (i14 : PySem.W.isFn K (.ref f_put) = true)
    (l14 : K.lookup f_put = some ⟨oc14, od14, .func (PySem.W.fnOf "put" "Ladder.put" (defArgs s_put) (defBody s_put) (defScope s_put) .none kV14 dc14 pm14 an14 cd14 ct14), sl14⟩)
    (c14 : PySem.W.codeIn K cd14 "Ladder.put" = true)
    (k14 : PySem.W.keepIn K (.ref f_put) = true)
    (a15 : PySem.W.nsIn K mainGlobals "_law_deed" = some (some (.ref f__law_deed)))
    (l15 : K.lookup f__law_deed = some ⟨oc15, od15, .func (PySem.W.fnOf "_law_deed" "_law_deed" (defArgs s__law_deed) (defBody s__law_deed) (defScope s__law_deed) .none kV15 dc15 pm15 an15 cd15 ct15), sl15⟩)
    (c15 : PySem.W.codeIn K cd15 "_law_deed" = true)
    (k15 : PySem.W.keepIn K (.ref f__law_deed) = true)
    (a16 : PySem.W.nsIn K mainGlobals "_law_filled" = some (some (.ref f__law_filled)))
    (l16 : K.lookup f__law_filled = some ⟨oc16, od16, .func (PySem.W.fnOf "_law_filled" "_law_filled" (defArgs s__law_filled) (defBody s__law_filled) (defScope s__law_filled) .none kV16 dc16 pm16 an16 cd16 ct16), sl16⟩)
    (c16 : PySem.W.codeIn K cd16 "_law_filled" = true)
    (k16 : PySem.W.keepIn K (.ref f__law_filled) = true)
    (a17 : PySem.W.findIn K (.ref f_Ladder) "place" = some (some (.ref f_place)))
    (i17 : PySem.W.isFn K (.ref f_place) = true)
    (l17 : K.lookup f_place = some ⟨oc17, od17, .func (PySem.W.fnOf "place" "Ladder.place" (defArgs s_place) (defBody s_place) (defScope s_place) .none kV17 dc17 pm17 an17 cd17 ct17), sl17⟩)
    (c17 : PySem.W.codeIn K cd17 "Ladder.place" = true)
    (k17 : PySem.W.keepIn K (.ref f_place) = true)
    (a18 : PySem.W.nsIn K mainGlobals "steps_by_gaps" = some (some (.ref f_steps_by_gaps)))
    (l18 : K.lookup f_steps_by_gaps = some ⟨oc18, od18, .func (PySem.W.fnOf "steps_by_gaps" "steps_by_gaps" (defArgs s_steps_by_gaps) (defBody s_steps_by_gaps) (defScope s_steps_by_gaps) .none kV18 dc18 pm18 an18 cd18 ct18), sl18⟩)
    (c18 : PySem.W.codeIn K cd18 "steps_by_gaps" = true)
    (k18 : PySem.W.keepIn K (.ref f_steps_by_gaps) = true)
    (a19 : PySem.W.findIn K (.ref f_Ladder) "way" = some (some (.ref f_way)))
    (i19 : PySem.W.isFn K (.ref f_way) = true)
    (l19 : K.lookup f_way = some ⟨oc19, od19, .func (PySem.W.fnOf "way" "Ladder.way" (defArgs s_way) (defBody s_way) (defScope s_way) .none kV19 dc19 pm19 an19 cd19 ct19), sl19⟩)
    (c19 : PySem.W.codeIn K cd19 "Ladder.way" = true)
    (k19 : PySem.W.keepIn K (.ref f_way) = true)
    (a20 : PySem.W.findIn K (.ref f_Ladder) "at" = some (some (.ref f_a_at)))
    (i20 : PySem.W.isFn K (.ref f_a_at) = true)
    (l20 : K.lookup f_a_at = some ⟨oc20, od20, .func (PySem.W.fnOf "at" "Ladder.at" (defArgs s_at) (defBody s_at) (defScope s_at) .none kV20 dc20 pm20 an20 cd20 ct20), sl20⟩)
    (c20 : PySem.W.codeIn K cd20 "Ladder.at" = true)
    (k20 : PySem.W.keepIn K (.ref f_a_at) = true)
    (a21 : PySem.W.findIn K (.ref f_Ladder) "counted" = some (some (.ref f_counted)))
    (i21 : PySem.W.isFn K (.ref f_counted) = true)
    (l21 : K.lookup f_counted = some ⟨oc21, od21, .func (PySem.W.fnOf "counted" "Ladder.counted" (defArgs s_counted) (defBody s_counted) (defScope s_counted) .none kV21 dc21 pm21 an21 cd21 ct21), sl21⟩)
    (c21 : PySem.W.codeIn K cd21 "Ladder.counted" = true)
    (k21 : PySem.W.keepIn K (.ref f_counted) = true)
    (a22 : PySem.W.findIn K (.ref f_Ladder) "stretch" = some (some (.ref f_stretch)))
    (i22 : PySem.W.isFn K (.ref f_stretch) = true)
    (l22 : K.lookup f_stretch = some ⟨oc22, od22, .func (PySem.W.fnOf "stretch" "Ladder.stretch" (defArgs s_stretch) (defBody s_stretch) (defScope s_stretch) .none kV22 dc22 pm22 an22 cd22 ct22), sl22⟩)
    (c22 : PySem.W.codeIn K cd22 "Ladder.stretch" = true)
    (k22 : PySem.W.keepIn K (.ref f_stretch) = true)
    (a23 : PySem.W.findIn K (.ref f_Ladder) "need_level" = some (some (.ref f_need_level)))
    (i23 : PySem.W.isFn K (.ref f_need_level) = true)
    (l23 : K.lookup f_need_level = some ⟨oc23, od23, .func (PySem.W.fnOf "need_level" "Ladder.need_level" (defArgs s_need_level) (defBody s_need_level) (defScope s_need_level) .none kV23 dc23 pm23 an23 cd23 ct23), sl23⟩)
    (c23 : PySem.W.codeIn K cd23 "Ladder.need_level" = true)
    (k23 : PySem.W.keepIn K (.ref f_need_level) = true)
    (a24 : PySem.W.findIn K (.ref f_Ladder) "ahead" = some (some (.ref f_ahead)))
    (i24 : PySem.W.isFn K (.ref f_ahead) = true)
    (l24 : K.lookup f_ahead = some ⟨oc24, od24, .func (PySem.W.fnOf "ahead" "Ladder.ahead" (defArgs s_ahead) (defBody s_ahead) (defScope s_ahead) .none kV24 dc24 pm24 an24 cd24 ct24), sl24⟩)
    (c24 : PySem.W.codeIn K cd24 "Ladder.ahead" = true)
    (k24 : PySem.W.keepIn K (.ref f_ahead) = true)
    (a25 : PySem.W.nsIn K mainGlobals "_law_missing" = some (some (.ref f__law_missing)))
    (l25 : K.lookup f__law_missing = some ⟨oc25, od25, .func (PySem.W.fnOf "_law_missing" "_law_missing" (defArgs s__law_missing) (defBody s__law_missing) (defScope s__law_missing) .none kV25 dc25 pm25 an25 cd25 ct25), sl25⟩)
    (c25 : PySem.W.codeIn K cd25 "_law_missing" = true)
    (k25 : PySem.W.keepIn K (.ref f__law_missing) = true)
    (a26 : PySem.W.nsIn K mainGlobals "_law_no_place" = some (some (.ref f__law_no_place)))
    (l26 : K.lookup f__law_no_place = some ⟨oc26, od26, .func (PySem.W.fnOf "_law_no_place" "_law_no_place" (defArgs s__law_no_place) (defBody s__law_no_place) (defScope s__law_no_place) .none kV26 dc26 pm26 an26 cd26 ct26), sl26⟩)
    (c26 : PySem.W.codeIn K cd26 "_law_no_place" = true)
    (k26 : PySem.W.keepIn K (.ref f__law_no_place) = true)
    (a27 : PySem.W.nsIn K mainGlobals "_law_whole" = some (some (.ref f__law_whole)))
    (l27 : K.lookup f__law_whole = some ⟨oc27, od27, .func (PySem.W.fnOf "_law_whole" "_law_whole" (defArgs s__law_whole) (defBody s__law_whole) (defScope s__law_whole) .none kV27 dc27 pm27 an27 cd27 ct27), sl27⟩)
    (c27 : PySem.W.codeIn K cd27 "_law_whole" = true)
    (k27 : PySem.W.keepIn K (.ref f__law_whole) = true)
    (a28 : PySem.W.nsIn K mainGlobals "_law_gap" = some (some (.ref f__law_gap)))
    (l28 : K.lookup f__law_gap = some ⟨oc28, od28, .func (PySem.W.fnOf "_law_gap" "_law_gap" (defArgs s__law_gap) (defBody s__law_gap) (defScope s__law_gap) .none kV28 dc28 pm28 an28 cd28 ct28), sl28⟩)
    (c28 : PySem.W.codeIn K cd28 "_law_gap" = true)
    (k28 : PySem.W.keepIn K (.ref f__law_gap) = true)
    (a29 : PySem.W.nsIn K mainGlobals "_law_way" = some (some (.ref f__law_way)))
    (l29 : K.lookup f__law_way = some ⟨oc29, od29, .func (PySem.W.fnOf "_law_way" "_law_way" (defArgs s__law_way) (defBody s__law_way) (defScope s__law_way) .none kV29 dc29 pm29 an29 cd29 ct29), sl29⟩)
    (c29 : PySem.W.codeIn K cd29 "_law_way" = true)
    (k29 : PySem.W.keepIn K (.ref f__law_way) = true)
    (a30 : PySem.W.nsIn K mainGlobals "_law_refused" = some (some (.ref f__law_refused)))
    (l30 : K.lookup f__law_refused = some ⟨oc30, od30, .func (PySem.W.fnOf "_law_refused" "_law_refused" (defArgs s__law_refused) (defBody s__law_refused) (defScope s__law_refused) .none kV30 dc30 pm30 an30 cd30 ct30), sl30⟩)
    (c30 : PySem.W.codeIn K cd30 "_law_refused" = true)
    (k30 : PySem.W.keepIn K (.ref f__law_refused) = true)
    (a31 : PySem.W.nsIn K mainGlobals "_law_stretch" = some (some (.ref f__law_stretch)))
    (l31 : K.lookup f__law_stretch = some ⟨oc31, od31, .func (PySem.W.fnOf "_law_stretch" "_law_stretch" (defArgs s__law_stretch) (defBody s__law_stretch) (defScope s__law_stretch) .none kV31 dc31 pm31 an31 cd31 ct31), sl31⟩)
    (c31 : PySem.W.codeIn K cd31 "_law_stretch" = true)
    (k31 : PySem.W.keepIn K (.ref f__law_stretch) = true)
    (a32 : PySem.W.nsIn K mainGlobals "law" = some (some (.ref f_law)))
    (l32 : K.lookup f_law = some ⟨oc32, od32, .func (PySem.W.fnOf "law" "law" (defArgs s_law) (defBody s_law) (defScope s_law) .none kV32 dc32 pm32 an32 cd32 ct32), sl32⟩)
    (c32 : PySem.W.codeIn K cd32 "law" = true)
    (k32 : PySem.W.keepIn K (.ref f_law) = true)
    (z_all : PySem.W.nsIn K mainGlobals "all" = some none)
    (z_bool : PySem.W.nsIn K mainGlobals "bool" = some none)
    (z_int : PySem.W.nsIn K mainGlobals "int" = some none)
    (z_isinstance : PySem.W.nsIn K mainGlobals "isinstance" = some none)
    (z_len : PySem.W.nsIn K mainGlobals "len" = some none)
    (z_list : PySem.W.nsIn K mainGlobals "list" = some none)
    (z_max : PySem.W.nsIn K mainGlobals "max" = some none)
    (z_min : PySem.W.nsIn K mainGlobals "min" = some none)
    (z_range : PySem.W.nsIn K mainGlobals "range" = some none)
    (z_sorted : PySem.W.nsIn K mainGlobals "sorted" = some none)
    (z_tuple : PySem.W.nsIn K mainGlobals "tuple" = some none)
    (pg : PySem.W.plainGet K f_Ladder Str.empty = true)
    (hd : PySem.W.hasDictIn K f_Ladder = true)
    (po : PySem.W.plainOver K f_Ladder = true)
    (sa : PySem.W.findIn K (.ref f_Ladder) "__setattr__" = some (some (.builtin "object.__setattr__")))
    (n_width : PySem.W.findIn K (.ref f_Ladder) "width" = some none)
    (n_high : PySem.W.findIn K (.ref f_Ladder) "high" = some none)
    (n_limit : PySem.W.findIn K (.ref f_Ladder) "limit" = some none)
    (n_many : PySem.W.findIn K (.ref f_Ladder) "many" = some none)
    (n_least : PySem.W.findIn K (.ref f_Ladder) "least" = some none)
    (n_nexts : PySem.W.findIn K (.ref f_Ladder) "nexts" = some none)
    (n_gaps : PySem.W.findIn K (.ref f_Ladder) "gaps" = some none)
    (mk : PySem.W.makesIn K f_Ladder = true)
    (kc : PySem.W.keepIn K (.ref f_Ladder) = true)
    (x1BadSize : PySem.W.nsIn K mainGlobals "BadSize" = some (some (.ref f_BadSize)))
    (x2BadSize : PySem.W.excIn K f_BadSize [.type "ValueError", .type "Exception", .type "BaseException", .type "object"] "ValueError.__new__" = true)
    (x3BadSize : PySem.W.keepIn K (.ref f_BadSize) = true)
    (x4BadSize : PySem.W.subIn K (.ref f_BadSize) (.type "BaseException") = some true)
    (x5BadSize : PySem.W.typeIn K (.ref f_BadSize) = some (.type "type"))
    (x6BadSize : PySem.W.hasDictIn K f_BadSize = true)
    (x1Missing : PySem.W.nsIn K mainGlobals "Missing" = some (some (.ref f_Missing)))
    (x2Missing : PySem.W.excIn K f_Missing [.type "ValueError", .type "Exception", .type "BaseException", .type "object"] "ValueError.__new__" = true)
    (x3Missing : PySem.W.keepIn K (.ref f_Missing) = true)
    (x4Missing : PySem.W.subIn K (.ref f_Missing) (.type "BaseException") = some true)
    (x5Missing : PySem.W.typeIn K (.ref f_Missing) = some (.type "type"))
    (x6Missing : PySem.W.hasDictIn K f_Missing = true)
    (x1NoLevel : PySem.W.nsIn K mainGlobals "NoLevel" = some (some (.ref f_NoLevel)))
    (x2NoLevel : PySem.W.excIn K f_NoLevel [.type "ValueError", .type "Exception", .type "BaseException", .type "object"] "ValueError.__new__" = true)
    (x3NoLevel : PySem.W.keepIn K (.ref f_NoLevel) = true)
    (x4NoLevel : PySem.W.subIn K (.ref f_NoLevel) (.type "BaseException") = some true)
    (x5NoLevel : PySem.W.typeIn K (.ref f_NoLevel) = some (.type "type"))
    (x6NoLevel : PySem.W.hasDictIn K f_NoLevel = true)
    (x1NoPlace : PySem.W.nsIn K mainGlobals "NoPlace" = some (some (.ref f_NoPlace)))
    (x2NoPlace : PySem.W.excIn K f_NoPlace [.type "ValueError", .type "Exception", .type "BaseException", .type "object"] "ValueError.__new__" = true)
    (x3NoPlace : PySem.W.keepIn K (.ref f_NoPlace) = true)
    (x4NoPlace : PySem.W.subIn K (.ref f_NoPlace) (.type "BaseException") = some true)
    (x5NoPlace : PySem.W.typeIn K (.ref f_NoPlace) = some (.type "type"))
    (x6NoPlace : PySem.W.hasDictIn K f_NoPlace = true)
    (x1OutOfRange : PySem.W.nsIn K mainGlobals "OutOfRange" = some (some (.ref f_OutOfRange)))
    (x2OutOfRange : PySem.W.excIn K f_OutOfRange [.type "ValueError", .type "Exception", .type "BaseException", .type "object"] "ValueError.__new__" = true)
    (x3OutOfRange : PySem.W.keepIn K (.ref f_OutOfRange) = true)
    (x4OutOfRange : PySem.W.subIn K (.ref f_OutOfRange) (.type "BaseException") = some true)
    (x5OutOfRange : PySem.W.typeIn K (.ref f_OutOfRange) = some (.type "type"))
    (x6OutOfRange : PySem.W.hasDictIn K f_OutOfRange = true)
    (x1Present : PySem.W.nsIn K mainGlobals "Present" = some (some (.ref f_Present)))
    (x2Present : PySem.W.excIn K f_Present [.type "ValueError", .type "Exception", .type "BaseException", .type "object"] "ValueError.__new__" = true)
    (x3Present : PySem.W.keepIn K (.ref f_Present) = true)
    (x4Present : PySem.W.subIn K (.ref f_Present) (.type "BaseException") = some true)
    (x5Present : PySem.W.typeIn K (.ref f_Present) = some (.type "type"))
    (x6Present : PySem.W.hasDictIn K f_Present = true)
    (qe_BadSize_Missing : PySem.W.subIn K (.ref f_BadSize) (.ref f_Missing) = some false)
    (qe_BadSize_NoPlace : PySem.W.subIn K (.ref f_BadSize) (.ref f_NoPlace) = some false)
    (qe_BadSize_OutOfRange : PySem.W.subIn K (.ref f_BadSize) (.ref f_OutOfRange) = some false)
    (qe_Missing_Missing : PySem.W.subIn K (.ref f_Missing) (.ref f_Missing) = some true)
    (qe_Missing_NoPlace : PySem.W.subIn K (.ref f_Missing) (.ref f_NoPlace) = some false)
    (qe_Missing_OutOfRange : PySem.W.subIn K (.ref f_Missing) (.ref f_OutOfRange) = some false)
    (qe_NoLevel_Missing : PySem.W.subIn K (.ref f_NoLevel) (.ref f_Missing) = some false)
    (qe_NoLevel_NoPlace : PySem.W.subIn K (.ref f_NoLevel) (.ref f_NoPlace) = some false)
    (qe_NoLevel_OutOfRange : PySem.W.subIn K (.ref f_NoLevel) (.ref f_OutOfRange) = some false)
    (qe_NoPlace_Missing : PySem.W.subIn K (.ref f_NoPlace) (.ref f_Missing) = some false)
    (qe_NoPlace_NoPlace : PySem.W.subIn K (.ref f_NoPlace) (.ref f_NoPlace) = some true)
    (qe_NoPlace_OutOfRange : PySem.W.subIn K (.ref f_NoPlace) (.ref f_OutOfRange) = some false)
    (qe_OutOfRange_Missing : PySem.W.subIn K (.ref f_OutOfRange) (.ref f_Missing) = some false)
    (qe_OutOfRange_NoPlace : PySem.W.subIn K (.ref f_OutOfRange) (.ref f_NoPlace) = some false)
    (qe_OutOfRange_OutOfRange : PySem.W.subIn K (.ref f_OutOfRange) (.ref f_OutOfRange) = some true)
    (qe_Present_Missing : PySem.W.subIn K (.ref f_Present) (.ref f_Missing) = some false)
    (qe_Present_NoPlace : PySem.W.subIn K (.ref f_Present) (.ref f_NoPlace) = some false)
    (qe_Present_OutOfRange : PySem.W.subIn K (.ref f_Present) (.ref f_OutOfRange) = some false)
    : ∃ fd : FuncData, (∀ (s : Shared) (v : Value), BindsTo s fd ⟨[v], []⟩ [("_law_script", v)]) ∧ ∀ base : Heap, K.In base → base.Ns mainGlobals mg → FnOk l.prog w K mg base CX0 8 fa fd ["_law_script"] (spLaw K) := by
  have e := hfa.symm.trans (PySem.W.mg_of X G a32)
  cases e
  have T : Txt K mg { power := f_power, init := f_init, _law_cell_at := f__law_cell_at, _law_number := f__law_number, nearest := f_nearest, need := f_need, has := f_has, block := f_block, alike := f_alike, go_out := f_go_out, take := f_take, behind := f_behind, tall := f_tall, stand_in := f_stand_in, put := f_put, _law_deed := f__law_deed, _law_filled := f__law_filled, place := f_place, steps_by_gaps := f_steps_by_gaps, way := f_way, a_at := f_a_at, counted := f_counted, stretch := f_stretch, need_level := f_need_level, ahead := f_ahead, _law_missing := f__law_missing, _law_no_place := f__law_no_place, _law_whole := f__law_whole, _law_gap := f__law_gap, _law_way := f__law_way, _law_refused := f__law_refused, _law_stretch := f__law_stretch, law := fa, Ladder := f_Ladder, BadSize := f_BadSize, Missing := f_Missing, NoLevel := f_NoLevel, NoPlace := f_NoPlace, OutOfRange := f_OutOfRange, Present := f_Present } :=
    { f_power := ⟨_, fun_mk (st := s_power) l0 c0 k0⟩,
      g_power := PySem.W.mg_of X G a0,
      k_power := k0,
      f___init__ := ⟨_, fun_mk (st := s___init__) l1 c1 k1⟩,
      f__law_cell_at := ⟨_, fun_mk (st := s__law_cell_at) l2 c2 k2⟩,
      g__law_cell_at := PySem.W.mg_of X G a2,
      k__law_cell_at := k2,
      f__law_number := ⟨_, fun_mk (st := s__law_number) l3 c3 k3⟩,
      g__law_number := PySem.W.mg_of X G a3,
      k__law_number := k3,
      f_nearest := ⟨_, fun_mk (st := s_nearest) l4 c4 k4⟩,
      g_nearest := PySem.W.mg_of X G a4,
      k_nearest := k4,
      f_need := ⟨_, fun_mk (st := s_need) l5 c5 k5⟩,
      m_need := ⟨a5, i5, k5⟩,
      f_has := ⟨_, fun_mk (st := s_has) l6 c6 k6⟩,
      m_has := ⟨a6, i6, k6⟩,
      f_block := ⟨_, fun_mk (st := s_block) l7 c7 k7⟩,
      g_block := PySem.W.mg_of X G a7,
      k_block := k7,
      f_alike := ⟨_, fun_mk (st := s_alike) l8 c8 k8⟩,
      m_alike := ⟨a8, i8, k8⟩,
      f_go_out := ⟨_, fun_mk (st := s_go_out) l9 c9 k9⟩,
      m_go_out := ⟨a9, i9, k9⟩,
      f_take := ⟨_, fun_mk (st := s_take) l10 c10 k10⟩,
      m_take := ⟨a10, i10, k10⟩,
      f_behind := ⟨_, fun_mk (st := s_behind) l11 c11 k11⟩,
      m_behind := ⟨a11, i11, k11⟩,
      f_tall := ⟨_, fun_mk (st := s_tall) l12 c12 k12⟩,
      g_tall := PySem.W.mg_of X G a12,
      k_tall := k12,
      f_stand_in := ⟨_, fun_mk (st := s_stand_in) l13 c13 k13⟩,
      m_stand_in := ⟨a13, i13, k13⟩,
      f_put := ⟨_, fun_mk (st := s_put) l14 c14 k14⟩,
      m_put := ⟨a14, i14, k14⟩,
      f__law_deed := ⟨_, fun_mk (st := s__law_deed) l15 c15 k15⟩,
      g__law_deed := PySem.W.mg_of X G a15,
      k__law_deed := k15,
      f__law_filled := ⟨_, fun_mk (st := s__law_filled) l16 c16 k16⟩,
      g__law_filled := PySem.W.mg_of X G a16,
      k__law_filled := k16,
      f_place := ⟨_, fun_mk (st := s_place) l17 c17 k17⟩,
      m_place := ⟨a17, i17, k17⟩,
      f_steps_by_gaps := ⟨_, fun_mk (st := s_steps_by_gaps) l18 c18 k18⟩,
      g_steps_by_gaps := PySem.W.mg_of X G a18,
      k_steps_by_gaps := k18,
      f_way := ⟨_, fun_mk (st := s_way) l19 c19 k19⟩,
      m_way := ⟨a19, i19, k19⟩,
      f_at := ⟨_, fun_mk (st := s_at) l20 c20 k20⟩,
      m_at := ⟨a20, i20, k20⟩,
      f_counted := ⟨_, fun_mk (st := s_counted) l21 c21 k21⟩,
      m_counted := ⟨a21, i21, k21⟩,
      f_stretch := ⟨_, fun_mk (st := s_stretch) l22 c22 k22⟩,
      m_stretch := ⟨a22, i22, k22⟩,
      f_need_level := ⟨_, fun_mk (st := s_need_level) l23 c23 k23⟩,
      m_need_level := ⟨a23, i23, k23⟩,
      f_ahead := ⟨_, fun_mk (st := s_ahead) l24 c24 k24⟩,
      m_ahead := ⟨a24, i24, k24⟩,
      f__law_missing := ⟨_, fun_mk (st := s__law_missing) l25 c25 k25⟩,
      g__law_missing := PySem.W.mg_of X G a25,
      k__law_missing := k25,
      f__law_no_place := ⟨_, fun_mk (st := s__law_no_place) l26 c26 k26⟩,
      g__law_no_place := PySem.W.mg_of X G a26,
      k__law_no_place := k26,
      f__law_whole := ⟨_, fun_mk (st := s__law_whole) l27 c27 k27⟩,
      g__law_whole := PySem.W.mg_of X G a27,
      k__law_whole := k27,
      f__law_gap := ⟨_, fun_mk (st := s__law_gap) l28 c28 k28⟩,
      g__law_gap := PySem.W.mg_of X G a28,
      k__law_gap := k28,
      f__law_way := ⟨_, fun_mk (st := s__law_way) l29 c29 k29⟩,
      g__law_way := PySem.W.mg_of X G a29,
      k__law_way := k29,
      f__law_refused := ⟨_, fun_mk (st := s__law_refused) l30 c30 k30⟩,
      g__law_refused := PySem.W.mg_of X G a30,
      k__law_refused := k30,
      f__law_stretch := ⟨_, fun_mk (st := s__law_stretch) l31 c31 k31⟩,
      g__law_stretch := PySem.W.mg_of X G a31,
      k__law_stretch := k31,
      f_law := ⟨_, fun_mk (st := s_law) l32 c32 k32⟩,
      g_law := PySem.W.mg_of X G a32,
      k_law := k32,
      z_all := PySem.W.mg_none_of X G z_all,
      z_bool := PySem.W.mg_none_of X G z_bool,
      z_int := PySem.W.mg_none_of X G z_int,
      z_isinstance := PySem.W.mg_none_of X G z_isinstance,
      z_len := PySem.W.mg_none_of X G z_len,
      z_list := PySem.W.mg_none_of X G z_list,
      z_max := PySem.W.mg_none_of X G z_max,
      z_min := PySem.W.mg_none_of X G z_min,
      z_range := PySem.W.mg_none_of X G z_range,
      z_sorted := PySem.W.mg_none_of X G z_sorted,
      z_tuple := PySem.W.mg_none_of X G z_tuple,
      lt := ⟨⟨pg, hd, po, sa⟩, n_width, n_high, n_limit, n_many, n_least, n_nexts, n_gaps⟩,
      g_Ladder := PySem.W.mg_of X G aC,
      mk_Ladder := ⟨mk, a1, i1, kc⟩,
      x_BadSize := ⟨PySem.W.mg_of X G x1BadSize, x2BadSize, x3BadSize, x4BadSize, x5BadSize, x6BadSize⟩,
      x_Missing := ⟨PySem.W.mg_of X G x1Missing, x2Missing, x3Missing, x4Missing, x5Missing, x6Missing⟩,
      x_NoLevel := ⟨PySem.W.mg_of X G x1NoLevel, x2NoLevel, x3NoLevel, x4NoLevel, x5NoLevel, x6NoLevel⟩,
      x_NoPlace := ⟨PySem.W.mg_of X G x1NoPlace, x2NoPlace, x3NoPlace, x4NoPlace, x5NoPlace, x6NoPlace⟩,
      x_OutOfRange := ⟨PySem.W.mg_of X G x1OutOfRange, x2OutOfRange, x3OutOfRange, x4OutOfRange, x5OutOfRange, x6OutOfRange⟩,
      x_Present := ⟨PySem.W.mg_of X G x1Present, x2Present, x3Present, x4Present, x5Present, x6Present⟩,
      e_BadSize_Missing := PySem.W.exm_ref x4Missing x6Missing x5Missing qe_BadSize_Missing,
      e_BadSize_NoPlace := PySem.W.exm_ref x4NoPlace x6NoPlace x5NoPlace qe_BadSize_NoPlace,
      e_BadSize_OutOfRange := PySem.W.exm_ref x4OutOfRange x6OutOfRange x5OutOfRange qe_BadSize_OutOfRange,
      e_Missing_Missing := PySem.W.exm_ref x4Missing x6Missing x5Missing qe_Missing_Missing,
      e_Missing_NoPlace := PySem.W.exm_ref x4NoPlace x6NoPlace x5NoPlace qe_Missing_NoPlace,
      e_Missing_OutOfRange := PySem.W.exm_ref x4OutOfRange x6OutOfRange x5OutOfRange qe_Missing_OutOfRange,
      e_NoLevel_Missing := PySem.W.exm_ref x4Missing x6Missing x5Missing qe_NoLevel_Missing,
      e_NoLevel_NoPlace := PySem.W.exm_ref x4NoPlace x6NoPlace x5NoPlace qe_NoLevel_NoPlace,
      e_NoLevel_OutOfRange := PySem.W.exm_ref x4OutOfRange x6OutOfRange x5OutOfRange qe_NoLevel_OutOfRange,
      e_NoPlace_Missing := PySem.W.exm_ref x4Missing x6Missing x5Missing qe_NoPlace_Missing,
      e_NoPlace_NoPlace := PySem.W.exm_ref x4NoPlace x6NoPlace x5NoPlace qe_NoPlace_NoPlace,
      e_NoPlace_OutOfRange := PySem.W.exm_ref x4OutOfRange x6OutOfRange x5OutOfRange qe_NoPlace_OutOfRange,
      e_OutOfRange_Missing := PySem.W.exm_ref x4Missing x6Missing x5Missing qe_OutOfRange_Missing,
      e_OutOfRange_NoPlace := PySem.W.exm_ref x4NoPlace x6NoPlace x5NoPlace qe_OutOfRange_NoPlace,
      e_OutOfRange_OutOfRange := PySem.W.exm_ref x4OutOfRange x6OutOfRange x5OutOfRange qe_OutOfRange_OutOfRange,
      e_Present_Missing := PySem.W.exm_ref x4Missing x6Missing x5Missing qe_Present_Missing,
      e_Present_NoPlace := PySem.W.exm_ref x4NoPlace x6NoPlace x5NoPlace qe_Present_NoPlace,
      e_Present_OutOfRange := PySem.W.exm_ref x4OutOfRange x6OutOfRange x5OutOfRange qe_Present_OutOfRange }
  exact ⟨_, fun s v => .of_eq rfl, fun base _ _ => ok_law (fun_mk (st := s_law) l32 c32 k32) T⟩
theorem walk {l : PySem.W.OpenLaw} {q : Program} {loose : List Str} {XP : (Str → Option Value) → Heap → Prop} {YP : World → Heap → Prop} {d : DefRec} {K : Params → PySem.W.Frag} (hn : l.most = some 63) (hdf : d.params.defaults = [])
    (hY : ∀ (w : World) (h : Heap), YP w h → (K w.params).In h)
    (F : ∀ (w : World) (mg : Str → Option Value) (fa : Addr) (h : Heap), (K w.params).In h → h.Ns mainGlobals mg → mg d.name = some (.ref fa) →
      ∃ fd : FuncData, (∀ (s : Shared) (u : Value), BindsTo s fd ⟨[u], []⟩ [("_law_script", u)]) ∧ ∀ base : Heap, (K w.params).In base → base.Ns mainGlobals mg → FnOk l.prog w (K w.params) mg base CX0 8 fa fd ["_law_script"] (spLaw (K w.params))) :
    PySem.W.WalkO q loose XP YP l.row.toRowW d [] (fun f vs => PySem.call f vs) :=
  L2.walk_of (n := 63) (k := 8) (x := "_law_script") (CX := fun _ => CX0) (sp := fun w => spLaw (K w.params)) hn (by decide) hdf ⟨rfl, by decide, by decide⟩ hY F (fun _ _ a ns hl _ hS => ⟨a, ns, rfl, hS, hl, fun _ => rfl⟩) fun _ _ _ _ _ z => z
end Lk
open PySem PySem.W PyProof.Rows
set_option maxRecDepth 100000 in
set_option maxHeartbeats 0 in
theorem PySem.Challenge.cw_skipladder_k13_whole_places_holds : PySem.Challenge.rw_skipladder_k13_whole_places.Holds := by
  w_on; o_law; k_head; (case hw => w_witness2)
  k_fill
  refine Lk.walk (l := PySem.Challenge.rw_skipladder_k13_whole_places) rfl rfl (fun w h Y => PySem.W.kIn_of Y) ?F
  case F =>
    intro w mg fa h KX G hmg
    refine' Lk.all_mk KX G hmg ?aC ?a0 ?l0 ?c0 ?k0 ?a1 ?i1 ?l1 ?c1 ?k1 ?a2 ?l2 ?c2 ?k2 ?a3 ?l3 ?c3 ?k3 ?a4 ?l4 ?c4 ?k4 ?a5 ?i5 ?l5 ?c5 ?k5 ?a6 ?i6 ?l6 ?c6 ?k6 ?a7 ?l7 ?c7 ?k7 ?a8 ?i8 ?l8 ?c8 ?k8 ?a9 ?i9 ?l9 ?c9 ?k9 ?a10 ?i10 ?l10 ?c10 ?k10 ?a11 ?i11 ?l11 ?c11 ?k11 ?a12 ?l12 ?c12 ?k12 ?a13 ?i13 ?l13 ?c13 ?k13 ?a14 ?i14 ?l14 ?c14 ?k14 ?a15 ?l15 ?c15 ?k15 ?a16 ?l16 ?c16 ?k16 ?a17 ?i17 ?l17 ?c17 ?k17 ?a18 ?l18 ?c18 ?k18 ?a19 ?i19 ?l19 ?c19 ?k19 ?a20 ?i20 ?l20 ?c20 ?k20 ?a21 ?i21 ?l21 ?c21 ?k21 ?a22 ?i22 ?l22 ?c22 ?k22 ?a23 ?i23 ?l23 ?c23 ?k23 ?a24 ?i24 ?l24 ?c24 ?k24 ?a25 ?l25 ?c25 ?k25 ?a26 ?l26 ?c26 ?k26 ?a27 ?l27 ?c27 ?k27 ?a28 ?l28 ?c28 ?k28 ?a29 ?l29 ?c29 ?k29 ?a30 ?l30 ?c30 ?k30 ?a31 ?l31 ?c31 ?k31 ?a32 ?l32 ?c32 ?k32 ?z_all ?z_bool ?z_int ?z_isinstance ?z_len ?z_list ?z_max ?z_min ?z_range ?z_sorted ?z_tuple ?pg ?hd ?po ?sa ?n_width ?n_high ?n_limit ?n_many ?n_least ?n_nexts ?n_gaps ?mk ?kc ?x1BadSize ?x2BadSize ?x3BadSize ?x4BadSize ?x5BadSize ?x6BadSize ?x1Missing ?x2Missing ?x3Missing ?x4Missing ?x5Missing ?x6Missing ?x1NoLevel ?x2NoLevel ?x3NoLevel ?x4NoLevel ?x5NoLevel ?x6NoLevel ?x1NoPlace ?x2NoPlace ?x3NoPlace ?x4NoPlace ?x5NoPlace ?x6NoPlace ?x1OutOfRange ?x2OutOfRange ?x3OutOfRange ?x4OutOfRange ?x5OutOfRange ?x6OutOfRange ?x1Present ?x2Present ?x3Present ?x4Present ?x5Present ?x6Present ?qe_BadSize_Missing ?qe_BadSize_NoPlace ?qe_BadSize_OutOfRange ?qe_Missing_Missing ?qe_Missing_NoPlace ?qe_Missing_OutOfRange ?qe_NoLevel_Missing ?qe_NoLevel_NoPlace ?qe_NoLevel_OutOfRange ?qe_NoPlace_Missing ?qe_NoPlace_NoPlace ?qe_NoPlace_OutOfRange ?qe_OutOfRange_Missing ?qe_OutOfRange_NoPlace ?qe_OutOfRange_OutOfRange ?qe_Present_Missing ?qe_Present_NoPlace ?qe_Present_OutOfRange
    (case aC => k_is)
    (case a0 => k_is)
    (case l0 => k_is)
    (case c0 => k_is)
    (case k0 => k_is)
    (case a1 => k_is)
    (case i1 => k_is)
    (case l1 => k_is)
    (case c1 => k_is)
    (case k1 => k_is)
    (case a2 => k_is)
    (case l2 => k_is)
    (case c2 => k_is)
    (case k2 => k_is)
    (case a3 => k_is)
    (case l3 => k_is)
    (case c3 => k_is)
    (case k3 => k_is)
    (case a4 => k_is)
    (case l4 => k_is)
    (case c4 => k_is)
    (case k4 => k_is)
    (case a5 => k_is)
    (case i5 => k_is)
    (case l5 => k_is)
    (case c5 => k_is)
    (case k5 => k_is)
    (case a6 => k_is)
    (case i6 => k_is)
    (case l6 => k_is)
    (case c6 => k_is)
    (case k6 => k_is)
    (case a7 => k_is)
    (case l7 => k_is)
    (case c7 => k_is)
    (case k7 => k_is)
    (case a8 => k_is)
    (case i8 => k_is)
    (case l8 => k_is)
    (case c8 => k_is)
    (case k8 => k_is)
    (case a9 => k_is)
    (case i9 => k_is)
    (case l9 => k_is)
    (case c9 => k_is)
    (case k9 => k_is)
    (case a10 => k_is)
    (case i10 => k_is)
    (case l10 => k_is)
    (case c10 => k_is)
    (case k10 => k_is)
    (case a11 => k_is)
    (case i11 => k_is)
    (case l11 => k_is)
    (case c11 => k_is)
    (case k11 => k_is)
    (case a12 => k_is)
    (case l12 => k_is)
    (case c12 => k_is)
    (case k12 => k_is)
    (case a13 => k_is)
    (case i13 => k_is)
    (case l13 => k_is)
    (case c13 => k_is)
    (case k13 => k_is)
    (case a14 => k_is)
    (case i14 => k_is)
    (case l14 => k_is)
    (case c14 => k_is)
    (case k14 => k_is)
    (case a15 => k_is)
    (case l15 => k_is)
    (case c15 => k_is)
    (case k15 => k_is)
    (case a16 => k_is)
    (case l16 => k_is)
    (case c16 => k_is)
    (case k16 => k_is)
    (case a17 => k_is)
    (case i17 => k_is)
    (case l17 => k_is)
    (case c17 => k_is)
    (case k17 => k_is)
    (case a18 => k_is)
    (case l18 => k_is)
    (case c18 => k_is)
    (case k18 => k_is)
    (case a19 => k_is)
    (case i19 => k_is)
    (case l19 => k_is)
    (case c19 => k_is)
    (case k19 => k_is)
    (case a20 => k_is)
    (case i20 => k_is)
    (case l20 => k_is)
    (case c20 => k_is)
    (case k20 => k_is)
    (case a21 => k_is)
    (case i21 => k_is)
    (case l21 => k_is)
    (case c21 => k_is)
    (case k21 => k_is)
    (case a22 => k_is)
    (case i22 => k_is)
    (case l22 => k_is)
    (case c22 => k_is)
    (case k22 => k_is)
    (case a23 => k_is)
    (case i23 => k_is)
    (case l23 => k_is)
    (case c23 => k_is)
    (case k23 => k_is)
    (case a24 => k_is)
    (case i24 => k_is)
    (case l24 => k_is)
    (case c24 => k_is)
    (case k24 => k_is)
    (case a25 => k_is)
    (case l25 => k_is)
    (case c25 => k_is)
    (case k25 => k_is)
    (case a26 => k_is)
    (case l26 => k_is)
    (case c26 => k_is)
    (case k26 => k_is)
    (case a27 => k_is)
    (case l27 => k_is)
    (case c27 => k_is)
    (case k27 => k_is)
    (case a28 => k_is)
    (case l28 => k_is)
    (case c28 => k_is)
    (case k28 => k_is)
    (case a29 => k_is)
    (case l29 => k_is)
    (case c29 => k_is)
    (case k29 => k_is)
    (case a30 => k_is)
    (case l30 => k_is)
    (case c30 => k_is)
    (case k30 => k_is)
    (case a31 => k_is)
    (case l31 => k_is)
    (case c31 => k_is)
    (case k31 => k_is)
    (case a32 => k_is)
    (case l32 => k_is)
    (case c32 => k_is)
    (case k32 => k_is)
    (case z_all => k_is)
    (case z_bool => k_is)
    (case z_int => k_is)
    (case z_isinstance => k_is)
    (case z_len => k_is)
    (case z_list => k_is)
    (case z_max => k_is)
    (case z_min => k_is)
    (case z_range => k_is)
    (case z_sorted => k_is)
    (case z_tuple => k_is)
    (case pg => k_is)
    (case hd => k_is)
    (case po => k_is)
    (case sa => k_is)
    (case n_width => k_is)
    (case n_high => k_is)
    (case n_limit => k_is)
    (case n_many => k_is)
    (case n_least => k_is)
    (case n_nexts => k_is)
    (case n_gaps => k_is)
    (case mk => k_is)
    (case kc => k_is)
    (case x1BadSize => k_is)
    (case x2BadSize => k_exc)
    (case x3BadSize => k_is)
    (case x4BadSize => k_is)
    (case x5BadSize => k_is)
    (case x6BadSize => k_is)
    (case x1Missing => k_is)
    (case x2Missing => k_exc)
    (case x3Missing => k_is)
    (case x4Missing => k_is)
    (case x5Missing => k_is)
    (case x6Missing => k_is)
    (case x1NoLevel => k_is)
    (case x2NoLevel => k_exc)
    (case x3NoLevel => k_is)
    (case x4NoLevel => k_is)
    (case x5NoLevel => k_is)
    (case x6NoLevel => k_is)
    (case x1NoPlace => k_is)
    (case x2NoPlace => k_exc)
    (case x3NoPlace => k_is)
    (case x4NoPlace => k_is)
    (case x5NoPlace => k_is)
    (case x6NoPlace => k_is)
    (case x1OutOfRange => k_is)
    (case x2OutOfRange => k_exc)
    (case x3OutOfRange => k_is)
    (case x4OutOfRange => k_is)
    (case x5OutOfRange => k_is)
    (case x6OutOfRange => k_is)
    (case x1Present => k_is)
    (case x2Present => k_exc)
    (case x3Present => k_is)
    (case x4Present => k_is)
    (case x5Present => k_is)
    (case x6Present => k_is)
    (case qe_BadSize_Missing => first | rfl | k_is)
    (case qe_BadSize_NoPlace => first | rfl | k_is)
    (case qe_BadSize_OutOfRange => first | rfl | k_is)
    (case qe_Missing_Missing => first | rfl | k_is)
    (case qe_Missing_NoPlace => first | rfl | k_is)
    (case qe_Missing_OutOfRange => first | rfl | k_is)
    (case qe_NoLevel_Missing => first | rfl | k_is)
    (case qe_NoLevel_NoPlace => first | rfl | k_is)
    (case qe_NoLevel_OutOfRange => first | rfl | k_is)
    (case qe_NoPlace_Missing => first | rfl | k_is)
    (case qe_NoPlace_NoPlace => first | rfl | k_is)
    (case qe_NoPlace_OutOfRange => first | rfl | k_is)
    (case qe_OutOfRange_Missing => first | rfl | k_is)
    (case qe_OutOfRange_NoPlace => first | rfl | k_is)
    (case qe_OutOfRange_OutOfRange => first | rfl | k_is)
    (case qe_Present_Missing => first | rfl | k_is)
    (case qe_Present_NoPlace => first | rfl | k_is)
    (case qe_Present_OutOfRange => first | rfl | k_is)
#print axioms PySem.Challenge.cw_skipladder_k13_whole_places_holds

