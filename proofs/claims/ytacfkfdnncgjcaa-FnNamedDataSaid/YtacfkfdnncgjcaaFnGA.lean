/- Data with names have the moments with these names. Conditions: none. -/
import Derived.Test.YtacfkfdnncgjcaaFnFE
import Derived.Test.YtacfkfdnncgjcaaFnAE
import Derived.Test.YtacfkfdnncgjcaaFnCC
set_option linter.unusedSimpArgs false
set_option linter.unusedVariables false
namespace Go.Proofs.Ytacfkfdnncgjcaa.Ev
open Go Go.Proofs
set_option maxRecDepth 20000
set_option maxHeartbeats 4000000

def tW (T : List (List Int)) (t j : Nat) : Int := rdI (T.getD t []) j
/-- Is it the table of path weights of the data with a name? -/
def tOk (q : Nat) (T : List (List Int)) : Bool := decide (tW T 0 0 = 1) && (List.range 24).all fun t => (List.range (24 - t)).all fun j => (decide (j ≤ t) || decide (tW T t j = 0)) && (decide (24 ≤ t + 1 + j) || decide (tW T (t + 1) j = naA q j * tW T t j + (if 0 < j then tW T t (j - 1) else 0) + naU q (j + 1) * tW T t (j + 1)))
theorem tOk_zero {q : Nat} {T : List (List Int)} (h : tOk q T = true) : tW T 0 0 = 1 := by
  simp only [tOk, Bool.and_eq_true, decide_eq_true_eq] at h; exact h.1
theorem tOk_at {q : Nat} {T : List (List Int)} (h : tOk q T = true) {t j : Nat} (hj : t + j < 24) : (t < j → tW T t j = 0) ∧ (t + 1 + j < 24 → tW T (t + 1) j = naA q j * tW T t j + (if 0 < j then tW T t (j - 1) else 0) + naU q (j + 1) * tW T t (j + 1)) := by
  simp only [tOk, Bool.and_eq_true, Bool.or_eq_true, decide_eq_true_eq, List.all_eq_true, List.mem_range] at h
  have := h.2 t (by omega) j (by omega)
  refine ⟨fun c => ?_, fun c => ?_⟩
  · rcases this.1 with e | e
    · omega
    · exact e
  · rcases this.2 with e | e
    · omega
    · exact e
theorem nmB_cg {p : Int} (hp : 2 ≤ p ∧ p ≤ 10007) {q : Nat} (hq : 1 ≤ q ∧ q ≤ 4) (k : Nat) : cg p (nmB p q k) (naU q k) := by
  have e1 : naL q k = 1 := by unfold naL; (repeat' split) <;> omega
  have e2 : invP p 1 = 1 := by unfold invP; rw [Int.one_pow]; exact Int.emod_eq_of_lt (by omega) (by omega)
  unfold nmB divP
  rw [e1, show (1 : Int) % p = 1 from Int.emod_eq_of_lt (by omega) (by omega), e2, Int.mul_one]
  exact (cg.md p _).trans (cg.md p _)
theorem nm_wA {p : Int} (hp : 2 ≤ p ∧ p ≤ 10007) {q n : Nat} (hq : 1 ≤ q ∧ q ≤ 4) (hn : n ≤ 12) {T : List (List Int)} (hT : tOk q T = true) :
    ∀ t j, j < n → t + j < 2 * n → cg p (wA p (tab n (nmA p q)) (tab n (nmB p q)) n 0 t j) (tW T t j)
  | 0, j, hj, _ => by
    rw [wA_zero p _ _ j hj]
    by_cases c : j = 0
    · subst c; rw [if_pos rfl, tOk_zero hT]; exact cg.refl _ _
    · rw [if_neg (fun e => c e.symm), (tOk_at hT (t := 0) (j := j) (by omega)).1 (by omega)]; exact cg.refl _ _
  | t + 1, j, hj, h => by
    have ih := nm_wA hp hq hn hT t
    rw [(tOk_at hT (t := t) (j := j) (by omega)).2 (by omega)]
    refine (wA_next _ _ 0 t hj).trans (cg.add (cg.add ?_ ?_) ?_)
    · rw [tab_rd hj]
      exact (cg.md p _).mul (ih j hj (by omega))
    · exact cg.ite (fun _ => ih (j - 1) (by omega) (by omega)) (fun _ => cg.refl _ _)
    · by_cases c : j + 1 < n
      · rw [if_pos c, tab_rd c]
        exact (nmB_cg hp hq _).mul (ih (j + 1) c (by omega))
      · rw [if_neg c, (tOk_at hT (t := t) (j := j + 1) (by omega)).1 (by omega)]; exact cg.of_eq (by omega)
/-! ### Moments with names -/
/-- Are they the moments with a name, as whole numbers? C: numbers of ways to choose. -/
def mRec (t : Nat) (C : List (List Int)) (M : List Int) (k : Nat) : Int :=
  if t = 2 then rdI M (k - 1) * (k : Int) else if t = 3 then (if k % 2 = 0 then rdI M (k - 2) * ((k : Int) - 1) else 0) else if t = 4 then sm (fun i => rdI M i * rdI M (k - 1 - i)) k else sm (fun i => rdI M i * tW C (k - 1) i) k
def mOk (t : Nat) (C : List (List Int)) (M : List Int) : Bool := decide (rdI M 0 = 1) && (List.range 24).all fun k => decide (k = 0) || decide (rdI M k = mRec t C M k)
def cOk (C : List (List Int)) : Bool := (List.range 24).all fun n => (List.range (n + 1)).all fun i => decide (tW C n i = if i = 0 then 1 else if i = n then 1 else tW C (n - 1) (i - 1) + tW C (n - 1) i)
theorem chs_tab {C : List (List Int)} (h : cOk C = true) (n : Nat) : n < 24 → ∀ i, i ≤ n → (chs n i : Int) = tW C n i := by
  have hh := h
  simp only [cOk, List.all_eq_true, List.mem_range, decide_eq_true_eq] at hh
  induction n with
  | zero =>
    intro hn i hi
    have e := hh 0 hn i (by omega)
    obtain rfl : i = 0 := by omega
    rw [e, if_pos rfl, chs_zero]; rfl
  | succ n ih =>
    intro hn i hi
    have e := hh (n + 1) hn i (by omega)
    by_cases c0 : i = 0
    · subst c0; rw [e, if_pos rfl, chs_zero]; rfl
    · by_cases c1 : i = n + 1
      · subst c1; rw [e, if_neg c0, if_pos rfl, chs_self]; rfl
      · rw [e, if_neg c0, if_neg c1]
        rcases i with _ | i
        · omega
        · rw [chs, Int.natCast_add, ih (by omega) i (by omega), ih (by omega) (i + 1) (by omega)]
          rfl
theorem dotK_cg {p : Int} (a b : List Int) (x y : Nat → Int) : ∀ k, (∀ i, i < k → cg p (rdI a i) (x i)) → (∀ i, i < k → cg p (rdI b i) (y i)) → cg p (dotK p a b k) (sm (fun i => x i * y i) k)
  | 0, _, _ => cg.refl _ _
  | k + 1, ha, hb => by
    rw [dotK, sm]
    exact (cg.md p _).trans ((dotK_cg a b x y k (fun i hi => ha i (by omega)) (fun i hi => hb i (by omega))).add ((ha k (by omega)).mul (hb k (by omega))))
theorem rdI_revX {l : List Int} {i : Nat} (h : i < l.length) : rdI l.reverse i = rdI l (l.length - 1 - i) := by
  unfold rdI
  rw [List.getD_eq_getElem?_getD, List.getD_eq_getElem?_getD, List.getElem?_reverse h]
theorem nmL_at (t : Nat) (p : Int) {k : Nat} : ∀ n, k < n → rdI (nmL t p n) k = ownM t p (nmL t p k) k
  | 0, h => by omega
  | n + 1, h => by
    rw [nmL]
    by_cases c : k = n
    · subst c
      unfold rdI
      rw [List.getD_eq_getElem?_getD, List.getElem?_append_right (by rw [nmL_len]; exact Nat.le_refl _), nmL_len, Nat.sub_self]; rfl
    · rw [← nmL_at t p (k := k) n (by omega)]
      have hl : k < (nmL t p n).length := by rw [nmL_len]; omega
      unfold rdI
      rw [List.getD_eq_getElem?_getD, List.getD_eq_getElem?_getD, List.getElem?_append_left hl]
theorem nmL_cg {p : Int} (hp : 2 ≤ p ∧ p ≤ 10007) {t : Nat} (ht : 2 ≤ t ∧ t ≤ 5) {C : List (List Int)} (hC : cOk C = true) {M : List Int} (hM : mOk t C M = true) : ∀ k, k < 24 → ∀ n, k < n → cg p (rdI (nmL t p n) k) (rdI M k) := by
  simp only [mOk, Bool.and_eq_true, decide_eq_true_eq, List.all_eq_true, List.mem_range, Bool.or_eq_true] at hM
  intro k
  induction k using Nat.strongRecOn with
  | _ k ih =>
    intro hk n hn
    rw [nmL_at t p n hn]
    unfold ownM
    by_cases c0 : k = 0
    · subst c0; rw [if_pos rfl, hM.1]; exact cg.refl _ _
    have e : rdI M k = mRec t C M k := by
      rcases hM.2 k hk with h | h
      · omega
      · exact h
    rw [if_neg c0, if_neg (by omega), e]
    unfold mRec
    by_cases c2 : t = 2
    · rw [if_pos c2, if_pos c2]
      exact (cg.md p _).trans ((ih (k - 1) (by omega) (by omega) k (by omega)).mulR _)
    rw [if_neg c2, if_neg c2]
    by_cases c3 : t = 3
    · rw [if_pos c3, if_pos c3]
      refine cg.ite (fun h2 => ?_) (fun _ => cg.refl _ _)
      exact (cg.md p _).trans ((ih (k - 2) (by omega) (by omega) k (by omega)).mulR _)
    rw [if_neg c3, if_neg c3]
    by_cases c4 : t = 4
    · rw [if_pos c4, if_pos c4]
      refine dotK_cg _ _ _ _ k (fun i hi => ih i hi (by omega) k hi) (fun i hi => ?_)
      rw [rdI_revX (by rw [nmL_len]; exact hi), nmL_len]
      exact ih (k - 1 - i) (by omega) (by omega) k (by omega)
    · rw [if_neg c4, if_neg c4, if_pos (by omega)]
      refine dotK_cg _ _ _ _ k (fun i hi => ih i hi (by omega) k hi) (fun i hi => ?_)
      rw [tab_rd hi, ← chs_tab hC (k - 1) (by omega) i (by omega)]
      exact cg.md p _
/-! ### The tables -/
def wTab1 : List (List Int) := [[1, 0, 0, 0, 0, 0, 0, 0, 0, 0, 0, 0, 0, 0, 0, 0, 0, 0, 0, 0, 0, 0, 0, 0],
  [0, 1, 0, 0, 0, 0, 0, 0, 0, 0, 0, 0, 0, 0, 0, 0, 0, 0, 0, 0, 0, 0, 0],
  [1, 0, 1, 0, 0, 0, 0, 0, 0, 0, 0, 0, 0, 0, 0, 0, 0, 0, 0, 0, 0, 0],
  [0, 3, 0, 1, 0, 0, 0, 0, 0, 0, 0, 0, 0, 0, 0, 0, 0, 0, 0, 0, 0],
  [3, 0, 6, 0, 1, 0, 0, 0, 0, 0, 0, 0, 0, 0, 0, 0, 0, 0, 0, 0],
  [0, 15, 0, 10, 0, 1, 0, 0, 0, 0, 0, 0, 0, 0, 0, 0, 0, 0, 0],
  [15, 0, 45, 0, 15, 0, 1, 0, 0, 0, 0, 0, 0, 0, 0, 0, 0, 0],
  [0, 105, 0, 105, 0, 21, 0, 1, 0, 0, 0, 0, 0, 0, 0, 0, 0],
  [105, 0, 420, 0, 210, 0, 28, 0, 1, 0, 0, 0, 0, 0, 0, 0],
  [0, 945, 0, 1260, 0, 378, 0, 36, 0, 1, 0, 0, 0, 0, 0],
  [945, 0, 4725, 0, 3150, 0, 630, 0, 45, 0, 1, 0, 0, 0],
  [0, 10395, 0, 17325, 0, 6930, 0, 990, 0, 55, 0, 1, 0],
  [10395, 0, 62370, 0, 51975, 0, 13860, 0, 1485, 0, 66, 0],
  [0, 135135, 0, 270270, 0, 135135, 0, 25740, 0, 2145, 0],
  [135135, 0, 945945, 0, 945945, 0, 315315, 0, 45045, 0],
  [0, 2027025, 0, 4729725, 0, 2837835, 0, 675675, 0],
  [2027025, 0, 16216200, 0, 18918900, 0, 7567560, 0],
  [0, 34459425, 0, 91891800, 0, 64324260, 0],
  [34459425, 0, 310134825, 0, 413513100, 0],
  [0, 654729075, 0, 1964187225, 0],
  [654729075, 0, 6547290750, 0],
  [0, 13749310575, 0],
  [13749310575, 0],
  [0]]
def mTab1 : List Int := [1, 0, 1, 0, 3, 0, 15, 0, 105, 0, 945, 0, 10395, 0, 135135, 0, 2027025, 0, 34459425, 0, 654729075, 0, 13749310575, 0]
def wTab2 : List (List Int) := [[1, 0, 0, 0, 0, 0, 0, 0, 0, 0, 0, 0, 0, 0, 0, 0, 0, 0, 0, 0, 0, 0, 0, 0],
  [1, 1, 0, 0, 0, 0, 0, 0, 0, 0, 0, 0, 0, 0, 0, 0, 0, 0, 0, 0, 0, 0, 0],
  [2, 4, 1, 0, 0, 0, 0, 0, 0, 0, 0, 0, 0, 0, 0, 0, 0, 0, 0, 0, 0, 0],
  [6, 18, 9, 1, 0, 0, 0, 0, 0, 0, 0, 0, 0, 0, 0, 0, 0, 0, 0, 0, 0],
  [24, 96, 72, 16, 1, 0, 0, 0, 0, 0, 0, 0, 0, 0, 0, 0, 0, 0, 0, 0],
  [120, 600, 600, 200, 25, 1, 0, 0, 0, 0, 0, 0, 0, 0, 0, 0, 0, 0, 0],
  [720, 4320, 5400, 2400, 450, 36, 1, 0, 0, 0, 0, 0, 0, 0, 0, 0, 0, 0],
  [5040, 35280, 52920, 29400, 7350, 882, 49, 1, 0, 0, 0, 0, 0, 0, 0, 0, 0],
  [40320, 322560, 564480, 376320, 117600, 18816, 1568, 64, 1, 0, 0, 0, 0, 0, 0, 0],
  [362880, 3265920, 6531840, 5080320, 1905120, 381024, 42336, 2592, 81, 1, 0, 0, 0, 0, 0],
  [3628800, 36288000, 81648000, 72576000, 31752000, 7620480, 1058400, 86400, 4050, 100, 1, 0, 0, 0],
  [39916800, 439084800, 1097712000, 1097712000, 548856000, 153679680, 25613280, 2613600, 163350, 6050, 121, 1, 0],
  [479001600, 5748019200, 15807052800, 17563392000, 9879408000, 3161410560, 614718720, 75271680, 5880600, 290400, 8712, 144],
  [6227020800, 80951270400, 242853811200, 296821324800, 185513328000, 66784798080, 14841066240, 2120152320, 198764280, 12269400, 490776],
  [87178291200, 1220496076800, 3966612249600, 5288816332800, 3636061228800, 1454424491520, 363606122880, 59364264960, 6492966480, 480960480],
  [1307674368000, 19615115520000, 68652904320000, 99165306240000, 74373979680000, 32724551059200, 9090153072000, 1669619952000, 208702494000],
  [20922789888000, 334764638208000, 1255367393280000, 1952793722880000, 1586644899840000, 761589551923200, 232707918643200, 47491411968000],
  [355687428096000, 6046686277632000, 24186745110528000, 40311241850880000, 35272336619520000, 18341615042150400, 6113871680716800],
  [6402373705728000, 115242726703104000, 489781588488192000, 870722823979008000, 816302647480320000, 457129482588979200],
  [121645100408832000, 2311256907767808000, 10400656084955136000, 19645683716026368000, 19645683716026368000],
  [2432902008176640000, 48658040163532800000, 231125690776780800000, 462251381553561600000],
  [51090942171709440000, 1072909785605898240000, 5364548928029491200000],
  [1124000727777607680000, 24728016011107368960000],
  [25852016738884976640000]]
def mTab2 : List Int := [1, 1, 2, 6, 24, 120, 720, 5040, 40320, 362880, 3628800, 39916800, 479001600, 6227020800, 87178291200, 1307674368000, 20922789888000, 355687428096000, 6402373705728000, 121645100408832000, 2432902008176640000, 51090942171709440000, 1124000727777607680000, 25852016738884976640000]
def wTab3 : List (List Int) := [[1, 0, 0, 0, 0, 0, 0, 0, 0, 0, 0, 0, 0, 0, 0, 0, 0, 0, 0, 0, 0, 0, 0, 0],
  [1, 1, 0, 0, 0, 0, 0, 0, 0, 0, 0, 0, 0, 0, 0, 0, 0, 0, 0, 0, 0, 0, 0],
  [2, 3, 1, 0, 0, 0, 0, 0, 0, 0, 0, 0, 0, 0, 0, 0, 0, 0, 0, 0, 0, 0],
  [5, 10, 6, 1, 0, 0, 0, 0, 0, 0, 0, 0, 0, 0, 0, 0, 0, 0, 0, 0, 0],
  [15, 37, 31, 10, 1, 0, 0, 0, 0, 0, 0, 0, 0, 0, 0, 0, 0, 0, 0, 0],
  [52, 151, 160, 75, 15, 1, 0, 0, 0, 0, 0, 0, 0, 0, 0, 0, 0, 0, 0],
  [203, 674, 856, 520, 155, 21, 1, 0, 0, 0, 0, 0, 0, 0, 0, 0, 0, 0],
  [877, 3263, 4802, 3556, 1400, 287, 28, 1, 0, 0, 0, 0, 0, 0, 0, 0, 0],
  [4140, 17007, 28337, 24626, 11991, 3290, 490, 36, 1, 0, 0, 0, 0, 0, 0, 0],
  [21147, 94828, 175896, 174805, 101031, 34671, 6972, 786, 45, 1, 0, 0, 0, 0, 0],
  [115975, 562595, 1146931, 1279240, 853315, 350889, 88977, 13620, 1200, 55, 1, 0, 0, 0],
  [678570, 3535027, 7841108, 9677151, 7300260, 3492511, 1069068, 207537, 24915, 1760, 66, 1, 0],
  [4213597, 23430840, 56089804, 75750752, 63641006, 34669734, 12428746, 2928684, 447612, 43175, 2497, 78],
  [27644437, 163254885, 418952508, 613656836, 567304452, 346231886, 142171744, 39439114, 7345767, 904332, 71500],
  [190899322, 1192059223, 3261082917, 5142797660, 5181338526, 3497726232, 1617507892, 516450792, 113690005, 17104087],
  [1382958545, 9097183602, 26403700954, 44557627661, 48538121450, 35872743270, 18435437020, 6658634268, 1693597620],
  [10480142147, 72384727657, 221981169447, 398786697398, 466611951261, 374387203190, 211531242286, 85253292124],
  [82864869804, 599211936355, 1934688328192, 3683575764083, 4603782469653, 3982122624117, 2451878944060],
  [682076806159, 5150665398898, 17454004213180, 35084121263136, 46613101232933, 43207791878715],
  [5832742205057, 45891416030315, 162765041827846, 344242894197456, 484188586821376],
  [51724158235372, 423145657921379, 1566915224106221, 3476490965903174],
  [474869816156751, 4031845922290572, 15553364227949564],
  [4506715738447323, 39645290116637023],
  [44152005855084346]]
def mTab3 : List Int := [1, 1, 2, 5, 15, 52, 203, 877, 4140, 21147, 115975, 678570, 4213597, 27644437, 190899322, 1382958545, 10480142147, 82864869804, 682076806159, 5832742205057, 51724158235372, 474869816156751, 4506715738447323, 44152005855084346]
def wTab4 : List (List Int) := [[1, 0, 0, 0, 0, 0, 0, 0, 0, 0, 0, 0, 0, 0, 0, 0, 0, 0, 0, 0, 0, 0, 0, 0],
  [1, 1, 0, 0, 0, 0, 0, 0, 0, 0, 0, 0, 0, 0, 0, 0, 0, 0, 0, 0, 0, 0, 0],
  [2, 3, 1, 0, 0, 0, 0, 0, 0, 0, 0, 0, 0, 0, 0, 0, 0, 0, 0, 0, 0, 0],
  [5, 9, 5, 1, 0, 0, 0, 0, 0, 0, 0, 0, 0, 0, 0, 0, 0, 0, 0, 0, 0],
  [14, 28, 20, 7, 1, 0, 0, 0, 0, 0, 0, 0, 0, 0, 0, 0, 0, 0, 0, 0],
  [42, 90, 75, 35, 9, 1, 0, 0, 0, 0, 0, 0, 0, 0, 0, 0, 0, 0, 0],
  [132, 297, 275, 154, 54, 11, 1, 0, 0, 0, 0, 0, 0, 0, 0, 0, 0, 0],
  [429, 1001, 1001, 637, 273, 77, 13, 1, 0, 0, 0, 0, 0, 0, 0, 0, 0],
  [1430, 3432, 3640, 2548, 1260, 440, 104, 15, 1, 0, 0, 0, 0, 0, 0, 0],
  [4862, 11934, 13260, 9996, 5508, 2244, 663, 135, 17, 1, 0, 0, 0, 0, 0],
  [16796, 41990, 48450, 38760, 23256, 10659, 3705, 950, 170, 19, 1, 0, 0, 0],
  [58786, 149226, 177650, 149226, 95931, 48279, 19019, 5775, 1309, 209, 21, 1, 0],
  [208012, 534888, 653752, 572033, 389367, 211508, 92092, 31878, 8602, 1748, 252, 23],
  [742900, 1931540, 2414425, 2187185, 1562275, 904475, 427570, 164450, 50830, 12350, 2275],
  [2674440, 7020405, 8947575, 8351070, 6216210, 3798795, 1924065, 807300, 278460, 77805],
  [9694845, 25662825, 33266625, 31865925, 24582285, 15737865, 8454225, 3817125, 1442025],
  [35357670, 94287120, 124062000, 121580760, 96768360, 64512240, 36463440, 17530500],
  [129644790, 347993910, 463991880, 463991880, 379629720, 262256280, 154969620],
  [477638700, 1289624490, 1739969550, 1771605360, 1485507600, 1059111900],
  [1767263190, 4796857230, 6541168950, 6768687870, 5801732460],
  [6564120420, 17902146600, 24647883000, 25880277150],
  [24466267020, 67016296620, 93078189750],
  [91482563640, 251577050010],
  [343059613650]]
def mTab4 : List Int := [1, 1, 2, 5, 14, 42, 132, 429, 1430, 4862, 16796, 58786, 208012, 742900, 2674440, 9694845, 35357670, 129644790, 477638700, 1767263190, 6564120420, 24466267020, 91482563640, 343059613650]
def cTab : List (List Int) := [[1],
  [1, 1],
  [1, 2, 1],
  [1, 3, 3, 1],
  [1, 4, 6, 4, 1],
  [1, 5, 10, 10, 5, 1],
  [1, 6, 15, 20, 15, 6, 1],
  [1, 7, 21, 35, 35, 21, 7, 1],
  [1, 8, 28, 56, 70, 56, 28, 8, 1],
  [1, 9, 36, 84, 126, 126, 84, 36, 9, 1],
  [1, 10, 45, 120, 210, 252, 210, 120, 45, 10, 1],
  [1, 11, 55, 165, 330, 462, 462, 330, 165, 55, 11, 1],
  [1, 12, 66, 220, 495, 792, 924, 792, 495, 220, 66, 12, 1],
  [1, 13, 78, 286, 715, 1287, 1716, 1716, 1287, 715, 286, 78, 13, 1],
  [1, 14, 91, 364, 1001, 2002, 3003, 3432, 3003, 2002, 1001, 364, 91, 14, 1],
  [1, 15, 105, 455, 1365, 3003, 5005, 6435, 6435, 5005, 3003, 1365, 455, 105, 15, 1],
  [1, 16, 120, 560, 1820, 4368, 8008, 11440, 12870, 11440, 8008, 4368, 1820, 560, 120, 16, 1],
  [1, 17, 136, 680, 2380, 6188, 12376, 19448, 24310, 24310, 19448, 12376, 6188, 2380, 680, 136, 17, 1],
  [1, 18, 153, 816, 3060, 8568, 18564, 31824, 43758, 48620, 43758, 31824, 18564, 8568, 3060, 816, 153, 18, 1],
  [1, 19, 171, 969, 3876, 11628, 27132, 50388, 75582, 92378, 92378, 75582, 50388, 27132, 11628, 3876, 969, 171, 19, 1],
  [1, 20, 190, 1140, 4845, 15504, 38760, 77520, 125970, 167960, 184756, 167960, 125970, 77520, 38760, 15504, 4845, 1140, 190, 20, 1],
  [1, 21, 210, 1330, 5985, 20349, 54264, 116280, 203490, 293930, 352716, 352716, 293930, 203490, 116280, 54264, 20349, 5985, 1330, 210, 21, 1],
  [1, 22, 231, 1540, 7315, 26334, 74613, 170544, 319770, 497420, 646646, 705432, 646646, 497420, 319770, 170544, 74613, 26334, 7315, 1540, 231, 22, 1],
  [1, 23, 253, 1771, 8855, 33649, 100947, 245157, 490314, 817190, 1144066, 1352078, 1352078, 1144066, 817190, 490314, 245157, 100947, 33649, 8855, 1771, 253, 23, 1]]
theorem wTab1_ok : tOk 1 wTab1 = true := by kernel_rfl
theorem wTab2_ok : tOk 2 wTab2 = true := by kernel_rfl
theorem wTab3_ok : tOk 3 wTab3 = true := by kernel_rfl
theorem wTab4_ok : tOk 4 wTab4 = true := by kernel_rfl
theorem cTab_ok : cOk cTab = true := by kernel_rfl
theorem mTab1_ok : mOk 3 cTab mTab1 = true := by kernel_rfl
theorem mTab2_ok : mOk 2 cTab mTab2 = true := by kernel_rfl
theorem mTab3_ok : mOk 5 cTab mTab3 = true := by kernel_rfl
theorem mTab4_ok : mOk 4 cTab mTab4 = true := by kernel_rfl
theorem wm1 : ((List.range 24).all fun t => decide (tW wTab1 t 0 = rdI mTab1 t)) = true := by kernel_rfl
theorem wm2 : ((List.range 24).all fun t => decide (tW wTab2 t 0 = rdI mTab2 t)) = true := by kernel_rfl
theorem wm3 : ((List.range 24).all fun t => decide (tW wTab3 t 0 = rdI mTab3 t)) = true := by kernel_rfl
theorem wm4 : ((List.range 24).all fun t => decide (tW wTab4 t 0 = rdI mTab4 t)) = true := by kernel_rfl
/-- The name's number among the moments. -/
def qT (q : Nat) : Nat := if q = 1 then 3 else if q = 2 then 2 else if q = 3 then 5 else 4
theorem named_mo {p : Int} (hp : 2 ≤ p ∧ p ≤ 10007) {q n : Nat} (hq : 1 ≤ q ∧ q ≤ 4) (hn : 1 ≤ n ∧ n ≤ 12) {t : Nat} (ht : t < 2 * n) : mo p (tab n (nmA p q)) (tab n (nmB p q)) t = rdI (nmL (qT q) p (2 * n)) t := by
  have key : ∀ (T : List (List Int)) (M : List Int), tOk q T = true → mOk (qT q) cTab M = true → ((List.range 24).all fun t => decide (tW T t 0 = rdI M t)) = true → cg p (mo p (tab n (nmA p q)) (tab n (nmB p q)) t) (rdI (nmL (qT q) p (2 * n)) t) := fun T M h1 h2 h3 => by
    have la : (tab n (nmA p q)).length = n := tab_len _ _
    refine (mo_fst hp _ _ (by omega) t).trans ?_
    rw [la, tab_rd (by omega)]
    have e0 : naU q 0 = 1 := by unfold naU; (repeat' split) <;> omega
    have w := nm_wA hp hq hn.2 h1 t 0 (by omega) (by omega)
    simp only [List.all_eq_true, List.mem_range, decide_eq_true_eq] at h3
    rw [h3 t (by omega)] at w
    have m := nmL_cg hp (t := qT q) (by unfold qT; (repeat' split) <;> omega) cTab_ok h2 t (by omega) (2 * n) ht
    refine ((nmB_cg hp hq 0).mul w).trans (cg.trans (cg.of_eq ?_) m.symm)
    rw [e0]; omega
  have r1 : 0 ≤ mo p (tab n (nmA p q)) (tab n (nmB p q)) t ∧ mo p (tab n (nmA p q)) (tab n (nmB p q)) t < p := mod_small hp _
  have r2 : 0 ≤ rdI (nmL (qT q) p (2 * n)) t ∧ rdI (nmL (qT q) p (2 * n)) t < p := by
    rw [nmL_at _ _ _ ht]; exact ownM_range hp _ _ _
  refine cg.eq (by omega) ?_ r1 r2
  have : q = 1 ∨ q = 2 ∨ q = 3 ∨ q = 4 := by omega
  rcases this with rfl | rfl | rfl | rfl
  · exact key wTab1 mTab1 wTab1_ok mTab1_ok wm1
  · exact key wTab2 mTab2 wTab2_ok mTab2_ok wm2
  · exact key wTab3 mTab3 wTab3_ok mTab3_ok wm3
  · exact key wTab4 mTab4 wTab4_ok mTab4_ok wm4
end Go.Proofs.Ytacfkfdnncgjcaa.Ev
