
/-! The group of a complete curve: - x^2 + y^2 = 1 + d x^2 y^2, over a field of p numbers. -/
namespace Go.Edw
variable {p : Nat} [NeZero p]
theorem idN (x1 y1 x2 y2 x3 y3 d : Fin p) (h1 : y1*y1 = x1*x1 + 1 + d*(x1*x1)*(y1*y1)) (h2 : y2*y2 = x2*x2 + 1 + d*(x2*x2)*(y2*y2)) (h3 : y3*y3 = x3*x3 + 1 + d*(x3*x3)*(y3*y3)) :
    ((x1*y2 + x2*y1)*(1 - d*(x1*x2*y1*y2))*y3 + (1 + d*(x1*x2*y1*y2))*(y1*y2 + x1*x2)*x3)*((1 + d*(x2*x3*y2*y3))*(1 - d*(x2*x3*y2*y3)) + d*x1*y1*(x2*y3 + x3*y2)*(y2*y3 + x2*x3)) =
    ((x2*y3 + x3*y2)*(1 - d*(x2*x3*y2*y3))*y1 + (1 + d*(x2*x3*y2*y3))*(y2*y3 + x2*x3)*x1)*((1 + d*(x1*x2*y1*y2))*(1 - d*(x1*x2*y1*y2)) + d*x3*y3*(x1*y2 + x2*y1)*(y1*y2 + x1*x2)) := by
  have g1 : (y1*y1 - x1*x1 - 1 - d*(x1*x1)*(y1*y1)) = 0 := by grind
  have g2 : (y2*y2 - x2*x2 - 1 - d*(x2*x2)*(y2*y2)) = 0 := by grind
  have g3 : (y3*y3 - x3*x3 - 1 - d*(x3*x3)*(y3*y3)) = 0 := by grind
  have g : (((x1*y2 + x2*y1)*(1 - d*(x1*x2*y1*y2))*y3 + (1 + d*(x1*x2*y1*y2))*(y1*y2 + x1*x2)*x3)*((1 + d*(x2*x3*y2*y3))*(1 - d*(x2*x3*y2*y3)) + d*x1*y1*(x2*y3 + x3*y2)*(y2*y3 + x2*x3))) - (((x2*y3 + x3*y2)*(1 - d*(x2*x3*y2*y3))*y1 + (1 + d*(x2*x3*y2*y3))*(y2*y3 + x2*x3)*x1)*((1 + d*(x1*x2*y1*y2))*(1 - d*(x1*x2*y1*y2)) + d*x3*y3*(x1*y2 + x2*y1)*(y1*y2 + x1*x2))) =
      (y1*y1 - x1*x1 - 1 - d*(x1*x1)*(y1*y1)) * (0 - x1*x2*x2*x2*x2*y2*y2*y2*x3*x3*y3*d*d - x1*x2*x2*x2*x2*y2*x3*x3*y3*d - x1*x2*x2*x2*y2*y2*y2*y2*x3*y3*y3*d*d - x1*x2*x2*x2*y2*y2*x3*x3*x3*d - x1*x2*x2*x2*y2*y2*x3*d + x1*x2*x2*y2*y2*y2*y3*y3*y3*d - x1*x2*x2*y2*y2*y2*y3*d + x1*x2*y2*y2*y2*y2*x3*y3*y3*d + y1*x2*x2*x2*x2*y2*y2*y2*x3*y3*y3*d*d + y1*x2*x2*x2*x2*y2*x3*y3*y3*d + y1*x2*x2*x2*y2*y2*y2*y2*x3*x3*y3*d*d + y1*x2*x2*x2*y2*y2*y3*y3*y3*d - y1*x2*x2*x2*y2*y2*y3*d - y1*x2*x2*y2*y2*y2*x3*x3*x3*d - y1*x2*x2*y2*y2*y2*x3*d - y1*x2*y2*y2*y2*y2*x3*x3*y3*d) +
      (y2*y2 - x2*x2 - 1 - d*(x2*x2)*(y2*y2)) * (0 + x1*x1*x1*x2*x2*y2*x3*x3*y3*d + x1*x1*x1*x2*y2*y2*x3*y3*y3*d + x1*x1*x1*x2*x3*x3*x3*y3*y3*d + x1*x1*x1*x2*x3*x3*x3 - x1*x1*x1*x2*x3*y3*y3 + x1*x1*x1*x2*x3 + x1*x1*x1*y2*x3*x3*y3*y3*y3*d + x1*x1*x1*y2*x3*x3*y3 - x1*x1*x1*y2*y3*y3*y3 + x1*x1*x1*y2*y3 + x1*x1*y1*x2*x2*y2*x3*x3*x3*y3*y3*d*d - x1*x1*y1*x2*x2*y2*x3*y3*y3*d - x1*x1*y1*x2*y2*y2*x3*x3*y3*y3*y3*d*d - x1*x1*y1*x2*y2*y2*x3*x3*y3*d + x1*x1*y1*x2*x3*x3*y3*y3*y3*d + x1*x1*y1*x2*x3*x3*y3 - x1*x1*y1*x2*y3*y3*y3 + x1*x1*y1*x2*y3 + x1*x1*y1*y2*x3*x3*x3*y3*y3*d + x1*x1*y1*y2*x3*x3*x3 - x1*x1*y1*y2*x3*y3*y3 + x1*x1*y1*y2*x3 - x1*y1*y1*x2*x2*y2*x3*x3*y3*y3*y3*d*d - x1*y1*y1*x2*x2*y2*x3*x3*y3*d + x1*y1*y1*x2*y2*y2*x3*x3*x3*y3*y3*d*d - x1*y1*y1*x2*y2*y2*x3*y3*y3*d - x1*y1*y1*x2*x3*x3*x3*y3*y3*d - x1*y1*y1*x2*x3*x3*x3 + x1*y1*y1*x2*x3*y3*y3 - x1*y1*y1*x2*x3 - x1*y1*y1*y2*x3*x3*y3*y3*y3*d - x1*y1*y1*y2*x3*x3*y3 + x1*y1*y1*y2*y3*y3*y3 - x1*y1*y1*y2*y3 + x1*x2*x2*y2*x3*x3*y3*d + x1*x2*y2*y2*x3*y3*y3*d + x1*x2*x3*x3*x3*y3*y3*d + x1*x2*x3*x3*x3 - x1*x2*x3*y3*y3 + x1*x2*x3 + x1*y2*x3*x3*y3*y3*y3*d + x1*y2*x3*x3*y3 - x1*y2*y3*y3*y3 + x1*y2*y3 + y1*y1*y1*x2*x2*y2*x3*y3*y3*d + y1*y1*y1*x2*y2*y2*x3*x3*y3*d - y1*y1*y1*x2*x3*x3*y3*y3*y3*d - y1*y1*y1*x2*x3*x3*y3 + y1*y1*y1*x2*y3*y3*y3 - y1*y1*y1*x2*y3 - y1*y1*y1*y2*x3*x3*x3*y3*y3*d - y1*y1*y1*y2*x3*x3*x3 + y1*y1*y1*y2*x3*y3*y3 - y1*y1*y1*y2*x3 - y1*x2*x2*y2*x3*y3*y3*d - y1*x2*y2*y2*x3*x3*y3*d + y1*x2*x3*x3*y3*y3*y3*d + y1*x2*x3*x3*y3 - y1*x2*y3*y3*y3 + y1*x2*y3 + y1*y2*x3*x3*x3*y3*y3*d + y1*y2*x3*x3*x3 - y1*y2*x3*y3*y3 + y1*y2*x3) +
      (y3*y3 - x3*x3 - 1 - d*(x3*x3)*(y3*y3)) * (0 - x1*x1*x1*x2*x2*x2*x3 - x1*x1*x1*x2*x2*y2*y3 + x1*x1*x1*x2*y2*y2*x3 - x1*x1*x1*x2*x3 + x1*x1*x1*y2*y2*y2*y3 - x1*x1*x1*y2*y3 - x1*x1*y1*x2*x2*x2*y3 - x1*x1*y1*x2*x2*y2*x3*d - x1*x1*y1*x2*x2*y2*x3 + x1*x1*y1*x2*y2*y2*y3*d + x1*x1*y1*x2*y2*y2*y3 - x1*x1*y1*x2*y3 + x1*x1*y1*y2*y2*y2*x3 - x1*x1*y1*y2*x3 + x1*y1*y1*x2*x2*x2*x3 + x1*y1*y1*x2*x2*y2*y3*d + x1*y1*y1*x2*x2*y2*y3 - x1*y1*y1*x2*y2*y2*x3*d - x1*y1*y1*x2*y2*y2*x3 + x1*y1*y1*x2*x3 - x1*y1*y1*y2*y2*y2*y3 + x1*y1*y1*y2*y3 - x1*x2*x2*x2*x3 - x1*x2*x2*y2*y3 + x1*x2*y2*y2*x3 - x1*x2*x3 + x1*y2*y2*y2*y3 - x1*y2*y3 + y1*y1*y1*x2*x2*x2*y3 + y1*y1*y1*x2*x2*y2*x3 - y1*y1*y1*x2*y2*y2*y3 + y1*y1*y1*x2*y3 - y1*y1*y1*y2*y2*y2*x3 + y1*y1*y1*y2*x3 - y1*x2*x2*x2*y3 - y1*x2*x2*y2*x3 + y1*x2*y2*y2*y3 - y1*x2*y3 + y1*y2*y2*y2*x3 - y1*y2*x3) := by clear g1 h1 g2 h2 g3 h3; grind
  rw [g1, g2, g3] at g
  clear g1 h1 g2 h2 g3 h3
  generalize ((x1*y2 + x2*y1)*(1 - d*(x1*x2*y1*y2))*y3 + (1 + d*(x1*x2*y1*y2))*(y1*y2 + x1*x2)*x3)*((1 + d*(x2*x3*y2*y3))*(1 - d*(x2*x3*y2*y3)) + d*x1*y1*(x2*y3 + x3*y2)*(y2*y3 + x2*x3)) = a at *
  generalize ((x2*y3 + x3*y2)*(1 - d*(x2*x3*y2*y3))*y1 + (1 + d*(x2*x3*y2*y3))*(y2*y3 + x2*x3)*x1)*((1 + d*(x1*x2*y1*y2))*(1 - d*(x1*x2*y1*y2)) + d*x3*y3*(x1*y2 + x2*y1)*(y1*y2 + x1*x2)) = b at *
  grind
theorem idM (x1 y1 x2 y2 x3 y3 d : Fin p) (h1 : y1*y1 = x1*x1 + 1 + d*(x1*x1)*(y1*y1)) (h2 : y2*y2 = x2*x2 + 1 + d*(x2*x2)*(y2*y2)) (h3 : y3*y3 = x3*x3 + 1 + d*(x3*x3)*(y3*y3)) :
    ((y1*y2 + x1*x2)*(1 + d*(x1*x2*y1*y2))*y3 + (x1*y2 + x2*y1)*(1 - d*(x1*x2*y1*y2))*x3)*((1 + d*(x2*x3*y2*y3))*(1 - d*(x2*x3*y2*y3)) - d*x1*y1*(x2*y3 + x3*y2)*(y2*y3 + x2*x3)) =
    ((y2*y3 + x2*x3)*(1 + d*(x2*x3*y2*y3))*y1 + (x2*y3 + x3*y2)*(1 - d*(x2*x3*y2*y3))*x1)*((1 + d*(x1*x2*y1*y2))*(1 - d*(x1*x2*y1*y2)) - d*x3*y3*(x1*y2 + x2*y1)*(y1*y2 + x1*x2)) := by
  have g1 : (y1*y1 - x1*x1 - 1 - d*(x1*x1)*(y1*y1)) = 0 := by grind
  have g2 : (y2*y2 - x2*x2 - 1 - d*(x2*x2)*(y2*y2)) = 0 := by grind
  have g3 : (y3*y3 - x3*x3 - 1 - d*(x3*x3)*(y3*y3)) = 0 := by grind
  have g : (((y1*y2 + x1*x2)*(1 + d*(x1*x2*y1*y2))*y3 + (x1*y2 + x2*y1)*(1 - d*(x1*x2*y1*y2))*x3)*((1 + d*(x2*x3*y2*y3))*(1 - d*(x2*x3*y2*y3)) - d*x1*y1*(x2*y3 + x3*y2)*(y2*y3 + x2*x3))) - (((y2*y3 + x2*x3)*(1 + d*(x2*x3*y2*y3))*y1 + (x2*y3 + x3*y2)*(1 - d*(x2*x3*y2*y3))*x1)*((1 + d*(x1*x2*y1*y2))*(1 - d*(x1*x2*y1*y2)) - d*x3*y3*(x1*y2 + x2*y1)*(y1*y2 + x1*x2))) =
      (y1*y1 - x1*x1 - 1 - d*(x1*x1)*(y1*y1)) * (0 + x1*x2*x2*x2*x2*y2*y2*y2*x3*y3*y3*d*d + x1*x2*x2*x2*x2*y2*x3*y3*y3*d + x1*x2*x2*x2*y2*y2*y2*y2*x3*x3*y3*d*d + x1*x2*x2*x2*y2*y2*y3*y3*y3*d - x1*x2*x2*x2*y2*y2*y3*d - x1*x2*x2*y2*y2*y2*x3*x3*x3*d - x1*x2*x2*y2*y2*y2*x3*d - x1*x2*y2*y2*y2*y2*x3*x3*y3*d - y1*x2*x2*x2*x2*y2*y2*y2*x3*x3*y3*d*d - y1*x2*x2*x2*x2*y2*x3*x3*y3*d - y1*x2*x2*x2*y2*y2*y2*y2*x3*y3*y3*d*d - y1*x2*x2*x2*y2*y2*x3*x3*x3*d - y1*x2*x2*x2*y2*y2*x3*d + y1*x2*x2*y2*y2*y2*y3*y3*y3*d - y1*x2*x2*y2*y2*y2*y3*d + y1*x2*y2*y2*y2*y2*x3*y3*y3*d) +
      (y2*y2 - x2*x2 - 1 - d*(x2*x2)*(y2*y2)) * (0 - x1*x1*x1*x2*x2*y2*x3*y3*y3*d - x1*x1*x1*x2*y2*y2*x3*x3*y3*d + x1*x1*x1*x2*x3*x3*y3*y3*y3*d + x1*x1*x1*x2*x3*x3*y3 - x1*x1*x1*x2*y3*y3*y3 + x1*x1*x1*x2*y3 + x1*x1*x1*y2*x3*x3*x3*y3*y3*d + x1*x1*x1*y2*x3*x3*x3 - x1*x1*x1*y2*x3*y3*y3 + x1*x1*x1*y2*x3 + x1*x1*y1*x2*x2*y2*x3*x3*y3*y3*y3*d*d + x1*x1*y1*x2*x2*y2*x3*x3*y3*d - x1*x1*y1*x2*y2*y2*x3*x3*x3*y3*y3*d*d + x1*x1*y1*x2*y2*y2*x3*y3*y3*d + x1*x1*y1*x2*x3*x3*x3*y3*y3*d + x1*x1*y1*x2*x3*x3*x3 - x1*x1*y1*x2*x3*y3*y3 + x1*x1*y1*x2*x3 + x1*x1*y1*y2*x3*x3*y3*y3*y3*d + x1*x1*y1*y2*x3*x3*y3 - x1*x1*y1*y2*y3*y3*y3 + x1*x1*y1*y2*y3 - x1*y1*y1*x2*x2*y2*x3*x3*x3*y3*y3*d*d + x1*y1*y1*x2*x2*y2*x3*y3*y3*d + x1*y1*y1*x2*y2*y2*x3*x3*y3*y3*y3*d*d + x1*y1*y1*x2*y2*y2*x3*x3*y3*d - x1*y1*y1*x2*x3*x3*y3*y3*y3*d - x1*y1*y1*x2*x3*x3*y3 + x1*y1*y1*x2*y3*y3*y3 - x1*y1*y1*x2*y3 - x1*y1*y1*y2*x3*x3*x3*y3*y3*d - x1*y1*y1*y2*x3*x3*x3 + x1*y1*y1*y2*x3*y3*y3 - x1*y1*y1*y2*x3 - x1*x2*x2*y2*x3*y3*y3*d - x1*x2*y2*y2*x3*x3*y3*d + x1*x2*x3*x3*y3*y3*y3*d + x1*x2*x3*x3*y3 - x1*x2*y3*y3*y3 + x1*x2*y3 + x1*y2*x3*x3*x3*y3*y3*d + x1*y2*x3*x3*x3 - x1*y2*x3*y3*y3 + x1*y2*x3 - y1*y1*y1*x2*x2*y2*x3*x3*y3*d - y1*y1*y1*x2*y2*y2*x3*y3*y3*d - y1*y1*y1*x2*x3*x3*x3*y3*y3*d - y1*y1*y1*x2*x3*x3*x3 + y1*y1*y1*x2*x3*y3*y3 - y1*y1*y1*x2*x3 - y1*y1*y1*y2*x3*x3*y3*y3*y3*d - y1*y1*y1*y2*x3*x3*y3 + y1*y1*y1*y2*y3*y3*y3 - y1*y1*y1*y2*y3 + y1*x2*x2*y2*x3*x3*y3*d + y1*x2*y2*y2*x3*y3*y3*d + y1*x2*x3*x3*x3*y3*y3*d + y1*x2*x3*x3*x3 - y1*x2*x3*y3*y3 + y1*x2*x3 + y1*y2*x3*x3*y3*y3*y3*d + y1*y2*x3*x3*y3 - y1*y2*y3*y3*y3 + y1*y2*y3) +
      (y3*y3 - x3*x3 - 1 - d*(x3*x3)*(y3*y3)) * (0 - x1*x1*x1*x2*x2*x2*y3 - x1*x1*x1*x2*x2*y2*x3 + x1*x1*x1*x2*y2*y2*y3 - x1*x1*x1*x2*y3 + x1*x1*x1*y2*y2*y2*x3 - x1*x1*x1*y2*x3 - x1*x1*y1*x2*x2*x2*x3 - x1*x1*y1*x2*x2*y2*y3*d - x1*x1*y1*x2*x2*y2*y3 + x1*x1*y1*x2*y2*y2*x3*d + x1*x1*y1*x2*y2*y2*x3 - x1*x1*y1*x2*x3 + x1*x1*y1*y2*y2*y2*y3 - x1*x1*y1*y2*y3 + x1*y1*y1*x2*x2*x2*y3 + x1*y1*y1*x2*x2*y2*x3*d + x1*y1*y1*x2*x2*y2*x3 - x1*y1*y1*x2*y2*y2*y3*d - x1*y1*y1*x2*y2*y2*y3 + x1*y1*y1*x2*y3 - x1*y1*y1*y2*y2*y2*x3 + x1*y1*y1*y2*x3 - x1*x2*x2*x2*y3 - x1*x2*x2*y2*x3 + x1*x2*y2*y2*y3 - x1*x2*y3 + x1*y2*y2*y2*x3 - x1*y2*x3 + y1*y1*y1*x2*x2*x2*x3 + y1*y1*y1*x2*x2*y2*y3 - y1*y1*y1*x2*y2*y2*x3 + y1*y1*y1*x2*x3 - y1*y1*y1*y2*y2*y2*y3 + y1*y1*y1*y2*y3 - y1*x2*x2*x2*x3 - y1*x2*x2*y2*y3 + y1*x2*y2*y2*x3 - y1*x2*x3 + y1*y2*y2*y2*y3 - y1*y2*y3) := by clear g1 h1 g2 h2 g3 h3; grind
  rw [g1, g2, g3] at g
  clear g1 h1 g2 h2 g3 h3
  generalize ((y1*y2 + x1*x2)*(1 + d*(x1*x2*y1*y2))*y3 + (x1*y2 + x2*y1)*(1 - d*(x1*x2*y1*y2))*x3)*((1 + d*(x2*x3*y2*y3))*(1 - d*(x2*x3*y2*y3)) - d*x1*y1*(x2*y3 + x3*y2)*(y2*y3 + x2*x3)) = a at *
  generalize ((y2*y3 + x2*x3)*(1 + d*(x2*x3*y2*y3))*y1 + (x2*y3 + x3*y2)*(1 - d*(x2*x3*y2*y3))*x1)*((1 + d*(x1*x2*y1*y2))*(1 - d*(x1*x2*y1*y2)) - d*x3*y3*(x1*y2 + x2*y1)*(y1*y2 + x1*x2)) = b at *
  grind
theorem idK (x1 y1 x2 y2 d : Fin p) (h1 : y1*y1 = x1*x1 + 1 + d*(x1*x1)*(y1*y1)) (h2 : y2*y2 = x2*x2 + 1 + d*(x2*x2)*(y2*y2)) :
    (y1*y2 + x1*x2)*(y1*y2 + x1*x2)*((1 + d*(x1*x2*y1*y2))*(1 + d*(x1*x2*y1*y2))) =
    (x1*y2 + x2*y1)*(x1*y2 + x2*y1)*((1 - d*(x1*x2*y1*y2))*(1 - d*(x1*x2*y1*y2))) + (1 + d*(x1*x2*y1*y2))*(1 + d*(x1*x2*y1*y2))*((1 - d*(x1*x2*y1*y2))*(1 - d*(x1*x2*y1*y2))) + d*((x1*y2 + x2*y1)*(x1*y2 + x2*y1))*((y1*y2 + x1*x2)*(y1*y2 + x1*x2)) := by
  have g1 : (y1*y1 - x1*x1 - 1 - d*(x1*x1)*(y1*y1)) = 0 := by grind
  have g2 : (y2*y2 - x2*x2 - 1 - d*(x2*x2)*(y2*y2)) = 0 := by grind
  have g : ((y1*y2 + x1*x2)*(y1*y2 + x1*x2)*((1 + d*(x1*x2*y1*y2))*(1 + d*(x1*x2*y1*y2)))) - ((x1*y2 + x2*y1)*(x1*y2 + x2*y1)*((1 - d*(x1*x2*y1*y2))*(1 - d*(x1*x2*y1*y2))) + (1 + d*(x1*x2*y1*y2))*(1 + d*(x1*x2*y1*y2))*((1 - d*(x1*x2*y1*y2))*(1 - d*(x1*x2*y1*y2))) + d*((x1*y2 + x2*y1)*(x1*y2 + x2*y1))*((y1*y2 + x1*x2)*(y1*y2 + x1*x2))) =
      (y1*y1 - x1*x1 - 1 - d*(x1*x1)*(y1*y1)) * (0 + x1*x1*y1*y1*x2*x2*x2*x2*y2*y2*y2*y2*d*d*d - x1*x1*x2*x2*x2*x2*y2*y2*y2*y2*d*d - x1*x1*x2*x2*x2*x2*y2*y2*d + x1*x1*x2*x2*y2*y2*y2*y2*d + y1*y1*x2*x2*x2*x2*y2*y2*y2*y2*d*d + y1*y1*x2*x2*x2*x2*y2*y2*d - y1*y1*x2*x2*y2*y2*y2*y2*d - x2*x2*x2*x2*y2*y2*y2*y2*d*d - 2*x2*x2*x2*x2*y2*y2*y2*y2*d - 2*x2*x2*x2*x2*y2*y2 + x2*x2*x2*x2 + 2*x2*x2*y2*y2*y2*y2 - 2*x2*x2*y2*y2*d - 4*x2*x2*y2*y2 + y2*y2*y2*y2) +
      (y2*y2 - x2*x2 - 1 - d*(x2*x2)*(y2*y2)) * (0 + x1*x1*x1*x1*x2*x2*y2*y2*d + 2*x1*x1*x2*x2*y2*y2*d + 2*x1*x1*x2*x2*y2*y2 - x1*x1*x2*x2 + x1*x1*y2*y2 + y1*y1*y1*y1*x2*x2*y2*y2*d - 2*y1*y1*x2*x2*y2*y2*d - 2*y1*y1*x2*x2*y2*y2 + y1*y1*x2*x2 - y1*y1*y2*y2 + x2*x2*y2*y2*d + 2*x2*x2*y2*y2 - x2*x2 + y2*y2 + 1) := by clear g1 h1 g2 h2; grind
  rw [g1, g2] at g
  clear g1 h1 g2 h2
  generalize (y1*y2 + x1*x2)*(y1*y2 + x1*x2)*((1 + d*(x1*x2*y1*y2))*(1 + d*(x1*x2*y1*y2))) = a at *
  generalize (x1*y2 + x2*y1)*(x1*y2 + x2*y1)*((1 - d*(x1*x2*y1*y2))*(1 - d*(x1*x2*y1*y2))) + (1 + d*(x1*x2*y1*y2))*(1 + d*(x1*x2*y1*y2))*((1 - d*(x1*x2*y1*y2))*(1 - d*(x1*x2*y1*y2))) + d*((x1*y2 + x2*y1)*(x1*y2 + x2*y1))*((y1*y2 + x1*x2)*(y1*y2 + x1*x2)) = b at *
  grind

/-- what is told of a curve: its field, and its number, which is no square -/
structure Crv (d i : Fin p) (iv : Fin p → Fin p) : Prop where
  ii : i * i = -1
  hiv : ∀ a, a ≠ 0 → a * iv a = 1
  two : (2 : Fin p) ≠ 0
  nsq : ∀ x y : Fin p, x * x = d * (y * y) → y = 0
variable {d i : Fin p} {iv : Fin p → Fin p}
theorem Crv.hz (c : Crv d i iv) {a b : Fin p} (h : a * b = 0) : a = 0 ∨ b = 0 := by
  by_cases k : a = 0
  · exact .inl k
  · right
    have := c.hiv a k
    grind
theorem Crv.one (c : Crv d i iv) : (1 : Fin p) ≠ 0 := fun h => c.two (by grind)
theorem Crv.mulnz (c : Crv d i iv) {a b : Fin p} (h : a ≠ 0) (k : b ≠ 0) : a * b ≠ 0 := fun e => (c.hz e).elim h k
theorem Crv.canc (c : Crv d i iv) {a b e : Fin p} (h : e ≠ 0) (k : e * a = e * b) : a = b := by
  have := c.hiv e h
  grind
theorem Crv.ivmul (c : Crv d i iv) {a b : Fin p} (h : a * b = 1) : iv a = b := by
  have h0 : a ≠ 0 := fun e => c.one (by grind)
  have := c.hiv a h0
  grind
/-- the points of the curve -/
def On (d : Fin p) (P : Fin p × Fin p) : Prop := P.2 * P.2 = P.1 * P.1 + 1 + d * (P.1 * P.1) * (P.2 * P.2)
theorem Crv.sq_one (c : Crv d i iv) {x1 y1 x2 y2 : Fin p} (h1 : On d (x1, y1)) (h2 : On d (x2, y2)) :
    d * (x1 * x2 * y1 * y2) * (d * (x1 * x2 * y1 * y2)) ≠ 1 := by
  intro h
  have h1 : y1 * y1 = x1 * x1 + 1 + d * (x1 * x1) * (y1 * y1) := h1
  have h2 : y2 * y2 = x2 * x2 + 1 + d * (x2 * x2) * (y2 * y2) := h2
  have hi := c.ii
  have h3 : y1 * y1 - x1 * x1 = d * (x1 * x1) * (y1 * y1) * (y2 * y2 - x2 * x2) := by
    have : d * (x1 * x1) * (y1 * y1) * (y2 * y2 - x2 * x2) = d * (x1 * x1) * (y1 * y1) * (1 + d * (x2 * x2) * (y2 * y2)) := by rw [h2]; grind
    rw [this]; grind
  obtain ⟨e, he⟩ : ∃ e, e = d * (x1 * x2 * y1 * y2) := ⟨_, rfl⟩
  rw [← he] at h
  have h4 : (i * x1 + e * y1) * (i * x1 + e * y1) = d * (x1 * y1 * (i * x2 + y2) * (x1 * y1 * (i * x2 + y2))) := by
    have a1 : (i * x1 + e * y1) * (i * x1 + e * y1) = y1 * y1 - x1 * x1 + 2 * i * x1 * y1 * e := by grind
    have a2 : d * (x1 * y1 * (i * x2 + y2) * (x1 * y1 * (i * x2 + y2))) = d * (x1 * x1) * (y1 * y1) * (y2 * y2 - x2 * x2) + 2 * i * x1 * y1 * e := by grind
    rw [a1, a2, h3]
  have h5 : (i * x1 - e * y1) * (i * x1 - e * y1) = d * (x1 * y1 * (i * x2 - y2) * (x1 * y1 * (i * x2 - y2))) := by
    have a1 : (i * x1 - e * y1) * (i * x1 - e * y1) = y1 * y1 - x1 * x1 - 2 * i * x1 * y1 * e := by grind
    have a2 : d * (x1 * y1 * (i * x2 - y2) * (x1 * y1 * (i * x2 - y2))) = d * (x1 * x1) * (y1 * y1) * (y2 * y2 - x2 * x2) - 2 * i * x1 * y1 * e := by grind
    rw [a1, a2, h3]
  have h6 := c.nsq _ _ h4
  have h7 := c.nsq _ _ h5
  have h8 : 2 * (x1 * y1 * y2) = 0 := by grind
  have h9 : x1 * y1 * y2 = 0 := (c.hz h8).resolve_left c.two
  exact c.one (by grind)
theorem Crv.pos (c : Crv d i iv) {x1 y1 x2 y2 : Fin p} (h1 : On d (x1, y1)) (h2 : On d (x2, y2)) : 1 + d * (x1 * x2 * y1 * y2) ≠ 0 :=
  fun h => c.sq_one h1 h2 (by generalize d * (x1 * x2 * y1 * y2) = t at *; grind)
theorem Crv.neg (c : Crv d i iv) {x1 y1 x2 y2 : Fin p} (h1 : On d (x1, y1)) (h2 : On d (x2, y2)) : 1 - d * (x1 * x2 * y1 * y2) ≠ 0 :=
  fun h => c.sq_one h1 h2 (by generalize d * (x1 * x2 * y1 * y2) = t at *; grind)
/-- the sum of two -/
def add (d : Fin p) (iv : Fin p → Fin p) (P Q : Fin p × Fin p) : Fin p × Fin p :=
  ((P.1 * Q.2 + Q.1 * P.2) * iv (1 + d * (P.1 * Q.1 * P.2 * Q.2)), (P.2 * Q.2 + P.1 * Q.1) * iv (1 - d * (P.1 * Q.1 * P.2 * Q.2)))
theorem Crv.add_on (c : Crv d i iv) {P Q : Fin p × Fin p} (h1 : On d P) (h2 : On d Q) : On d (add d iv P Q) := by
  obtain ⟨x1, y1⟩ := P
  obtain ⟨x2, y2⟩ := Q
  have k := idK x1 y1 x2 y2 d h1 h2
  have hB := c.hiv _ (c.pos h1 h2)
  have hD := c.hiv _ (c.neg h1 h2)
  unfold On add
  dsimp only
  generalize iv (1 + d * (x1 * x2 * y1 * y2)) = u at *
  generalize iv (1 - d * (x1 * x2 * y1 * y2)) = v at *
  generalize 1 + d * (x1 * x2 * y1 * y2) = B at *
  generalize 1 - d * (x1 * x2 * y1 * y2) = D at *
  generalize x1 * y2 + x2 * y1 = A at *
  generalize y1 * y2 + x1 * x2 = C at *
  clear h1 h2 c
  have a1 : C * v * (C * v) = C * C * (B * B) * (u * v * (u * v)) := by
    have : C * v * (C * v) = C * v * (C * v) * (B * u * (B * u)) := by rw [hB]; grind
    rw [this]; grind
  have a2 : A * u * (A * u) = A * A * (D * D) * (u * v * (u * v)) := by
    have : A * u * (A * u) = A * u * (A * u) * (D * v * (D * v)) := by rw [hD]; grind
    rw [this]; grind
  have a3 : 1 = B * B * (D * D) * (u * v * (u * v)) := by
    have : B * B * (D * D) * (u * v * (u * v)) = B * u * (B * u) * (D * v * (D * v)) := by grind
    rw [this, hB, hD]; grind
  have a4 : d * (A * u * (A * u)) * (C * v * (C * v)) = d * (A * A) * (C * C) * (u * v * (u * v)) := by grind
  rw [a4, a1, a2, k]
  conv => rhs; arg 1; arg 2; rw [a3]
  grind
theorem add_comm (P Q : Fin p × Fin p) : add d iv P Q = add d iv Q P := by
  unfold add
  rw [show Q.1 * P.1 * Q.2 * P.2 = P.1 * Q.1 * P.2 * Q.2 by grind, show Q.1 * P.2 + P.1 * Q.2 = P.1 * Q.2 + Q.1 * P.2 by grind, show Q.2 * P.2 + Q.1 * P.1 = P.2 * Q.2 + P.1 * Q.1 by grind]
theorem Crv.iv_one (c : Crv d i iv) : iv 1 = 1 := c.ivmul (by grind)
theorem Crv.add_zero (c : Crv d i iv) (P : Fin p × Fin p) : add d iv P (0, 1) = P := by
  unfold add
  dsimp only
  rw [show 1 + d * (P.1 * 0 * P.2 * 1) = (1 : Fin p) by grind, show 1 - d * (P.1 * 0 * P.2 * 1) = (1 : Fin p) by grind, c.iv_one]
  obtain ⟨x, y⟩ := P
  refine Prod.ext ?_ ?_ <;> dsimp only <;> grind
theorem on_zero : On d (0, 1) := by unfold On; dsimp only; grind
theorem on_neg {P : Fin p × Fin p} (h : On d P) : On d (-P.1, P.2) := by unfold On at *; dsimp only; grind
theorem Crv.add_neg (c : Crv d i iv) {P : Fin p × Fin p} (h : On d P) : add d iv P (-P.1, P.2) = (0, 1) := by
  obtain ⟨x, y⟩ := P
  have hD := c.hiv _ (c.neg h (on_neg h))
  have h : y * y = x * x + 1 + d * (x * x) * (y * y) := h
  unfold add
  dsimp only at *
  refine Prod.ext ?_ ?_ <;> dsimp only
  · rw [show x * y + -x * y = (0 : Fin p) by grind]; grind
  · rw [show y * y + x * -x = 1 - d * (x * -x * y * y) by grind]; exact hD
theorem Crv.assoc (c : Crv d i iv) {P Q R : Fin p × Fin p} (h1 : On d P) (h2 : On d Q) (h3 : On d R) :
    add d iv (add d iv P Q) R = add d iv P (add d iv Q R) := by
  have o1 := c.add_on h1 h2
  have o2 := c.add_on h2 h3
  obtain ⟨x1, y1⟩ := P
  obtain ⟨x2, y2⟩ := Q
  obtain ⟨x3, y3⟩ := R
  have n := idN x1 y1 x2 y2 x3 y3 d h1 h2 h3
  have m := idM x1 y1 x2 y2 x3 y3 d h1 h2 h3
  have hB := c.hiv _ (c.pos h1 h2)
  have hD := c.hiv _ (c.neg h1 h2)
  have hB' := c.hiv _ (c.pos h2 h3)
  have hD' := c.hiv _ (c.neg h2 h3)
  have p1 := c.hiv _ (c.pos o1 h3)
  have p2 := c.hiv _ (c.neg o1 h3)
  have p3 := c.hiv _ (c.pos h1 o2)
  have p4 := c.hiv _ (c.neg h1 o2)
  unfold add at *
  dsimp only at *
  generalize iv (1 + d * (x1 * x2 * y1 * y2)) = u at *
  generalize iv (1 - d * (x1 * x2 * y1 * y2)) = v at *
  generalize iv (1 + d * (x2 * x3 * y2 * y3)) = u' at *
  generalize iv (1 - d * (x2 * x3 * y2 * y3)) = v' at *
  generalize 1 + d * (x1 * x2 * y1 * y2) = B at *
  generalize 1 - d * (x1 * x2 * y1 * y2) = D at *
  generalize 1 + d * (x2 * x3 * y2 * y3) = B' at *
  generalize 1 - d * (x2 * x3 * y2 * y3) = D' at *
  generalize x1 * y2 + x2 * y1 = A at *
  generalize y1 * y2 + x1 * x2 = C at *
  generalize x2 * y3 + x3 * y2 = A' at *
  generalize y2 * y3 + x2 * x3 = C' at *
  clear h1 h2 h3 o1 o2
  have q1 : 1 + d * (A * u * x3 * (C * v) * y3) = (B * D + d * x3 * y3 * A * C) * (u * v) := by
    have : (B * D + d * x3 * y3 * A * C) * (u * v) = (B * u) * (D * v) + d * x3 * y3 * A * C * (u * v) := by grind
    rw [this, hB, hD]; grind
  have q2 : 1 - d * (A * u * x3 * (C * v) * y3) = (B * D - d * x3 * y3 * A * C) * (u * v) := by
    have : (B * D - d * x3 * y3 * A * C) * (u * v) = (B * u) * (D * v) - d * x3 * y3 * A * C * (u * v) := by grind
    rw [this, hB, hD]; grind
  have q3 : 1 + d * (x1 * (A' * u') * y1 * (C' * v')) = (B' * D' + d * x1 * y1 * A' * C') * (u' * v') := by
    have : (B' * D' + d * x1 * y1 * A' * C') * (u' * v') = (B' * u') * (D' * v') + d * x1 * y1 * A' * C' * (u' * v') := by grind
    rw [this, hB', hD']; grind
  have q4 : 1 - d * (x1 * (A' * u') * y1 * (C' * v')) = (B' * D' - d * x1 * y1 * A' * C') * (u' * v') := by
    have : (B' * D' - d * x1 * y1 * A' * C') * (u' * v') = (B' * u') * (D' * v') - d * x1 * y1 * A' * C' * (u' * v') := by grind
    rw [this, hB', hD']; grind
  have r1 : A * u * y3 + x3 * (C * v) = (A * D * y3 + B * C * x3) * (u * v) := by
    have : (A * D * y3 + B * C * x3) * (u * v) = A * u * y3 * (D * v) + x3 * (C * v) * (B * u) := by grind
    rw [this, hB, hD]; grind
  have r2 : C * v * y3 + A * u * x3 = (C * B * y3 + A * D * x3) * (u * v) := by
    have : (C * B * y3 + A * D * x3) * (u * v) = A * u * x3 * (D * v) + C * v * y3 * (B * u) := by grind
    rw [this, hB, hD]; grind
  have r3 : x1 * (C' * v') + A' * u' * y1 = (A' * D' * y1 + B' * C' * x1) * (u' * v') := by
    have : (A' * D' * y1 + B' * C' * x1) * (u' * v') = A' * u' * y1 * (D' * v') + x1 * (C' * v') * (B' * u') := by grind
    rw [this, hB', hD']; grind
  have r4 : y1 * (C' * v') + x1 * (A' * u') = (C' * B' * y1 + A' * D' * x1) * (u' * v') := by
    have : (C' * B' * y1 + A' * D' * x1) * (u' * v') = A' * u' * x1 * (D' * v') + C' * v' * y1 * (B' * u') := by grind
    rw [this, hB', hD']; grind
  rw [q1] at p1 ⊢
  rw [q2] at p2 ⊢
  rw [q3] at p3 ⊢
  rw [q4] at p4 ⊢
  rw [r1, r2, r3, r4]
  clear q1 q2 q3 q4 r1 r2 r3 r4 hB hD hB' hD' c
  generalize iv ((B * D + d * x3 * y3 * A * C) * (u * v)) = w1 at *
  generalize iv ((B * D - d * x3 * y3 * A * C) * (u * v)) = w2 at *
  generalize iv ((B' * D' + d * x1 * y1 * A' * C') * (u' * v')) = w3 at *
  generalize iv ((B' * D' - d * x1 * y1 * A' * C') * (u' * v')) = w4 at *
  generalize B * D + d * x3 * y3 * A * C = E1 at *
  generalize B * D - d * x3 * y3 * A * C = E2 at *
  generalize B' * D' + d * x1 * y1 * A' * C' = E3 at *
  generalize B' * D' - d * x1 * y1 * A' * C' = E4 at *
  generalize A * D * y3 + B * C * x3 = F1 at *
  generalize C * B * y3 + A * D * x3 = F2 at *
  generalize A' * D' * y1 + B' * C' * x1 = F3 at *
  generalize C' * B' * y1 + A' * D' * x1 = F4 at *
  generalize u * v = t at *
  generalize u' * v' = t' at *
  have fin : ∀ F E w t F' E' w' t' : Fin p, F * E' = F' * E → E * t * w = 1 → E' * t' * w' = 1 → F * t * w = F' * t' * w' := by
    intro F E w t F' E' w' t' h k k'
    have : F * t * w = F * E' * (t * w * (t' * w')) := by
      have : F * E' * (t * w * (t' * w')) = F * t * w * (E' * t' * w') := by grind
      rw [this, k']; grind
    rw [this, h]
    have : F' * E * (t * w * (t' * w')) = F' * t' * w' * (E * t * w) := by grind
    rw [this, k]; grind
  exact Prod.ext (fin _ _ _ _ _ _ _ _ n p1 p3) (fin _ _ _ _ _ _ _ _ m p2 p4)

/-! ## So often -/
theorem Crv.zero_add (c : Crv d i iv) (P : Fin p × Fin p) : add d iv (0, 1) P = P := by rw [add_comm, c.add_zero]
def mul (d : Fin p) (iv : Fin p → Fin p) : Nat → Fin p × Fin p → Fin p × Fin p
  | 0, _ => (0, 1)
  | n + 1, P => add d iv (mul d iv n P) P
theorem Crv.mul_on (c : Crv d i iv) {P : Fin p × Fin p} (h : On d P) : ∀ n, On d (mul d iv n P)
  | 0 => on_zero
  | n + 1 => c.add_on (c.mul_on h n) h
theorem Crv.mul_one (c : Crv d i iv) (P : Fin p × Fin p) : mul d iv 1 P = P := c.zero_add P
theorem Crv.mul_add (c : Crv d i iv) {P : Fin p × Fin p} (h : On d P) (m : Nat) : ∀ n, mul d iv (m + n) P = add d iv (mul d iv m P) (mul d iv n P)
  | 0 => (c.add_zero _).symm
  | n + 1 => by
    show add d iv (mul d iv (m + n) P) P = add d iv (mul d iv m P) (add d iv (mul d iv n P) P)
    rw [c.mul_add h m n, c.assoc (c.mul_on h m) (c.mul_on h n) h]
theorem Crv.four (c : Crv d i iv) {P Q R S : Fin p × Fin p} (h1 : On d P) (h2 : On d Q) (h3 : On d R) (h4 : On d S) :
    add d iv (add d iv P Q) (add d iv R S) = add d iv (add d iv P R) (add d iv Q S) := by
  rw [c.assoc h1 h2 (c.add_on h3 h4), c.assoc h1 h3 (c.add_on h2 h4), ← c.assoc h2 h3 h4, add_comm Q R, c.assoc h3 h2 h4]
theorem Crv.mul_sum (c : Crv d i iv) {P Q : Fin p × Fin p} (h : On d P) (k : On d Q) : ∀ n, mul d iv n (add d iv P Q) = add d iv (mul d iv n P) (mul d iv n Q)
  | 0 => (c.add_zero _).symm
  | n + 1 => by
    show add d iv (mul d iv n (add d iv P Q)) (add d iv P Q) = add d iv (add d iv (mul d iv n P) P) (add d iv (mul d iv n Q) Q)
    rw [c.mul_sum h k n, c.four (c.mul_on h n) (c.mul_on k n) h k]
theorem Crv.mul_zero (c : Crv d i iv) : ∀ n, mul d iv n (0, 1) = (0, 1)
  | 0 => rfl
  | n + 1 => by show add d iv (mul d iv n (0, 1)) (0, 1) = (0, 1); rw [c.mul_zero n, c.add_zero]
theorem Crv.mul_mul (c : Crv d i iv) {P : Fin p × Fin p} (h : On d P) (m : Nat) : ∀ n, mul d iv m (mul d iv n P) = mul d iv (m * n) P
  | 0 => c.mul_zero m
  | n + 1 => by
    show mul d iv m (add d iv (mul d iv n P) P) = mul d iv (m * n + m) P
    rw [c.mul_sum (c.mul_on h n) h, c.mul_mul h m n, ← c.mul_add h]
theorem Crv.mul_of_dvd (c : Crv d i iv) {P : Fin p × Fin p} (h : On d P) {m n : Nat} (k : m ∣ n) (e : mul d iv m P = (0, 1)) : mul d iv n P = (0, 1) := by
  obtain ⟨q, rfl⟩ := k
  rw [Nat.mul_comm, ← c.mul_mul h, e, c.mul_zero]
theorem Crv.mul_mod (c : Crv d i iv) {P : Fin p × Fin p} (h : On d P) {m : Nat} (n : Nat) (e : mul d iv m P = (0, 1)) : mul d iv (n % m) P = mul d iv n P := by
  have k := c.mul_add h (m * (n / m)) (n % m)
  rw [Nat.div_add_mod, c.mul_of_dvd h ⟨n / m, rfl⟩ e, c.zero_add] at k
  exact k.symm
theorem Crv.mul_gcd (c : Crv d i iv) {P : Fin p × Fin p} (h : On d P) (m n : Nat) : mul d iv m P = (0, 1) → mul d iv n P = (0, 1) → mul d iv (Nat.gcd m n) P = (0, 1) := by
  induction m, n using Nat.gcd.induction with
  | H0 n => intro _ k; rw [Nat.gcd_zero_left]; exact k
  | H1 m n hm ih => intro e k; rw [Nat.gcd_rec]; exact ih ((c.mul_mod h n e).trans k) e

/-! ## How many points there are -/
instance onDec (d : Fin p) (P : Fin p × Fin p) : Decidable (On d P) := inferInstanceAs (Decidable (_ = _))
def sumL (d : Fin p) (iv : Fin p → Fin p) : List (Fin p × Fin p) → Fin p × Fin p
  | [] => (0, 1)
  | P :: l => add d iv P (sumL d iv l)
theorem Crv.sum_on (c : Crv d i iv) : ∀ {l : List (Fin p × Fin p)}, (∀ P ∈ l, On d P) → On d (sumL d iv l)
  | [], _ => on_zero
  | P :: l, h => c.add_on (h P (by simp)) (c.sum_on fun Q hq => h Q (by simp [hq]))
theorem Crv.sum_perm (c : Crv d i iv) {l l' : List (Fin p × Fin p)} (h : List.Perm l l') : (∀ P ∈ l, On d P) → sumL d iv l = sumL d iv l' := by
  induction h with
  | nil => intro _; rfl
  | cons x _ ih => intro hh; show add d iv x _ = add d iv x _; rw [ih fun Q hq => hh Q (by simp [hq])]
  | swap x y l =>
    intro hh
    show add d iv y (add d iv x _) = add d iv x (add d iv y _)
    have hx := hh x (by simp)
    have hy := hh y (by simp)
    have hl : On d (sumL d iv l) := c.sum_on fun Q hq => hh Q (by simp [hq])
    rw [← c.assoc hy hx hl, ← c.assoc hx hy hl, add_comm x y]
  | trans h1 h2 i1 i2 => intro hh; rw [i1 hh, i2 fun Q hq => hh Q (h1.mem_iff.2 hq)]
theorem Crv.sum_map (c : Crv d i iv) {P : Fin p × Fin p} (hp : On d P) : ∀ {l : List (Fin p × Fin p)}, (∀ P ∈ l, On d P) →
    sumL d iv (l.map (add d iv P)) = add d iv (mul d iv l.length P) (sumL d iv l)
  | [], _ => (c.add_zero _).symm
  | Q :: l, h => by
    have hl : ∀ P ∈ l, On d P := fun R hr => h R (by simp [hr])
    show add d iv (add d iv P Q) (sumL d iv (l.map (add d iv P))) = add d iv (add d iv (mul d iv l.length P) P) (add d iv Q (sumL d iv l))
    rw [c.sum_map hp hl, add_comm (mul d iv l.length P) P, c.four hp (h Q (by simp)) (c.mul_on hp _) (c.sum_on hl)]
/-- all points -/
def pts (d : Fin p) : List (Fin p × Fin p) := (List.finRange p).flatMap fun y => ((List.finRange p).filter fun x => decide (On d (x, y))).map fun x => (x, y)
theorem pts_mem {P : Fin p × Fin p} : P ∈ pts d ↔ On d P := by
  unfold pts
  simp only [List.mem_flatMap, List.mem_finRange, true_and, List.mem_map, List.mem_filter, decide_eq_true_eq]
  constructor
  · rintro ⟨y, x, h, rfl⟩; exact h
  · intro h; exact ⟨P.2, P.1, h, rfl⟩
theorem pts_nodup : (pts d).Nodup := by
  unfold pts List.Nodup
  rw [List.pairwise_flatMap]
  constructor
  · intro y _
    rw [List.pairwise_map]
    exact ((List.nodup_finRange p).sublist List.filter_sublist).imp fun h e => h (congrArg Prod.fst e)
  · refine (List.nodup_finRange p).imp fun {a b} h x hx y hy e => h ?_
    obtain ⟨x1, _, rfl⟩ := List.mem_map.1 hx
    obtain ⟨x2, _, rfl⟩ := List.mem_map.1 hy
    exact congrArg Prod.snd e
theorem sum_le {α : Type} (f : α → Nat) (k : Nat) : ∀ l : List α, (∀ a ∈ l, f a ≤ k) → (l.map f).sum ≤ k * l.length
  | [], _ => by simp
  | a :: l, h => by
    have h1 := sum_le f k l fun b hb => h b (by simp [hb])
    have h2 := h a (by simp)
    rw [List.map_cons, List.sum_cons, List.length_cons, Nat.mul_add]
    omega
theorem Crv.two_x (c : Crv d i iv) {x x' y : Fin p} (h : On d (x, y)) (k : On d (x', y)) : x' = x ∨ x' = -x := by
  have h : y * y = x * x + 1 + d * (x * x) * (y * y) := h
  have k : y * y = x' * x' + 1 + d * (x' * x') * (y * y) := k
  have e : (1 + d * (y * y)) * ((x' - x) * (x' + x)) = 0 := by grind
  have n : 1 + d * (y * y) ≠ 0 := by
    intro e
    have hi := c.ii
    have : i * i = d * (y * y) := by grind
    have hy := c.nsq i y this
    rw [hy] at e
    exact c.one (by grind)
  have e := (c.hz e).resolve_left n
  rcases c.hz e with e | e
  · left; grind
  · right; grind
theorem Crv.pts_le (c : Crv d i iv) : (pts d).length ≤ 2 * p := by
  unfold pts
  rw [List.length_flatMap]
  have := sum_le (fun y : Fin p => (((List.finRange p).filter fun x => decide (On d (x, y))).map fun x => (x, y)).length) 2 (List.finRange p) ?_
  · rw [List.length_finRange] at this; exact this
  · intro y _
    show (List.map _ _).length ≤ 2
    rw [List.length_map]
    cases hl : (List.finRange p).filter fun x => decide (On d (x, y)) with
    | nil => simp
    | cons x l =>
      rw [← hl]
      have hx : On d (x, y) := by
        have : x ∈ (List.finRange p).filter fun x => decide (On d (x, y)) := by rw [hl]; simp
        simpa using this
      have hn : ((List.finRange p).filter fun x => decide (On d (x, y))).Nodup := (List.nodup_finRange p).sublist List.filter_sublist
      refine hn.length_le_of_subset (l₂ := [x, -x]) fun x' hx' => ?_
      have hx' : On d (x', y) := by simpa using hx'
      rcases c.two_x hx hx' with e | e <;> simp [e]
theorem Crv.cancel (c : Crv d i iv) {P S : Fin p × Fin p} (hp : On d P) (hs : On d S) (h : add d iv P S = S) : P = (0, 1) := by
  have : add d iv (add d iv P S) (-S.1, S.2) = (0, 1) := by rw [h, c.add_neg hs]
  rw [c.assoc hp hs (on_neg hs), c.add_neg hs, c.add_zero] at this
  exact this
theorem Crv.lagrange (c : Crv d i iv) {P : Fin p × Fin p} (hp : On d P) : mul d iv (pts d).length P = (0, 1) := by
  have hs : ∀ Q ∈ pts d, On d Q := fun Q h => pts_mem.1 h
  have hn := on_neg hp
  have inj : ∀ {Q R : Fin p × Fin p}, On d Q → On d R → add d iv P Q = add d iv P R → Q = R := by
    intro Q R hq hr e
    have e1 : add d iv (add d iv (-P.1, P.2) P) Q = add d iv (add d iv (-P.1, P.2) P) R := by rw [c.assoc hn hp hq, c.assoc hn hp hr, e]
    rw [add_comm (-P.1, P.2) P, c.add_neg hp, c.zero_add, c.zero_add] at e1
    exact e1
  have hperm : List.Perm ((pts d).map (add d iv P)) (pts d) := by
    refine (List.perm_ext_iff_of_nodup ?_ pts_nodup).2 fun Q => ?_
    · unfold List.Nodup
      rw [List.pairwise_map]
      exact List.Pairwise.imp_of_mem (fun ha hb h e => h (inj (hs _ ha) (hs _ hb) e)) (pts_nodup (d := d))
    · rw [List.mem_map, pts_mem]
      constructor
      · rintro ⟨R, hr, rfl⟩; exact c.add_on hp (hs R hr)
      · intro hq
        refine ⟨add d iv (-P.1, P.2) Q, pts_mem.2 (c.add_on hn hq), ?_⟩
        rw [← c.assoc hp hn hq, c.add_neg hp, c.zero_add]
  have e := c.sum_map hp hs
  rw [← c.sum_perm hperm.symm hs] at e
  exact c.cancel (c.mul_on hp _) (c.sum_on hs) e.symm
/-- of a prime order -/
theorem Crv.ord_prime (c : Crv d i iv) {P : Fin p × Fin p} (hp : On d P) {L n : Nat} (hL : ∀ k, k ∣ L → k = 1 ∨ k = L) (hl : mul d iv L P = (0, 1)) (h0 : P ≠ (0, 1))
    (hn : mul d iv n P = (0, 1)) : L ∣ n := by
  have g := c.mul_gcd hp n L hn hl
  rcases hL _ (Nat.gcd_dvd_right n L) with e | e
  · rw [e, c.mul_one] at g; exact absurd g h0
  · rw [← e]; exact Nat.gcd_dvd_left n L
theorem Crv.ord_eight (c : Crv d i iv) {P : Fin p × Fin p} (hp : On d P) {n : Nat} (h8 : mul d iv 8 P = (0, 1)) (h4 : mul d iv 4 P ≠ (0, 1)) (hn : mul d iv n P = (0, 1)) : 8 ∣ n := by
  have g := c.mul_gcd hp n 8 hn h8
  have hd := Nat.gcd_dvd_right n 8
  have hd' := Nat.gcd_dvd_left n 8
  generalize Nat.gcd n 8 = k at *
  have hk : k ≤ 8 := Nat.le_of_dvd (by decide) hd
  have : k = 8 ∨ k ∣ 4 := by
    clear g hd' hn h4 h8 hp c
    rcases hd with ⟨q, hq⟩
    have : k = 0 ∨ k = 1 ∨ k = 2 ∨ k = 3 ∨ k = 4 ∨ k = 5 ∨ k = 6 ∨ k = 7 ∨ k = 8 := by omega
    rcases this with r | r | r | r | r | r | r | r | r <;> subst r
    · omega
    · right; decide
    · right; decide
    · omega
    · right; decide
    · omega
    · omega
    · omega
    · left; rfl
  rcases this with r | r
  · rw [← r]; exact hd'
  · exact absurd (c.mul_of_dvd hp r g) h4
/-- there are eight times L points -/
theorem Crv.order (c : Crv d i iv) {B T : Fin p × Fin p} (hB : On d B) (hT : On d T) {L : Nat} (hL : ∀ k, k ∣ L → k = 1 ∨ k = L) (hl : mul d iv L B = (0, 1)) (h0 : B ≠ (0, 1))
    (h8 : mul d iv 8 T = (0, 1)) (h4 : mul d iv 4 T ≠ (0, 1)) (hlt : 2 * p < 16 * L) (hodd : L % 2 = 1) {P : Fin p × Fin p} (hp : On d P) : mul d iv (8 * L) P = (0, 1) := by
  have a := c.ord_prime hB hL hl h0 (c.lagrange hB)
  have b := c.ord_eight hT h8 h4 (c.lagrange hT)
  have z := c.pts_le
  have pos : 0 < (pts d).length := List.length_pos_of_mem (pts_mem.2 (on_zero (d := d)))
  have l := c.lagrange hp
  generalize (pts d).length = N at *
  have cop : Nat.Coprime 8 L := by
    have h1 := Nat.gcd_dvd_left 8 L
    have h2 := Nat.gcd_dvd_right 8 L
    rcases hL _ h2 with e | e
    · exact e
    · exfalso
      rw [e] at h1
      have hle : L ≤ 8 := Nat.le_of_dvd (by decide) h1
      obtain ⟨q, hq⟩ := h1
      have : L = 1 ∨ L = 3 ∨ L = 5 ∨ L = 7 := by omega
      rcases this with r | r | r | r <;> subst r
      · exact h0 ((c.mul_one B).symm.trans hl)
      all_goals omega
  obtain ⟨k, hk⟩ := cop.mul_dvd_of_dvd_of_dvd b a
  have : k = 1 := by
    have k0 : k ≠ 0 := fun e => by rw [e] at hk; omega
    by_cases k2 : k < 2
    · omega
    · exfalso
      have : 8 * L * 2 ≤ 8 * L * k := Nat.mul_le_mul_left _ (by omega)
      omega
  rw [this, Nat.mul_one] at hk
  rw [← hk]; exact l

/-! ## Points with a denominator -/
abbrev Qd (p : Nat) := Fin p × Fin p × Fin p × Fin p
def Rep (q : Qd p) (P : Fin p × Fin p) : Prop := q.2.2.1 ≠ 0 ∧ q.1 = P.1 * q.2.2.1 ∧ q.2.1 = P.2 * q.2.2.1 ∧ q.2.2.2 = P.1 * P.2 * q.2.2.1
def qplus (d : Fin p) (q r : Qd p) : Qd p :=
  let a := (q.2.1 - q.1) * (r.2.1 - r.1)
  let b := (q.2.1 + q.1) * (r.2.1 + r.1)
  let c := q.2.2.2 * r.2.2.2 * d
  let z := q.2.2.1 * r.2.2.1
  let e := b - a
  let f := z + z - (c + c)
  let g := z + z + (c + c)
  let h := b + a
  (e * f, g * h, f * g, e * h)
theorem Crv.rep_of (c : Crv d i iv) (P : Fin p × Fin p) : Rep (P.1, P.2, 1, P.1 * P.2) P := by
  refine ⟨c.one, ?_, ?_, ?_⟩ <;> dsimp only <;> grind
theorem Crv.rep_plus (c : Crv d i iv) {q r : Qd p} {P Q : Fin p × Fin p} (hq : Rep q P) (hr : Rep r Q) (h1 : On d P) (h2 : On d Q) : Rep (qplus d q r) (add d iv P Q) := by
  obtain ⟨X, Y, Z, T⟩ := q
  obtain ⟨X', Y', Z', T'⟩ := r
  obtain ⟨x1, y1⟩ := P
  obtain ⟨x2, y2⟩ := Q
  obtain ⟨z0, hx, hy, ht⟩ := hq
  obtain ⟨z0', hx', hy', ht'⟩ := hr
  have hB0 := c.pos h1 h2
  have hD0 := c.neg h1 h2
  have hB := c.hiv _ hB0
  have hD := c.hiv _ hD0
  dsimp only at *
  subst hx hy ht hx' hy' ht'
  unfold Rep qplus add
  dsimp only
  have e1 : (y1 * Z + x1 * Z) * (y2 * Z' + x2 * Z') - (y1 * Z - x1 * Z) * (y2 * Z' - x2 * Z') = (Z * Z') * (2 * (x1 * y2 + x2 * y1)) := by grind
  have e2 : Z * Z' + Z * Z' - (x1 * y1 * Z * (x2 * y2 * Z') * d + x1 * y1 * Z * (x2 * y2 * Z') * d) = (Z * Z') * (2 * (1 - d * (x1 * x2 * y1 * y2))) := by grind
  have e3 : Z * Z' + Z * Z' + (x1 * y1 * Z * (x2 * y2 * Z') * d + x1 * y1 * Z * (x2 * y2 * Z') * d) = (Z * Z') * (2 * (1 + d * (x1 * x2 * y1 * y2))) := by grind
  have e4 : (y1 * Z + x1 * Z) * (y2 * Z' + x2 * Z') + (y1 * Z - x1 * Z) * (y2 * Z' - x2 * Z') = (Z * Z') * (2 * (y1 * y2 + x1 * x2)) := by grind
  rw [e1, e2, e3, e4]
  have w0 := c.mulnz z0 z0'
  have t0 := c.two
  clear h1 h2 e1 e2 e3 e4
  generalize iv (1 + d * (x1 * x2 * y1 * y2)) = u at *
  generalize iv (1 - d * (x1 * x2 * y1 * y2)) = v at *
  generalize 1 + d * (x1 * x2 * y1 * y2) = B at *
  generalize 1 - d * (x1 * x2 * y1 * y2) = D at *
  generalize x1 * y2 + x2 * y1 = A at *
  generalize y1 * y2 + x1 * x2 = C at *
  generalize Z * Z' = w at *
  refine ⟨c.mulnz (c.mulnz w0 (c.mulnz t0 hD0)) (c.mulnz w0 (c.mulnz t0 hB0)), ?_, ?_, ?_⟩
  · have : A * u * (w * (2 * D) * (w * (2 * B))) = w * (2 * A) * (w * (2 * D)) * (B * u) := by grind
    rw [this, hB]; grind
  · have : C * v * (w * (2 * D) * (w * (2 * B))) = w * (2 * B) * (w * (2 * C)) * (D * v) := by grind
    rw [this, hD]; grind
  · have : A * u * (C * v) * (w * (2 * D) * (w * (2 * B))) = w * (2 * A) * (w * (2 * C)) * ((B * u) * (D * v)) := by grind
    rw [this, hB, hD]; grind
def qpoint (iv : Fin p → Fin p) (q : Qd p) : Fin p × Fin p := (q.1 * iv q.2.2.1, q.2.1 * iv q.2.2.1)
theorem Crv.rep_point (c : Crv d i iv) {q : Qd p} {P : Fin p × Fin p} (h : Rep q P) : qpoint iv q = P := by
  obtain ⟨z0, hx, hy, _⟩ := h
  have hz := c.hiv _ z0
  refine Prod.ext ?_ ?_
  · show q.1 * iv q.2.2.1 = P.1
    rw [hx]; grind
  · show q.2.1 * iv q.2.2.1 = P.2
    rw [hy]; grind

/-! ## The ladder: of a point one number, (1 + y) / (1 - y) -/
def tw (k : Fin p) (q : Fin p × Fin p) : Fin p × Fin p :=
  let s := (q.1 + q.2) * (q.1 + q.2)
  let t := (q.1 - q.2) * (q.1 - q.2)
  let e := s - t
  (s * t, e * (s + k * e))
def jo (u : Fin p) (q r : Fin p × Fin p) : Fin p × Fin p :=
  let a := (r.1 + r.2) * (q.1 - q.2)
  let b := (r.1 - r.2) * (q.1 + q.2)
  ((a + b) * (a + b), u * ((a - b) * (a - b)))
/-- what a pair stands for -/
def Rp (q : Fin p × Fin p) (y : Fin p) : Prop := q.1 + q.2 ≠ 0 ∧ q.1 - q.2 = y * (q.1 + q.2)
theorem jo_comm (u : Fin p) (q r : Fin p × Fin p) : jo u r q = jo u q r := by
  unfold jo; refine Prod.ext ?_ ?_ <;> dsimp only <;> grind
theorem Crv.tw_rep (c : Crv d i iv) {k : Fin p} (hk : k + 1 ≠ 0) (hd : d * (k + 1) = -k) {q P : Fin p × Fin p} (hq : Rp q P.2) (h : On d P) : Rp (tw k q) (add d iv P P).2 := by
  obtain ⟨X, Z⟩ := q
  obtain ⟨x, y⟩ := P
  obtain ⟨h0, h1⟩ := hq
  have hD0 := c.neg h h
  have hD := c.hiv _ hD0
  have hy0 : 1 + d * (y * y) ≠ 0 := by
    intro e
    have hi := c.ii
    have : i * i = d * (y * y) := by grind
    have hy := c.nsq i y this
    rw [hy] at e
    exact c.one (by grind)
  have h : y * y = x * x + 1 + d * (x * x) * (y * y) := h
  unfold Rp tw add
  dsimp only at *
  rw [h1]
  generalize X + Z = S at *
  clear h1
  have e1 : (1 + d * (y * y)) * (1 - d * (x * x * y * y)) = 1 + 2 * d * (y * y) - d * (y * y * (y * y)) := by grind
  have e2 : (1 + d * (y * y)) * (y * y + x * x) = d * (y * y * (y * y)) + 2 * (y * y) - 1 := by grind
  have e3 : S * S * (y * S * (y * S)) + (S * S - y * S * (y * S)) * (S * S + k * (S * S - y * S * (y * S))) = (S * S * (S * S)) * ((k + 1) * (1 + 2 * d * (y * y) - d * (y * y * (y * y)))) := by grind
  have e4 : S * S * (y * S * (y * S)) - (S * S - y * S * (y * S)) * (S * S + k * (S * S - y * S * (y * S))) = (S * S * (S * S)) * ((k + 1) * (d * (y * y * (y * y)) + 2 * (y * y) - 1)) := by grind
  rw [e3, e4, ← e1, ← e2]
  have ss := c.mulnz h0 h0
  refine ⟨c.mulnz (c.mulnz ss ss) (c.mulnz hk (c.mulnz hy0 hD0)), ?_⟩
  clear e1 e2 e3 e4 hd h
  generalize iv (1 - d * (x * x * y * y)) = v at *
  generalize 1 - d * (x * x * y * y) = D at *
  generalize 1 + d * (y * y) = B at *
  have : (y * y + x * x) * v * (S * S * (S * S) * ((k + 1) * (B * D))) = (S * S * (S * S)) * ((k + 1) * (B * (y * y + x * x))) * (D * v) := by grind
  rw [this, hD]; grind
theorem idL (x1 y1 x2 y2 d : Fin p) (h1 : y1*y1 = x1*x1 + 1 + d*(x1*x1)*(y1*y1)) (h2 : y2*y2 = x2*x2 + 1 + d*(x2*x2)*(y2*y2)) :
    (1 - d*(x1*x2*y1*y2) + (y1*y2 + x1*x2)) * (1 + d*(x1*x2*y1*y2) + (y1*y2 - x1*x2)) * ((y1 - y2)*(y1 - y2)) =
    (1 - d*(x1*x2*y1*y2) - (y1*y2 + x1*x2)) * (1 + d*(x1*x2*y1*y2) - (y1*y2 - x1*x2)) * ((y1 + y2)*(y1 + y2)) := by
  have g1 : (y1*y1 - x1*x1 - 1 - d*(x1*x1)*(y1*y1)) = 0 := by grind
  have g2 : (y2*y2 - x2*x2 - 1 - d*(x2*x2)*(y2*y2)) = 0 := by grind
  have g : (1 - d*(x1*x2*y1*y2) + (y1*y2 + x1*x2)) * (1 + d*(x1*x2*y1*y2) + (y1*y2 - x1*x2)) * ((y1 - y2)*(y1 - y2)) -
    (1 - d*(x1*x2*y1*y2) - (y1*y2 + x1*x2)) * (1 + d*(x1*x2*y1*y2) - (y1*y2 - x1*x2)) * ((y1 + y2)*(y1 + y2)) =
    (y1*y1 - x1*x1 - 1 - d*(x1*x1)*(y1*y1)) * (0 - 4*y1*x2*x2*y2*y2*y2*d - 4*y1*x2*x2*y2) + (y2*y2 - x2*x2 - 1 - d*(x2*x2)*(y2*y2)) * (0 - 4*y1*y1*y1*y2 + 4*y1*y2) := by clear g1 h1 g2 h2; grind
  rw [g1, g2] at g
  grind
theorem Crv.sq_zero (c : Crv d i iv) {a : Fin p} (h : a * a = 0) : a = 0 := (c.hz h).elim id id
theorem Crv.y_ne (c : Crv d i iv) {x0 y0 : Fin p} (hP : On d (x0, y0)) (h0 : x0 ≠ 0) (e : y0 * y0 = 1) : False := by
  have hP : y0 * y0 = x0 * x0 + 1 + d * (x0 * x0) * (y0 * y0) := hP
  rw [e] at hP
  have e2 : x0 * x0 * (1 + d) = 0 := by grind
  rcases c.hz e2 with e3 | e3
  · exact h0 (c.sq_zero e3)
  · have hi := c.ii
    exact c.one (c.nsq i 1 (by grind))
theorem Crv.u_ne (c : Crv d i iv) {x0 y0 u : Fin p} (hP : On d (x0, y0)) (h0 : x0 ≠ 0) (hu : u * (1 - y0) = 1 + y0) : u ≠ 0 := by
  intro e
  rw [e] at hu
  have h : y0 = -1 := by clear hP h0; grind
  exact c.y_ne hP h0 (by rw [h]; clear h hP h0 hu; grind)
theorem both_zero {m n y : Fin p} (e : m + n = 0) (h : m - n = y * 0) : 2 * m = 0 ∧ 2 * n = 0 := by constructor <;> grind
theorem both_zero' {m n : Fin p} (e : m + n = 0) (h : m - n = 0) : 2 * m = 0 ∧ 2 * n = 0 := by constructor <;> grind
/-- the sum of two whose difference is P -/
theorem Crv.jo_rep (c : Crv d i iv) {q r P Q : Fin p × Fin p} {u : Fin p} (hP : On d P) (hQ : On d Q) (h0 : P.1 ≠ 0) (hu : u * (1 - P.2) = 1 + P.2)
    (hq : Rp q Q.2) (hr : Rp r (add d iv Q P).2) : Rp (jo u q r) (add d iv Q (add d iv Q P)).2 := by
  have hR := c.add_on hQ hP
  have back : add d iv (add d iv Q P) (-Q.1, Q.2) = P := by rw [add_comm Q P, c.assoc hP hQ (on_neg hQ), c.add_neg hQ, c.add_zero]
  have dif : add d iv Q (-P.1, P.2) = add d iv Q (-P.1, P.2) := rfl
  generalize add d iv Q P = R at *
  clear dif
  obtain ⟨X, Z⟩ := q
  obtain ⟨X', Z'⟩ := r
  obtain ⟨x1, y1⟩ := Q
  obtain ⟨x2, y2⟩ := R
  obtain ⟨x0, y0⟩ := P
  obtain ⟨q0, q1⟩ := hq
  obtain ⟨r0, r1⟩ := hr
  have hD0 := c.neg hQ hR
  have hD := c.hiv _ hD0
  have hn := on_neg hQ
  have hB0 := c.neg hR hn
  have hB := c.hiv _ hB0
  have hA := c.hiv _ (c.pos hR hn)
  have id0 := idL x1 y1 x2 y2 d hQ hR
  have bx : (x2 * y1 + -x1 * y2) * iv (1 + d * (x2 * -x1 * y2 * y1)) = x0 := congrArg Prod.fst back
  have by0 : (y2 * y1 + x2 * -x1) * iv (1 - d * (x2 * -x1 * y2 * y1)) = y0 := congrArg Prod.snd back
  unfold Rp jo add
  dsimp only at *
  rw [q1, r1]
  have ny : ¬ (y1 = 0 ∧ y2 = 0) := by
    rintro ⟨e1, e2⟩
    apply h0
    rw [← bx, e1, e2]; grind
  have u0 : u ≠ 0 := c.u_ne hP h0 hu
  clear hn hQ hR back q1 r1 bx hA hP
  have e0 : d * (x2 * -x1 * y2 * y1) = -(d * (x1 * x2 * y1 * y2)) := by grind
  rw [show 1 - d * (x2 * -x1 * y2 * y1) = 1 + d * (x1 * x2 * y1 * y2) by grind] at hB hB0 by0
  rw [show y2 * y1 + x2 * -x1 = y1 * y2 - x1 * x2 by grind] at by0
  clear e0
  generalize iv (1 - d * (x1 * x2 * y1 * y2)) = v at *
  generalize iv (1 + d * (x1 * x2 * y1 * y2)) = w at *
  generalize X + Z = S at *
  generalize X' + Z' = S' at *
  have e1 : S' * (y1 * S) + y2 * S' * S = S * S' * (y1 + y2) := by grind
  have e2 : S' * (y1 * S) - y2 * S' * S = S * S' * (y1 - y2) := by grind
  rw [e1, e2]
  have s0 := c.mulnz q0 r0
  clear e1 e2 q0 r0
  generalize S * S' = s at *
  clear S S'
  -- y3 = C v, y0 = C' w
  have id1 : (1 + (y1 * y2 + x1 * x2) * v) * (1 + y0) * ((y1 - y2) * (y1 - y2)) = (1 - (y1 * y2 + x1 * x2) * v) * (1 - y0) * ((y1 + y2) * (y1 + y2)) := by
    rw [← by0]
    clear by0 hu ny u0
    generalize 1 - d * (x1 * x2 * y1 * y2) = D at *
    generalize 1 + d * (x1 * x2 * y1 * y2) = B at *
    generalize y1 * y2 + x1 * x2 = C at *
    generalize y1 * y2 - x1 * x2 = C' at *
    generalize (y1 - y2) * (y1 - y2) = m at *
    generalize (y1 + y2) * (y1 + y2) = n at *
    have a1 : 1 + C * v = (D + C) * v := by grind
    have a2 : 1 - C * v = (D - C) * v := by grind
    have a3 : 1 + C' * w = (B + C') * w := by grind
    have a4 : 1 - C' * w = (B - C') * w := by grind
    rw [a1, a2, a3, a4]
    have : (D + C) * v * ((B + C') * w) * m = (D + C) * (B + C') * m * (v * w) := by grind
    rw [this, id0]; grind
  have id2 : (s * (y1 + y2) * (s * (y1 + y2))) - u * (s * (y1 - y2) * (s * (y1 - y2))) = (y1 * y2 + x1 * x2) * v * ((s * (y1 + y2) * (s * (y1 + y2))) + u * (s * (y1 - y2) * (s * (y1 - y2)))) := by
    have n0 : 1 - y0 ≠ 0 := by
      intro e
      have : y0 = 1 := by grind
      rw [this] at hu
      exact c.two (by grind)
    refine c.canc n0 ?_
    generalize (y1 * y2 + x1 * x2) * v = y3 at *
    have id3 : (1 + y3) * (u * (1 - y0)) * ((y1 - y2) * (y1 - y2)) = (1 - y3) * (1 - y0) * ((y1 + y2) * (y1 + y2)) := by rw [hu]; exact id1
    clear id1 id0 hB hD hu by0
    have a1 : (1 - y0) * ((s * (y1 + y2) * (s * (y1 + y2))) - u * (s * (y1 - y2) * (s * (y1 - y2)))) - (1 - y0) * (y3 * ((s * (y1 + y2) * (s * (y1 + y2))) + u * (s * (y1 - y2) * (s * (y1 - y2))))) =
      s * s * ((1 - y3) * (1 - y0) * ((y1 + y2) * (y1 + y2)) - (1 + y3) * (u * (1 - y0)) * ((y1 - y2) * (y1 - y2))) := by clear id3; grind
    rw [id3] at a1
    grind
  refine ⟨?_, id2⟩
  intro e
  rw [e] at id2
  have t0 := c.two
  have a1 := (both_zero e id2).1
  have a2 := (both_zero e id2).2
  have a3 := c.sq_zero ((c.hz a1).resolve_left t0)
  have a4 := c.sq_zero ((c.hz ((c.hz a2).resolve_left t0)).resolve_left u0)
  have a5 := (c.hz a3).resolve_left s0
  have a6 := (c.hz a4).resolve_left s0
  apply ny
  exact ⟨(c.hz (both_zero' a5 a6).1).resolve_left t0, (c.hz (both_zero' a5 a6).2).resolve_left t0⟩

def rnd (k u : Fin p) (b : Bool) (s : (Fin p × Fin p) × (Fin p × Fin p)) : (Fin p × Fin p) × (Fin p × Fin p) :=
  bif b then (jo u s.2 s.1, tw k s.2) else (tw k s.1, jo u s.1 s.2)
def lad (k u : Fin p) (n : Nat) : Nat → (Fin p × Fin p) × (Fin p × Fin p)
  | 0 => ((1, 0), (u, 1))
  | j + 1 => rnd k u (n.testBit (255 - j)) (lad k u n j)
/-- what the ladder makes -/
def ladv (k : Fin p) (iv : Fin p → Fin p) (u : Fin p) (n : Nat) : Fin p := (lad k u n 256).1.1 * iv (lad k u n 256).1.2
def pl (iv : Fin p → Fin p) (y : Fin p) : Fin p := (1 + y) * iv (1 - y)
theorem next_bit (n j : Nat) (hj : j < 256) : n / 2 ^ (256 - (j + 1)) = 2 * (n / 2 ^ (256 - j)) + (n.testBit (255 - j)).toNat := by
  have e : 256 - j = (256 - (j + 1)) + 1 := by omega
  rw [show 255 - j = 256 - (j + 1) by omega, e, Nat.pow_succ, ← Nat.div_div_eq_div_mul, Nat.testBit_eq_decide_div_mod_eq]
  generalize n / 2 ^ (256 - (j + 1)) = m
  by_cases h : m % 2 = 1
  · rw [decide_eq_true h]; show m = 2 * (m / 2) + 1; omega
  · rw [decide_eq_false h]; show m = 2 * (m / 2) + 0; omega
theorem Crv.u_start (c : Crv d i iv) {u y : Fin p} (hu : u * (1 - y) = 1 + y) : Rp (u, 1) y := by
  have t := c.two
  refine ⟨fun e => t ?_, ?_⟩ <;> dsimp only at * <;> grind
theorem Crv.lad_rep (c : Crv d i iv) {k : Fin p} (hk : k + 1 ≠ 0) (hd : d * (k + 1) = -k) {P : Fin p × Fin p} {u : Fin p} (hP : On d P) (h0 : P.1 ≠ 0)
    (hu : u * (1 - P.2) = 1 + P.2) {n : Nat} (hn : n < 2 ^ 256) : ∀ j, j ≤ 256 →
    Rp (lad k u n j).1 (mul d iv (n / 2 ^ (256 - j)) P).2 ∧ Rp (lad k u n j).2 (mul d iv (n / 2 ^ (256 - j) + 1) P).2
  | 0, _ => by
    rw [show 256 - 0 = 256 from rfl, Nat.div_eq_of_lt hn, c.mul_one]
    refine ⟨⟨?_, ?_⟩, c.u_start hu⟩
    · show (1 : Fin p) + 0 ≠ 0
      have := c.one
      intro e; apply this; grind
    · show (1 : Fin p) - 0 = 1 * (1 + 0)
      grind
  | j + 1, hj => by
    obtain ⟨h1, h2⟩ := c.lad_rep hk hd hP h0 hu hn j (by omega)
    rw [next_bit n j (by omega)]
    generalize n / 2 ^ (256 - j) = m at *
    have hQ := c.mul_on hP m
    have hR := c.mul_on hP (m + 1)
    have h3 := c.jo_rep hP hQ h0 hu h1 h2
    have e1 : add d iv (mul d iv m P) (add d iv (mul d iv m P) P) = mul d iv (2 * m + 1) P := by
      rw [← c.assoc hQ hQ hP, ← c.mul_add hP, show 2 * m + 1 = (m + m) + 1 by omega]; rfl
    rw [e1] at h3
    show Rp (rnd k u (n.testBit (255 - j)) (lad k u n j)).1 _ ∧ Rp (rnd k u (n.testBit (255 - j)) (lad k u n j)).2 _
    cases n.testBit (255 - j) with
    | false =>
      refine ⟨?_, h3⟩
      have := c.tw_rep hk hd h1 hQ
      rw [← c.mul_add hP, show m + m = 2 * m by omega] at this
      exact this
    | true =>
      have := c.tw_rep hk hd h2 hR
      rw [← c.mul_add hP, show m + 1 + (m + 1) = 2 * m + 1 + 1 by omega] at this
      refine ⟨?_, this⟩
      show Rp (jo u (lad k u n j).2 (lad k u n j).1) _
      rw [jo_comm]; exact h3
theorem Crv.rp_val (c : Crv d i iv) (z : iv 0 = 0) {q : Fin p × Fin p} {y : Fin p} (h : Rp q y) : q.1 * iv q.2 = pl iv y := by
  obtain ⟨X, Z⟩ := q
  obtain ⟨h1, h2⟩ := h
  unfold pl
  dsimp only at *
  have t := c.two
  have e2 : 2 * Z = (1 - y) * (X + Z) := by grind
  have e3 : 2 * (X * (1 - y)) = 2 * ((1 + y) * Z) := by grind
  have e4 := c.canc t e3
  by_cases k : 1 - y = 0
  · rw [k, z]
    have : 2 * Z = 0 := by rw [e2, k]; grind
    rw [(c.hz this).resolve_left t, z]; grind
  · have zn : Z ≠ 0 := by
      intro e
      rw [e] at e2
      have : (1 - y) * (X + Z) = 0 := by rw [e, ← e2]; grind
      exact (c.mulnz k h1) this
    have a := c.hiv _ k
    have b := c.hiv _ zn
    refine c.canc k (c.canc zn ?_)
    clear h1 h2 e2 e3 zn t c z
    generalize iv (1 - y) = v at *
    generalize iv Z = w at *
    generalize 1 - y = D at *
    generalize 1 + y = C at *
    have a1 : Z * (D * (X * w)) = X * D * (Z * w) := by grind
    have a2 : Z * (D * (C * v)) = C * Z * (D * v) := by grind
    rw [a1, a2, a, b, e4]
def Zz (q : Fin p × Fin p) : Prop := q.1 = 0 ∨ q.2 = 0
theorem zz_tw {k : Fin p} {q : Fin p × Fin p} (h : Zz q) : Zz (tw k q) := by
  obtain ⟨X, Z⟩ := q
  right
  rcases h with h | h <;> dsimp only at h <;> subst h <;> unfold tw <;> dsimp only <;> grind
theorem zz_jo {q r : Fin p × Fin p} : Zz (jo 0 q r) := by right; unfold jo; dsimp only; grind
theorem lad_zero (k : Fin p) (n : Nat) : ∀ j, Zz (lad k 0 n j).1 ∧ Zz (lad k 0 n j).2
  | 0 => ⟨.inr rfl, .inl rfl⟩
  | j + 1 => by
    obtain ⟨h1, h2⟩ := lad_zero k n j
    show Zz (rnd k 0 (n.testBit (255 - j)) (lad k 0 n j)).1 ∧ Zz (rnd k 0 (n.testBit (255 - j)) (lad k 0 n j)).2
    cases n.testBit (255 - j) with
    | false => exact ⟨zz_tw h1, zz_jo⟩
    | true => exact ⟨zz_jo, zz_tw h2⟩
theorem ladv_zero (k : Fin p) (z : iv 0 = 0) (n : Nat) : ladv k iv 0 n = 0 := by
  unfold ladv
  rcases (lad_zero k n 256).1 with h | h <;> rw [h]
  · grind
  · rw [z]; grind
theorem Crv.mul_x (_ : Crv d i iv) {P : Fin p × Fin p} (h : P.1 = 0) : ∀ n, (mul d iv n P).1 = 0
  | 0 => rfl
  | n + 1 => by
    show (add d iv (mul d iv n P) P).1 = 0
    unfold add
    rw [Crv.mul_x ‹_› h n, h]; dsimp only; grind
theorem Crv.pl_zero (c : Crv d i iv) (z : iv 0 = 0) {P : Fin p × Fin p} (hP : On d P) (h : P.1 = 0) : pl iv P.2 = 0 := by
  have hP : P.2 * P.2 = P.1 * P.1 + 1 + d * (P.1 * P.1) * (P.2 * P.2) := hP
  rw [h] at hP
  generalize P.2 = y at *
  have e : (1 + y) * (1 - y) = 0 := by grind
  unfold pl
  rcases c.hz e with e | e <;> rw [e]
  · grind
  · rw [z]; grind
theorem one_of {y : Fin p} (e : 1 - y = 0) : y * y = 1 := by
  have : y = 1 := by grind
  rw [this]; grind
/-- the ladder goes on the curve -/
theorem Crv.lad_curve (c : Crv d i iv) (z : iv 0 = 0) {k : Fin p} (hk : k + 1 ≠ 0) (hd : d * (k + 1) = -k) {P : Fin p × Fin p} (hP : On d P) {n : Nat} (hn : n < 2 ^ 256) :
    ladv k iv (pl iv P.2) n = pl iv (mul d iv n P).2 := by
  by_cases h0 : P.1 = 0
  · rw [c.pl_zero z hP h0, ladv_zero k z, c.pl_zero z (c.mul_on hP n) (c.mul_x h0 n)]
  · have n1 : 1 - P.2 ≠ 0 := fun e => c.y_ne (x0 := P.1) (y0 := P.2) hP h0 (one_of e)
    have hu : pl iv P.2 * (1 - P.2) = 1 + P.2 := by
      have a := c.hiv _ n1
      unfold pl
      generalize iv (1 - P.2) = v at *
      generalize 1 - P.2 = D at *
      generalize 1 + P.2 = C at *
      clear hP hd hk h0 n1
      have : C * v * D = C * (D * v) := by grind
      rw [this, a]; grind
    have h := (c.lad_rep hk hd hP h0 hu hn 256 (Nat.le_refl _)).1
    rw [show 256 - 256 = 0 from rfl, Nat.pow_zero, Nat.div_one] at h
    exact c.rp_val z h

/-! ## The other curve: of those u that are of no point -/
def Sg (a b : Fin p × Fin p) : Prop := (a.1 = b.1 ∧ a.2 = -b.2) ∨ (a.1 = -b.1 ∧ a.2 = b.2)
theorem sg_tw {k k' : Fin p} (hk : k' = -(1 + k)) {a b : Fin p × Fin p} (h : Sg a b) : Sg (tw k' a) (tw k b) := by
  obtain ⟨X, Z⟩ := a
  obtain ⟨X', Z'⟩ := b
  left
  rcases h with ⟨h1, h2⟩ | ⟨h1, h2⟩ <;> dsimp only at h1 h2 <;> subst h1 h2 hk <;> unfold tw <;> dsimp only <;> constructor <;> grind
theorem sg_jo {u u' : Fin p} (hu : u' = -u) {a b a' b' : Fin p × Fin p} (h : Sg a b) (h' : Sg a' b') : Sg (jo u' a a') (jo u b b') := by
  obtain ⟨X, Z⟩ := a
  obtain ⟨X1, Z1⟩ := b
  obtain ⟨X2, Z2⟩ := a'
  obtain ⟨X3, Z3⟩ := b'
  left
  rcases h with ⟨h1, h2⟩ | ⟨h1, h2⟩ <;> rcases h' with ⟨h3, h4⟩ | ⟨h3, h4⟩ <;> dsimp only at h1 h2 h3 h4 <;> subst h1 h2 h3 h4 hu <;> unfold jo <;> dsimp only <;> constructor <;> grind
theorem sg_lad {k k' : Fin p} (hk : k' = -(1 + k)) {u u' : Fin p} (hu : u' = -u) (n : Nat) : ∀ j, Sg (lad k' u' n j).1 (lad k u n j).1 ∧ Sg (lad k' u' n j).2 (lad k u n j).2
  | 0 => by
    refine ⟨.inl ⟨rfl, ?_⟩, .inr ⟨hu, rfl⟩⟩
    show (0 : Fin p) = -0
    grind
  | j + 1 => by
    obtain ⟨h1, h2⟩ := sg_lad hk hu n j
    show Sg (rnd k' u' (n.testBit (255 - j)) (lad k' u' n j)).1 (rnd k u (n.testBit (255 - j)) (lad k u n j)).1 ∧ Sg (rnd k' u' (n.testBit (255 - j)) (lad k' u' n j)).2 (rnd k u (n.testBit (255 - j)) (lad k u n j)).2
    cases n.testBit (255 - j) with
    | false => exact ⟨sg_tw hk h1, sg_jo hu h1 h2⟩
    | true => exact ⟨sg_jo hu h2 h1, sg_tw hk h2⟩
theorem Crv.iv_neg (c : Crv d i iv) (z : iv 0 = 0) (a : Fin p) : iv (-a) = -iv a := by
  by_cases h : a = 0
  · rw [h, show -(0 : Fin p) = 0 by grind, z]; grind
  · have := c.hiv a h
    refine c.ivmul ?_
    generalize iv a = v at *
    grind
theorem Crv.ladv_neg (c : Crv d i iv) (z : iv 0 = 0) {k k' : Fin p} (hk : k' = -(1 + k)) (u : Fin p) (n : Nat) : ladv k iv u n = -ladv k' iv (-u) n := by
  unfold ladv
  rcases (sg_lad hk (u := u) rfl n 256).1 with ⟨h1, h2⟩ | ⟨h1, h2⟩ <;> rw [h1, h2]
  · rw [c.iv_neg z]; grind
  · grind
theorem Crv.other (c : Crv d i iv) {d' : Fin p} (h : d * d' = 1) : Crv d' i iv := by
  refine ⟨c.ii, c.hiv, c.two, fun x y e => ?_⟩
  have e1 : y * y = d * (x * x) := by rw [e]; clear e; grind
  have hx := c.nsq y x e1
  rw [hx] at e1
  exact c.sq_zero (by rw [e1]; clear e e1 hx; grind)
/-- each number is that of a point of the one curve or of the other -/
theorem Crv.exists_pt (c : Crv d i iv) {d' : Fin p} (h : d * d' = 1) (dich : ∀ a : Fin p, (∃ s, s * s = a) ∨ ∃ s, s * s = d * a) (u : Fin p) :
    (∃ P, On d P ∧ pl iv P.2 = u) ∨ ∃ P, On d' P ∧ pl iv P.2 = -u := by
  have t := c.two
  by_cases hu : u + 1 = 0
  · right
    refine ⟨(i, 0), ?_, ?_⟩
    · have := c.ii
      unfold On; dsimp only; rw [this]; clear this hu t dich h c; grind
    · unfold pl; dsimp only
      rw [show (1 : Fin p) - 0 = 1 by grind, c.iv_one]; clear t dich h c; grind
  · have hw := c.hiv _ hu
    obtain ⟨y, hy⟩ : ∃ y, y = (u - 1) * iv (u + 1) := ⟨_, rfl⟩
    have y1 : (u + 1) * (1 + y) = 2 * u := by
      have : (u + 1) * (1 + y) = (u + 1) + (u - 1) * ((u + 1) * iv (u + 1)) := by rw [hy]; clear hw hy t dich h c; grind
      rw [this, hw]; clear hw hy this t dich h c; grind
    have y2 : (u + 1) * (1 - y) = 2 := by
      have : (u + 1) * (1 - y) = (u + 1) - (u - 1) * ((u + 1) * iv (u + 1)) := by rw [hy]; clear y1 hw hy t dich h c; grind
      rw [this, hw]; clear hw hy this t dich h c y1; grind
    clear hy
    have n1 : 1 - y ≠ 0 := fun e => t (by rw [← y2, e]; clear y1 y2 hw t dich h c; grind)
    have hv := c.hiv _ n1
    have hB0 : 1 + d * (y * y) ≠ 0 := by
      intro e
      have hi := c.ii
      have : i * i = d * (y * y) := by rw [hi]; clear y1 y2 hw hv n1 dich h c; grind
      have hy := c.nsq i y this
      rw [hy] at e
      exact c.one (by clear this hi y1 y2 hw hv n1 dich h c; grind)
    have hB := c.hiv _ hB0
    obtain ⟨s, hs⟩ | ⟨s, hs, hy0⟩ : (∃ s, s * s = (y * y - 1) * (1 + d * (y * y))) ∨ ∃ s, s * s = d * ((y * y - 1) * (1 + d * (y * y))) ∧ y ≠ 0 := by
      by_cases hy0 : y = 0
      · left
        refine ⟨i, ?_⟩
        rw [c.ii, hy0]; clear y1 y2 hw hv n1 dich h c hB hB0 hy0; grind
      · rcases dich ((y * y - 1) * (1 + d * (y * y))) with ⟨s, hs⟩ | ⟨s, hs⟩
        · exact .inl ⟨s, hs⟩
        · exact .inr ⟨s, hs, hy0⟩
    · left
      refine ⟨(s * iv (1 + d * (y * y)), y), ?_, ?_⟩
      · unfold On; dsimp only
        generalize iv (1 + d * (y * y)) = v at *
        have e1 : s * v * (s * v) * (1 + d * (y * y)) = y * y - 1 := by
          have : s * v * (s * v) * (1 + d * (y * y)) = s * s * v * ((1 + d * (y * y)) * v) := by clear hs hB y1 y2 hw hv n1 dich h c hB0; grind
          rw [this, hB, hs]
          have : (y * y - 1) * (1 + d * (y * y)) * v * 1 = (y * y - 1) * ((1 + d * (y * y)) * v) := by clear this hs hB y1 y2 hw hv n1 dich h c hB0; grind
          rw [this, hB]; clear this hs hB y1 y2 hw hv n1 dich h c hB0; grind
        clear hs hB y1 y2 hw hv n1 dich h c hB0
        grind
      · unfold pl; dsimp only
        refine c.canc n1 (c.canc hu ?_)
        generalize iv (1 - y) = v at *
        have : (u + 1) * ((1 - y) * ((1 + y) * v)) = (u + 1) * (1 + y) * ((1 - y) * v) := by clear hs hB y1 y2 hw hv n1 dich h c hB0; grind
        rw [this, y1, hv]
        have : (u + 1) * ((1 - y) * u) = (u + 1) * (1 - y) * u := by clear this hs hB y1 y2 hw hv n1 dich h c hB0; grind
        rw [this, y2]; clear this hs hB y1 y2 hw hv n1 dich h c hB0; grind
    · right
      have hw' := c.hiv _ hy0
      obtain ⟨w, hw''⟩ : ∃ w, w = iv y := ⟨_, rfl⟩
      rw [← hw''] at hw'
      refine ⟨(i * s * iv (1 + d * (y * y)), w), ?_, ?_⟩
      · unfold On; dsimp only
        have hi := c.ii
        generalize iv (1 + d * (y * y)) = v at *
        have e1 : i * s * v * (i * s * v) * (1 + d * (y * y)) = -(d * (y * y - 1)) := by
          have : i * s * v * (i * s * v) * (1 + d * (y * y)) = i * i * (s * s) * v * ((1 + d * (y * y)) * v) := by clear hs hB y1 y2 hw hv n1 dich h c hB0 hw' hi; grind
          rw [this, hB, hs, hi]
          have : -1 * (d * ((y * y - 1) * (1 + d * (y * y)))) * v * 1 = -(d * (y * y - 1)) * ((1 + d * (y * y)) * v) := by clear this hs hB y1 y2 hw hv n1 dich h c hB0 hw' hi; grind
          rw [this, hB]; clear this hs hB y1 y2 hw hv n1 dich h c hB0 hw' hi; grind
        generalize i * s * v * (i * s * v) = X at *
        clear hs hB y1 y2 hw hv n1 dich hB0 hi t hu
        -- X (1 + d y^2) = d (1 - y^2); y w = 1; d d' = 1
        have e2 : d' * (w * w) * (X * (1 + d * (y * y))) = d' * (w * w) * -(d * (y * y - 1)) := by rw [e1]
        have e3 : d' * (w * w) * (X * (1 + d * (y * y))) = X * (d' * (w * w)) + X * (d * d') * (y * w) * (y * w) := by clear e1 e2 hw' h c; grind
        have e4 : d' * (w * w) * -(d * (y * y - 1)) = (d * d') * (w * w) - (d * d') * (y * w) * (y * w) := by clear e1 e2 e3 hw' h c; grind
        rw [e3, e4, h, hw'] at e2
        clear e1 e3 e4 c
        grind
      · unfold pl; dsimp only
        have f1 : y * (1 + w) = y + 1 := by clear hs hB y1 y2 hw hv n1 dich h c hB0; grind
        have f2 : y * (1 - w) = y - 1 := by clear f1 hs hB y1 y2 hw hv n1 dich h c hB0; grind
        have n2 : 1 - w ≠ 0 := fun e => n1 (by
          rw [e] at f2
          clear hs hB y1 y2 hw hv n1 dich h c hB0 f1 hw' hw'' e
          grind)
        have hv' := c.hiv _ n2
        refine c.canc n2 (c.canc hy0 (c.canc hu ?_))
        generalize iv (1 - w) = v at *
        have a1 : (u + 1) * (y * ((1 - w) * ((1 + w) * v))) = (u + 1) * (y * (1 + w)) * ((1 - w) * v) := by clear f1 f2 hs hB y1 y2 hw hv n1 dich h c hB0 hw' hw''; grind
        have a2 : (u + 1) * (y * ((1 - w) * -u)) = (u + 1) * (y * (1 - w)) * -u := by clear a1 f1 f2 hs hB y1 y2 hw hv n1 dich h c hB0 hw' hw''; grind
        rw [a1, a2, f1, f2, hv']
        clear a1 a2 f1 f2 hs hB hw hv n1 dich h c hB0 hw' hw'' hv' n2
        have b1 : (u + 1) * (y + 1) * 1 = (u + 1) * (1 + y) := by clear y1 y2; grind
        have b2 : (u + 1) * (y - 1) * -u = (u + 1) * (1 - y) * u := by clear y1 y2 b1; grind
        rw [b1, b2, y1, y2]
/-- whoever comes first -/
theorem Crv.ladder (c : Crv d i iv) (z : iv 0 = 0) {k : Fin p} (hk : k + 1 ≠ 0) (hk0 : k ≠ 0) (hd : d * (k + 1) = -k) {d' : Fin p} (h : d * d' = 1) (dich : ∀ a : Fin p, (∃ s, s * s = a) ∨ ∃ s, s * s = d * a) (u : Fin p) :
    ∃ f : Nat → Fin p, (∀ n, n < 2 ^ 256 → ladv k iv u n = f n) ∧ ∀ m n, m < 2 ^ 256 → ladv k iv (f n) m = f (m * n) := by
  have c' := c.other h
  rcases c.exists_pt h dich u with ⟨P, hP, hu⟩ | ⟨P, hP, hu⟩
  · refine ⟨fun n => pl iv (mul d iv n P).2, fun n hn => ?_, fun m n hm => ?_⟩
    · rw [← hu, c.lad_curve z hk hd hP hn]
    · show ladv k iv (pl iv (mul d iv n P).2) m = _
      rw [c.lad_curve z hk hd (c.mul_on hP n) hm, c.mul_mul hP]
  · have hk' : -(1 + k) + 1 ≠ 0 := fun e => hk0 (by clear hd h dich hu hP c c'; grind)
    have hd' : d' * (-(1 + k) + 1) = - -(1 + k) := by
      have : d' * (d * (k + 1)) = d' * -k := by rw [hd]
      have e : d' * (d * (k + 1)) = d * d' * (k + 1) := by clear this hd h dich hu hP c c'; grind
      rw [e, h] at this
      clear e hd h dich hu hP c c'
      grind
    refine ⟨fun n => -pl iv (mul d' iv n P).2, fun n hn => ?_, fun m n hm => ?_⟩
    · rw [c.ladv_neg z rfl, ← hu, c'.lad_curve z hk' hd' hP hn]
    · show ladv k iv (-pl iv (mul d' iv n P).2) m = _
      rw [c.ladv_neg z rfl, show - -pl iv (mul d' iv n P).2 = pl iv (mul d' iv n P).2 by grind, c'.lad_curve z hk' hd' (c'.mul_on hP n) hm, c'.mul_mul hP]
end Go.Edw
