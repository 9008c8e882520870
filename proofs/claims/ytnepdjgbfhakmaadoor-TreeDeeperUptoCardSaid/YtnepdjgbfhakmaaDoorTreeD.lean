/- Trees: the places of a kind. -/
import Derived.Test.YtnepdjgbfhakmaaDoorTree9
namespace Go.Proofs.YtnepdjgbfhakmaaDoor
set_option linter.unusedVariables false
set_option linter.unusedSimpArgs false
open Go.RowKit Go.Shelf
attribute [local go_sem] Oper.semAt_some

/-- The kinds that have places. -/
def placedK : List Int := [1, 10, 11, 13, 14, 15, 16, 18, 17, 32, 58, 59, 65, 67, 81, 82, 2, 3, 63, 19, 20, 21, 23, 29, 34, 60, 64, 22, 24, 30, 25, 26, 27, 28, 31, 33, 40, 41, 45, 42, 43, 80, 44, 46, 47, 48, 57, 49, 50, 51, 52, 53, 54, 56, 55, 61, 62, 66, 83, 85, 84, 86]
/-- The places of a kind: is there a row for all kids, and which. -/
def placesP (kd : Int) : Bool × List PP :=
  if kd = 1 then (false, []) else
  if kd = 10 then (false, []) else
  if kd = 11 then (false, []) else
  if kd = 13 then (false, []) else
  if kd = 14 then (false, []) else
  if kd = 15 then (false, []) else
  if kd = 16 then (false, []) else
  if kd = 18 then (false, []) else
  if kd = 17 then (false, []) else
  if kd = 32 then (false, []) else
  if kd = 58 then (false, []) else
  if kd = 59 then (false, []) else
  if kd = 65 then (false, []) else
  if kd = 67 then (false, []) else
  if kd = 81 then (false, []) else
  if kd = 82 then (false, []) else
  if kd = 2 then (true, [pAny]) else
  if kd = 3 then (true, [pS]) else
  if kd = 63 then (true, [pS]) else
  if kd = 19 then (true, [pE]) else
  if kd = 20 then (true, [(pOf [21])]) else
  if kd = 21 then (false, [pE]) else
  if kd = 23 then (false, [pE]) else
  if kd = 29 then (false, [pE]) else
  if kd = 34 then (false, [pE]) else
  if kd = 60 then (false, [pE]) else
  if kd = 64 then (false, [pE]) else
  if kd = 22 then (false, [(rowsB (pOf [67])), (rowsB pPlain), (pOr (pOf [63]) pE)]) else
  if kd = 24 then (false, [pE, pE]) else
  if kd = 30 then (false, [pE, pE]) else
  if kd = 25 then (false, [pE, pE, pE]) else
  if kd = 26 then (false, [isSpotB, pE]) else
  if kd = 27 then (false, [pE, (rowsB pT), (rowsB pE)]) else
  if kd = 28 then (false, [isPathB, (rowsB pT), (rowsB pE)]) else
  if kd = 31 then (false, [(rowsB pE)]) else
  if kd = 33 then (false, [pE, pT]) else
  if kd = 40 then (false, [(pOr pT (pOf [1])), pE]) else
  if kd = 41 then (false, [(rowsB (pOf [67])), (rowsB pPlain), (pOr pT (pOf [1])), (pOf [63])]) else
  if kd = 45 then (false, [(rowsB (pOf [67])), (rowsB pPlain), (pOr pT (pOf [1])), (pOf [63])]) else
  if kd = 42 then (false, [(rowsB (pOf [67])), (pOr (pOf [43]) (pOf [1])), (rowsB (pOf [80])), isMembersB]) else
  if kd = 43 then (false, [(rowsB pT)]) else
  if kd = 80 then (false, [(rowsB pT)]) else
  if kd = 44 then (false, [(pOr pT (pOf [1])), (pOr pE (pOf [1]))]) else
  if kd = 46 then (false, [(rowsB (pOf [66])), (pOf [63])]) else
  if kd = 47 then (true, [(pOf [48])]) else
  if kd = 48 then (false, [(pOr pE (pOf [1]))]) else
  if kd = 57 then (false, [(pOr pE (pOf [1]))]) else
  if kd = 49 then (true, [(pOr pS (pOf [50]))]) else
  if kd = 50 then (false, [isExportedB]) else
  if kd = 51 then (false, [(rowsB (pOf [67])), (rowsB (pOf [80])), (pOf [84])]) else
  if kd = 52 then (false, [(rowsB (pOf [67])), pT]) else
  if kd = 53 then (false, [pE, (pOf [63]), (pOr (pOf [63, 53]) (pOf [1]))]) else
  if kd = 54 then (false, [pE, (pOf [63])]) else
  if kd = 56 then (false, [pE, (pOf [63])]) else
  if kd = 55 then (false, [(pOr pLet (pOf [1])), (pOr pE (pOf [1])), (pOr pE (pOf [1])), (pOf [63])]) else
  if kd = 61 then (false, [(pOf [63]), (pOr (pOf [62]) (pOf [1])), (pOr (pOf [63]) (pOf [1]))]) else
  if kd = 62 then (false, [(pOf [63])]) else
  if kd = 66 then (false, [(pOr pT (pOf [1]))]) else
  if kd = 83 then (false, [pT]) else
  if kd = 85 then (false, [pT]) else
  if kd = 84 then (true, [(pOf [85])]) else
  if kd = 86 then (false, [(rowsB pPlain), pT]) else
  (false, [])
end Go.Proofs.YtnepdjgbfhakmaaDoor
