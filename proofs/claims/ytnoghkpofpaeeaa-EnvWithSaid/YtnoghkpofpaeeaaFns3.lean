/-
  The functions of terms: all stand in the first part.
-/
import Derived.Test.YtnoghkpofpaeeaaFns1

