/-
  The functions of terms: all stand in the parts before.
-/
import Derived.Test.YtnoghkpofpaeeaaGreatFns2
